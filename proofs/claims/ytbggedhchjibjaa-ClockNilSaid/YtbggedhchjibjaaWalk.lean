/- Printed by gen2.py: functions as plain Lean functions, each with its equality with the machine run. -/
import Derived.Test.YtbggedhchjibjaaProg
import Derived.Test.YtbggedhchjibjaaAmZC
namespace Go.Am.Ytbggedhchjibjaa
open Go.Proofs
noncomputable abbrev P : Program := Try.prog
noncomputable def td2 : TD := { und := .int .i64, size := 1, bytes := 8, zero := (.dat true (.int .i64) ((0 : Int) : Int)), cmp := true }
theorem tdOk2 : TdOk P 2 td2 := tdOk_of (i := infoAt P 2) (cs := cellsOfTD td2) (by kernel_rfl) (by kernel_rfl) (by kernel_rfl) (by kernel_rfl) (show P.underlying 2 = some (.int .i64) by kernel_rfl) (fun _ => ⟨by kernel_rfl, by kernel_rfl⟩)
noncomputable def td3 : TD := { und := .int .i64, size := 1, bytes := 8, zero := (.dat true (.int .i64) ((0 : Int) : Int)), cmp := true }
theorem tdOk3 : TdOk P 3 td3 := tdOk_of (i := infoAt P 3) (cs := cellsOfTD td3) (by kernel_rfl) (by kernel_rfl) (by kernel_rfl) (by kernel_rfl) (show P.underlying 3 = some (.int .i64) by kernel_rfl) (fun _ => ⟨by kernel_rfl, by kernel_rfl⟩)
noncomputable def td4 : TD := { und := .bool, size := 1, bytes := 1, zero := (.dat true (.bool) (false : Bool)), cmp := true }
theorem tdOk4 : TdOk P 4 td4 := tdOk_of (i := infoAt P 4) (cs := cellsOfTD td4) (by kernel_rfl) (by kernel_rfl) (by kernel_rfl) (by kernel_rfl) (show P.underlying 4 = some .bool by kernel_rfl) (fun _ => ⟨by kernel_rfl, by kernel_rfl⟩)
noncomputable def td22 : TD := { und := .slice 3, size := 1, bytes := 24, zero := .nils, cmp := false }
theorem tdOk22 : TdOk P 22 td22 := tdOk_of (i := infoAt P 22) (cs := cellsOfTD td22) (by kernel_rfl) (by kernel_rfl) (by kernel_rfl) (by kernel_rfl) (show P.underlying 22 = some (.slice 3) by kernel_rfl) (fun h => by cases h)
noncomputable def td25 : TD := { und := .ptr 59, size := 1, bytes := 8, zero := .nilp, cmp := false }
theorem tdOk25 : TdOk P 25 td25 := tdOk_of (i := infoAt P 25) (cs := cellsOfTD td25) (by kernel_rfl) (by kernel_rfl) (by kernel_rfl) (by kernel_rfl) (show P.underlying 25 = some (.pointer 59) by kernel_rfl) (fun h => by cases h)
noncomputable def td26 : TD := { und := .int .i64, size := 1, bytes := 8, zero := (.dat true (.int .i64) ((0 : Int) : Int)), cmp := true }
theorem tdOk26 : TdOk P 26 td26 := tdOk_of (i := infoAt P 26) (cs := cellsOfTD td26) (by kernel_rfl) (by kernel_rfl) (by kernel_rfl) (by kernel_rfl) (show P.underlying 26 = some (.int .i64) by kernel_rfl) (fun _ => ⟨by kernel_rfl, by kernel_rfl⟩)
noncomputable def td33 : TD := { und := .int .u64, size := 1, bytes := 8, zero := (.dat true (.int .u64) ((0 : Int) : Int)), cmp := true }
theorem tdOk33 : TdOk P 33 td33 := tdOk_of (i := infoAt P 33) (cs := cellsOfTD td33) (by kernel_rfl) (by kernel_rfl) (by kernel_rfl) (by kernel_rfl) (show P.underlying 33 = some (.int .u64) by kernel_rfl) (fun _ => ⟨by kernel_rfl, by kernel_rfl⟩)
noncomputable def td35 : TD := { und := .slice 33, size := 1, bytes := 24, zero := .nils, cmp := false }
theorem tdOk35 : TdOk P 35 td35 := tdOk_of (i := infoAt P 35) (cs := cellsOfTD td35) (by kernel_rfl) (by kernel_rfl) (by kernel_rfl) (by kernel_rfl) (show P.underlying 35 = some (.slice 33) by kernel_rfl) (fun h => by cases h)
noncomputable def td56 : TD := { und := .map 33 3, size := 1, bytes := 8, zero := .nilm, cmp := false }
theorem tdOk56 : TdOk P 56 td56 := tdOk_of (i := infoAt P 56) (cs := cellsOfTD td56) (by kernel_rfl) (by kernel_rfl) (by kernel_rfl) (by kernel_rfl) (show P.underlying 56 = some (.map 33 3) by kernel_rfl) (fun h => by cases h)
noncomputable def td57 : TD := { und := .slice 62, size := 1, bytes := 24, zero := .nils, cmp := false }
theorem tdOk57 : TdOk P 57 td57 := tdOk_of (i := infoAt P 57) (cs := cellsOfTD td57) (by kernel_rfl) (by kernel_rfl) (by kernel_rfl) (by kernel_rfl) (show P.underlying 57 = some (.slice 62) by kernel_rfl) (fun h => by cases h)
noncomputable def td59 : TD := { und := .struct [(0, 2), (1, 2), (2, 33), (3, 57), (4, 56)], size := 5, bytes := 56, zero := (.pair (.dat true (.int .i64) ((0 : Int) : Int)) (.pair (.dat true (.int .i64) ((0 : Int) : Int)) (.pair (.dat true (.int .u64) ((0 : Int) : Int)) (.pair .nils .nilm)))), cmp := false }
theorem tdOk59 : TdOk P 59 td59 := tdOk_of (i := infoAt P 59) (cs := cellsOfTD td59) (by kernel_rfl) (by kernel_rfl) (by kernel_rfl) (by kernel_rfl) (undStruct (fieldsAt P 59) (by kernel_rfl) (by kernel_rfl) (by kernel_rfl)) (fun h => by cases h)
noncomputable def td62 : TD := { und := .struct [(0, 33), (1, 2), (2, 33)], size := 3, bytes := 24, zero := (.dat true (.pair (.int .u64) (.pair (.int .i64) (.int .u64))) (((0 : Int), ((0 : Int), (0 : Int))) : (Int × (Int × Int)))), cmp := true }
theorem tdOk62 : TdOk P 62 td62 := tdOk_of (i := infoAt P 62) (cs := cellsOfTD td62) (by kernel_rfl) (by kernel_rfl) (by kernel_rfl) (by kernel_rfl) (undStruct (fieldsAt P 62) (by kernel_rfl) (by kernel_rfl) (by kernel_rfl)) (fun _ => ⟨by kernel_rfl, by kernel_rfl⟩)
noncomputable def T : Tbl := tblOf [(2, td2), (3, td3), (4, td4), (22, td22), (25, td25), (26, td26), (33, td33), (35, td35), (56, td56), (57, td57), (59, td59), (62, td62)]
theorem T_ok : TblOk P T := (tblOk_cons tdOk2 (tblOk_cons tdOk3 (tblOk_cons tdOk4 (tblOk_cons tdOk22 (tblOk_cons tdOk25 (tblOk_cons tdOk26 (tblOk_cons tdOk33 (tblOk_cons tdOk35 (tblOk_cons tdOk56 (tblOk_cons tdOk57 (tblOk_cons tdOk59 (tblOk_cons tdOk62 tblOk_nil))))))))))))
theorem mixed : P.follows .mixedOrders = true := by kernel_rfl

-- f22: tontine/clock.fair
def fns22 (fuel : Nat) : Fns := fnsOf []
theorem fnsOk22 (fuel : Nat) : FnsOk P (fns22 fuel) := fnsOk_nil
def fi22 : Fr := ⟨[.d false (.int .i64)], [], 0⟩
def al22 : List (Tm × List To) := [(.d true (.bool), [])]
def an22 : AN := (.seq .leaf (.seq .leaf (.norm ⟨[2], padK 0 []⟩ (.ret []))))
def p22 (fuel : Nat) : Int → Option Bool := fun x1 => (bif (decide ((900 : Int) ≤ x1)) then (some (decide (x1 ≤ (1100 : Int)))) else (some false))
def F22 (fuel : Nat) : Fun := funOfA fi22 al22 (p22 fuel)
theorem run22 (fuel : Nat) : ∀ y : Int, runF Bool T (fns22 fuel) fuel (subsOf []) (defOf Try.f22 an22 0 [] []) (fi22.vs y) (fi22.os y) (altsDec al22) = p22 fuel y := by
  rintro x1
  kernel_rfl
theorem ok22 (fuel : Nat) : FunOk P 22 (funOfA fi22 al22 (p22 fuel)) :=
  funOfA_ok (subs := (subsOf [])) (an := an22) (room := 0) (ks := []) (g0 := []) (fuel := fuel) T_ok (fnsOk22 fuel) mixed (fn := Try.f22) (by kernel_rfl) (by kernel_rfl) subsOk_nil (by kernel_rfl) (fun _ => ⟨by kernel_rfl, by kernel_rfl⟩) (run22 fuel)

-- f9: tontine/clock.New
def fns9 (fuel : Nat) : Fns := fnsOf [(22, F22 fuel)]
theorem fnsOk9 (fuel : Nat) : FnsOk P (fns9 fuel) := (fnsOk_cons (ok22 fuel) fnsOk_nil)
def fi9 : Fr := ⟨[.d false (.int .i64), .d false (.int .i64)], [], 0⟩
def al9 : List (Tm × List To) := [(.tup (.cons (.c .nilp) (.cons (.d true (.int .i64)) (.c .nil))), [.free, .free]), (.tup (.cons (.c (.ptr 0 0 [])) (.cons (.d true (.int .i64)) (.c .nil))), [.box (.pair (.d true (.int .i64)) (.pair (.d true (.int .i64)) (.pair (.d true (.int .u64)) (.pair (.c .nils) (.c (.map 1)))))), .map (.int .u64) (.int .i64)])]
def an9 : AN := (.seq .leaf (.seq (.seq .leaf (.cond (.seq .leaf (.norm ⟨[4, 5], padK 4 []⟩ (.ret [none, none]))) .leaf)) (.seq (.region [(3, { touch := [2], base := 2, ro := false }), (5, { touch := [3], base := 3, ro := false })]) (.norm ⟨[4, 5], padK 2 [some (3, 0), some (2, 0)]⟩ (.ret [some (0, 0), some (1, 0)])))))
def p9 (fuel : Nat) : (Int × Int) → Option (Int ⊕ (Int × Int × Int × Int × (List (Int × Int)) × (List Nat) × Nat)) := fun (x1, x2) => (match p22 fuel x1 with | some z3 => (bif (!z3) then (some (.inl (1 : Int))) else (bif (decide (x2 < (0 : Int))) then (some (.inl (1 : Int))) else (bif (decide ((1099511627776 : Int) < x2)) then (some (.inl (1 : Int))) else (some (.inr ((0 : Int), x1, (IntKind.wrap .i64 ((1000 : Int) * x2)), (0 : Int), ([] : List (Int × Int)), ([] : List Nat), 0)))))) | none => none)
def F9 (fuel : Nat) : Fun := funOfA fi9 al9 (p9 fuel)
theorem run9 (fuel : Nat) : ∀ y : (Int × Int), runF (Int ⊕ (Int × Int × Int × Int × (List (Int × Int)) × (List Nat) × Nat)) T (fns9 fuel) fuel (subsOf []) (defOf Try.f9 an9 4 [] []) (fi9.vs y) (fi9.os y) (altsDec al9) = p9 fuel y := by
  rintro ⟨x1, x2⟩
  kernel_rfl
theorem ok9 (fuel : Nat) : FunOk P 9 (funOfA fi9 al9 (p9 fuel)) :=
  funOfA_ok (subs := (subsOf [])) (an := an9) (room := 4) (ks := []) (g0 := []) (fuel := fuel) T_ok (fnsOk9 fuel) mixed (fn := Try.f9) (by kernel_rfl) (by kernel_rfl) subsOk_nil (by kernel_rfl) (fun _ => ⟨by kernel_rfl, by kernel_rfl⟩) (run9 fuel)

-- f11: (*tontine/clock.Clock).Pass
def fns11 (fuel : Nat) : Fns := fnsOf []
theorem fnsOk11 (fuel : Nat) : FnsOk P (fns11 fuel) := fnsOk_nil
def fi11 : Fr := ⟨[.c (.ptr 0 0 []), .d false (.int .i64)], [.box (.pair (.d true (.int .i64)) (.pair (.d true (.int .i64)) (.pair (.d true (.int .u64)) (.pair (.c .nils) (.c (.map 1)))))), .map (.int .u64) (.int .i64)], 0⟩
def al11 : List (Tm × List To) := [(.d true (.int .i64), [.box (.pair (.d true (.int .i64)) (.pair (.d true (.int .i64)) (.pair (.d true (.int .u64)) (.pair (.c .nils) (.c (.map 1)))))), .map (.int .u64) (.int .i64)])]
def an11 : AN := (.seq .leaf (.seq (.block (.seq (.region [(1, { touch := [0] })]) (.cond (.seq .leaf (.norm ⟨[4], padK 0 [some (0, 0), some (1, 0)]⟩ (.ret [some (0, 0), some (1, 0)]))) (.seq (.region [(4, { touch := [0] }), (5, { touch := [0] }), (6, { touch := [0] }), (9, { touch := [0] }), (10, { touch := [0] }), (11, { touch := [0] })]) (.cond (.seq .leaf (.norm ⟨[4], padK 0 [some (0, 0), some (1, 0)]⟩ (.ret [some (0, 0), some (1, 0)]))) .leaf))))) (.seq (.region [(1, { touch := [0] }), (2, { touch := [0] }), (3, { touch := [0] }), (6, { touch := [0] }), (7, { touch := [0] }), (8, { touch := [0] }), (11, { touch := [0] }), (12, { touch := [0] }), (13, { touch := [0], ro := false })]) (.seq .leaf (.norm ⟨[4], padK 0 [some (0, 0), some (1, 0)]⟩ (.ret [some (0, 0), some (1, 0)]))))))
def p11 (fuel : Nat) : (Int × Int × Int × Int × (List (Int × Int)) × (List Nat) × Nat) → Option (Int × Int × Int × Int × (List (Int × Int)) × (List Nat) × Nat) := fun (x1, x2, x3, x4, x5, x6, x7) => (bif (decide (x1 < (0 : Int))) then (some ((1 : Int), x2, x3, x4, x5, x6, x7)) else (bif (decide ((2199023255552 : Int) < x1)) then (some ((61 : Int), x2, x3, x4, x5, x6, x7)) else let v8 := (IntKind.wrap .i64 (Int.tdiv (IntKind.wrap .i64 (x3 + (IntKind.wrap .i64 (x1 * x2)))) (1000 : Int))); (bif (decide ((1099511627776 : Int) < v8)) then (some ((61 : Int), x2, x3, x4, x5, x6, x7)) else (some ((0 : Int), x2, (IntKind.wrap .i64 (x3 + (IntKind.wrap .i64 (x1 * x2)))), x4, x5, x6, x7)))))
def F11 (fuel : Nat) : Fun := funOfA fi11 al11 (p11 fuel)
theorem run11 (fuel : Nat) : ∀ y : (Int × Int × Int × Int × (List (Int × Int)) × (List Nat) × Nat), runF (Int × Int × Int × Int × (List (Int × Int)) × (List Nat) × Nat) T (fns11 fuel) fuel (subsOf []) (defOf Try.f11 an11 0 [] [false, false]) (fi11.vs y) (fi11.os y) (altsDec al11) = p11 fuel y := by
  rintro ⟨x1, x2, x3, x4, x5, x6, x7⟩
  kernel_rfl
theorem ok11 (fuel : Nat) : FunOk P 11 (funOfA fi11 al11 (p11 fuel)) :=
  funOfA_ok (subs := (subsOf [])) (an := an11) (room := 0) (ks := []) (g0 := [false, false]) (fuel := fuel) T_ok (fnsOk11 fuel) mixed (fn := Try.f11) (by kernel_rfl) (by kernel_rfl) subsOk_nil (by kernel_rfl) (fun _ => ⟨by kernel_rfl, by kernel_rfl⟩) (run11 fuel)

-- f10: (*tontine/clock.Clock).Now
def fns10 (fuel : Nat) : Fns := fnsOf []
theorem fnsOk10 (fuel : Nat) : FnsOk P (fns10 fuel) := fnsOk_nil
def fi10 : Fr := ⟨[.c (.ptr 0 0 [])], [.box (.pair (.d true (.int .i64)) (.pair (.d true (.int .i64)) (.pair (.d true (.int .u64)) (.pair (.c .nils) (.c (.map 1)))))), .map (.int .u64) (.int .i64)], 0⟩
def al10 : List (Tm × List To) := [(.d true (.int .i64), [.box (.pair (.d true (.int .i64)) (.pair (.d true (.int .i64)) (.pair (.d true (.int .u64)) (.pair (.c .nils) (.c (.map 1)))))), .map (.int .u64) (.int .i64)])]
def an10 : AN := (.seq .leaf (.seq (.seq (.region [(1, { touch := [0] })]) (.cond (.seq .leaf .leaf) .leaf)) (.seq (.region [(1, { touch := [0] }), (2, { touch := [0] }), (3, { touch := [0] })]) (.norm ⟨[2], padK 0 [some (0, 0), some (1, 0)]⟩ (.ret [some (0, 0), some (1, 0)])))))
def p10 (fuel : Nat) : (Int × Int × Int × (List (Int × Int)) × (List Nat) × Nat) → Option (Int × Int × Int × Int × (List (Int × Int)) × (List Nat) × Nat) := fun (x1, x2, x3, x4, x5, x6) => (some ((IntKind.wrap .i64 (Int.tdiv x2 (1000 : Int))), x1, x2, x3, x4, x5, x6))
def F10 (fuel : Nat) : Fun := funOfA fi10 al10 (p10 fuel)
theorem run10 (fuel : Nat) : ∀ y : (Int × Int × Int × (List (Int × Int)) × (List Nat) × Nat), runF (Int × Int × Int × Int × (List (Int × Int)) × (List Nat) × Nat) T (fns10 fuel) fuel (subsOf []) (defOf Try.f10 an10 0 [] [false, false]) (fi10.vs y) (fi10.os y) (altsDec al10) = p10 fuel y := by
  rintro ⟨x1, x2, x3, x4, x5, x6⟩
  kernel_rfl
theorem ok10 (fuel : Nat) : FunOk P 10 (funOfA fi10 al10 (p10 fuel)) :=
  funOfA_ok (subs := (subsOf [])) (an := an10) (room := 0) (ks := []) (g0 := [false, false]) (fuel := fuel) T_ok (fnsOk10 fuel) mixed (fn := Try.f10) (by kernel_rfl) (by kernel_rfl) subsOk_nil (by kernel_rfl) (fun _ => ⟨by kernel_rfl, by kernel_rfl⟩) (run10 fuel)

-- f30: (*tontine/clock.Clock).before
def fns30 (fuel : Nat) : Fns := fnsOf []
theorem fnsOk30 (fuel : Nat) : FnsOk P (fns30 fuel) := fnsOk_nil
def fi30 : Fr := ⟨[.c (.ptr 0 0 []), .d false (.int .i64), .d false (.int .i64)], [.box (.pair (.d true (.int .i64)) (.pair (.d true (.int .i64)) (.pair (.d true (.int .u64)) (.pair (.c (.slc 1 0)) (.c (.map 2)))))), .arr 0 (.pair (.int .u64) (.pair (.int .i64) (.int .u64))), .map (.int .u64) (.int .i64)], 0⟩
def al30 : List (Tm × List To) := [(.d true (.bool), [.box (.pair (.d true (.int .i64)) (.pair (.d true (.int .i64)) (.pair (.d true (.int .u64)) (.pair (.c (.slc 1 0)) (.c (.map 2)))))), .arr 0 (.pair (.int .u64) (.pair (.int .i64) (.int .u64))), .map (.int .u64) (.int .i64)])]
def an30 : AN := (.seq .leaf (.seq (.region [(1, { touch := [0] }), (2, { touch := [0] }), (3, { touch := [0] }), (5, { touch := [1] }), (6, { touch := [1] }), (8, { touch := [0] }), (9, { touch := [0] }), (10, { touch := [0] }), (12, { touch := [1] }), (13, { touch := [1] }), (14, { touch := [3], base := 3, ro := false }), (15, { touch := [4], base := 4, ro := false }), (16, { touch := [3], ro := false }), (17, { touch := [4], ro := false })]) (.seq (.region [(0, { touch := [3] }), (1, { touch := [3] }), (2, { touch := [4] }), (3, { touch := [4] }), (6, { touch := [3] }), (7, { touch := [3] }), (8, { touch := [4] }), (9, { touch := [4] }), (12, { touch := [3] }), (13, { touch := [3] }), (14, { touch := [4] }), (15, { touch := [4] })]) (.norm ⟨[6], padK 2 [some (0, 0), some (1, 0), some (2, 0)]⟩ (.ret [some (0, 0), some (1, 0), some (2, 0)])))))
def p30 (fuel : Nat) : (Int × Int × Int × Int × Int × (List (Int × (Int × Int))) × (List (Int × Int)) × (List Nat) × Nat) → Option (Bool × Int × Int × Int × (List (Int × (Int × Int))) × (List (Int × Int)) × (List Nat) × Nat) := fun (x1, x2, x3, x4, x5, x6, x7, x8, x9) => (if 0 ≤ x1 ∧ x1 < ((List.length x6 : Nat) : Int) then (match (x6)[(Int.toNat x1)]? with | some y10 => (if 0 ≤ x2 ∧ x2 < ((List.length x6 : Nat) : Int) then (match (x6)[(Int.toNat x2)]? with | some y11 => (bif (decide (y10.2.1 < y11.2.1)) then (some (true, x3, x4, x5, x6, x7, x8, x9)) else (bif (decide (y10.2.1 = y11.2.1)) then (some ((decide (y10.2.2 < y11.2.2)), x3, x4, x5, x6, x7, x8, x9)) else (some (false, x3, x4, x5, x6, x7, x8, x9)))) | none => none) else none) | none => none) else none)
def F30 (fuel : Nat) : Fun := funOfA fi30 al30 (p30 fuel)
theorem run30 (fuel : Nat) : ∀ y : (Int × Int × Int × Int × Int × (List (Int × (Int × Int))) × (List (Int × Int)) × (List Nat) × Nat), runF (Bool × Int × Int × Int × (List (Int × (Int × Int))) × (List (Int × Int)) × (List Nat) × Nat) T (fns30 fuel) fuel (subsOf []) (defOf Try.f30 an30 2 [] [false, true, false]) (fi30.vs y) (fi30.os y) (altsDec al30) = p30 fuel y := by
  rintro ⟨x1, x2, x3, x4, x5, x6, x7, x8, x9⟩
  kernel_rfl
theorem ok30 (fuel : Nat) : FunOk P 30 (funOfA fi30 al30 (p30 fuel)) :=
  funOfA_ok (subs := (subsOf [])) (an := an30) (room := 2) (ks := []) (g0 := [false, true, false]) (fuel := fuel) T_ok (fnsOk30 fuel) mixed (fn := Try.f30) (by kernel_rfl) (by kernel_rfl) subsOk_nil (by kernel_rfl) (fun _ => ⟨by kernel_rfl, by kernel_rfl⟩) (run30 fuel)

-- f29: (*tontine/clock.Clock).swap
def fns29 (fuel : Nat) : Fns := fnsOf []
theorem fnsOk29 (fuel : Nat) : FnsOk P (fns29 fuel) := fnsOk_nil
def fi29 : Fr := ⟨[.c (.ptr 0 0 []), .d false (.int .i64), .d false (.int .i64)], [.box (.pair (.d true (.int .i64)) (.pair (.d true (.int .i64)) (.pair (.d true (.int .u64)) (.pair (.c (.slc 1 0)) (.c (.map 2)))))), .arr 0 (.pair (.int .u64) (.pair (.int .i64) (.int .u64))), .map (.int .u64) (.int .i64)], 0⟩
def al29 : List (Tm × List To) := [(.tup (.c .nil), [.box (.pair (.d true (.int .i64)) (.pair (.d true (.int .i64)) (.pair (.d true (.int .u64)) (.pair (.c (.slc 1 0)) (.c (.map 2)))))), .arr 0 (.pair (.int .u64) (.pair (.int .i64) (.int .u64))), .map (.int .u64) (.int .i64)])]
def an29 : AN := (.seq (.region [(1, { touch := [0] }), (2, { touch := [0] }), (3, { touch := [0] }), (6, { touch := [0] }), (7, { touch := [0] }), (8, { touch := [0] }), (11, { touch := [0] }), (12, { touch := [0] }), (13, { touch := [0] }), (15, { touch := [1] }), (16, { touch := [1] }), (18, { touch := [0] }), (19, { touch := [0] }), (20, { touch := [0] }), (22, { touch := [1] }), (23, { touch := [1] }), (24, { touch := [1] }), (25, { touch := [1], ro := false }), (26, { touch := [1] }), (27, { touch := [1], ro := false })]) (.region [(1, { touch := [0] }), (2, { touch := [0] }), (3, { touch := [0] }), (5, { touch := [0] }), (6, { touch := [0] }), (7, { touch := [0] }), (9, { touch := [1] }), (10, { touch := [1] }), (11, { touch := [1] }), (13, { touch := [0] }), (14, { touch := [0] }), (15, { touch := [0] }), (17, { touch := [0] }), (18, { touch := [0] }), (19, { touch := [0] }), (21, { touch := [1] }), (22, { touch := [1] }), (23, { touch := [1] }), (26, { touch := [2], ro := false }), (28, { touch := [2], ro := false }), (29, { touch := [2], ro := false }), (31, { touch := [2], ro := false })]))
def p29 (fuel : Nat) : (Int × Int × Int × Int × Int × (List (Int × (Int × Int))) × (List (Int × Int)) × (List Nat) × Nat) → Option (Int × Int × Int × (List (Int × (Int × Int))) × (List (Int × Int)) × (List Nat) × Nat) := fun (x1, x2, x3, x4, x5, x6, x7, x8, x9) => (if 0 ≤ x2 ∧ x2 < ((List.length x6 : Nat) : Int) then (match (x6)[(Int.toNat x2)]? with | some y10 => (if 0 ≤ x1 ∧ x1 < ((List.length x6 : Nat) : Int) then (match (x6)[(Int.toNat x1)]? with | some y11 => (if 0 ≤ x1 ∧ x1 < ((List.length x6 : Nat) : Int) then (match (x6)[(Int.toNat x1)]? with | some y12 => (if 0 ≤ x2 ∧ x2 < ((List.length (List.set x6 (Int.toNat x1) y10) : Nat) : Int) then (match ((List.set x6 (Int.toNat x1) y10))[(Int.toNat x2)]? with | some y13 => (if 0 ≤ x1 ∧ x1 < ((List.length (List.set (List.set x6 (Int.toNat x1) y10) (Int.toNat x2) y11) : Nat) : Int) then (match ((List.set (List.set x6 (Int.toNat x1) y10) (Int.toNat x2) y11))[(Int.toNat x1)]? with | some y14 => (if 0 ≤ x2 ∧ x2 < ((List.length (List.set (List.set x6 (Int.toNat x1) y10) (Int.toNat x2) y11) : Nat) : Int) then (match ((List.set (List.set x6 (Int.toNat x1) y10) (Int.toNat x2) y11))[(Int.toNat x2)]? with | some y15 => let v16 := (ment (.int .u64) (.int .i64) y14.1 (0 : Int) (x7, x8, x9)); (match (mstore (.int .u64) (.int .i64) v16.1.2 x1 (v16.2.1, v16.2.2.1, v16.2.2.2)) with | some z17 => let v18 := (ment (.int .u64) (.int .i64) y15.1 (0 : Int) (z17.1, z17.2.1, z17.2.2)); (match (mstore (.int .u64) (.int .i64) v18.1.2 x2 (v18.2.1, v18.2.2.1, v18.2.2.2)) with | some z19 => (some (x3, x4, x5, (List.set (List.set x6 (Int.toNat x1) y10) (Int.toNat x2) y11), z19.1, z19.2.1, z19.2.2)) | none => none) | none => none) | none => none) else none) | none => none) else none) | none => none) else none) | none => none) else none) | none => none) else none) | none => none) else none)
def F29 (fuel : Nat) : Fun := funOfA fi29 al29 (p29 fuel)
theorem run29 (fuel : Nat) : ∀ y : (Int × Int × Int × Int × Int × (List (Int × (Int × Int))) × (List (Int × Int)) × (List Nat) × Nat), runF (Int × Int × Int × (List (Int × (Int × Int))) × (List (Int × Int)) × (List Nat) × Nat) T (fns29 fuel) fuel (subsOf []) (defOf Try.f29 an29 0 [some (0, 0), some (1, 0), some (2, 0)] [false, true, false]) (fi29.vs y) (fi29.os y) (altsDec al29) = p29 fuel y := by
  rintro ⟨x1, x2, x3, x4, x5, x6, x7, x8, x9⟩
  kernel_rfl
theorem ok29 (fuel : Nat) : FunOk P 29 (funOfA fi29 al29 (p29 fuel)) :=
  funOfA_ok (subs := (subsOf [])) (an := an29) (room := 0) (ks := [some (0, 0), some (1, 0), some (2, 0)]) (g0 := [false, true, false]) (fuel := fuel) T_ok (fnsOk29 fuel) mixed (fn := Try.f29) (by kernel_rfl) (by kernel_rfl) subsOk_nil (by kernel_rfl) (fun _ => ⟨by kernel_rfl, by kernel_rfl⟩) (run29 fuel)

-- f23: (*tontine/clock.Clock).settle
def fns23 (fuel : Nat) : Fns := fnsOf [(30, F30 fuel), (29, F29 fuel)]
theorem fnsOk23 (fuel : Nat) : FnsOk P (fns23 fuel) := (fnsOk_cons (ok30 fuel) (fnsOk_cons (ok29 fuel) fnsOk_nil))
def fi23 : Fr := ⟨[.c (.ptr 0 0 []), .d false (.int .i64)], [.box (.pair (.d true (.int .i64)) (.pair (.d true (.int .i64)) (.pair (.d true (.int .u64)) (.pair (.c (.slc 1 0)) (.c (.map 2)))))), .arr 0 (.pair (.int .u64) (.pair (.int .i64) (.int .u64))), .map (.int .u64) (.int .i64)], 0⟩
def al23 : List (Tm × List To) := [(.tup (.c .nil), [.box (.pair (.d true (.int .i64)) (.pair (.d true (.int .i64)) (.pair (.d true (.int .u64)) (.pair (.c (.slc 1 0)) (.c (.map 2)))))), .arr 0 (.pair (.int .u64) (.pair (.int .i64) (.int .u64))), .map (.int .u64) (.int .i64)])]
def fx23_0 : Fr := ⟨[.c (.ptr 0 0 []), .d true (.int .i64), .fn 30 (.tup (.cons (.c (.ptr 0 0 [])) (.c .nil)))], [.box (.pair (.d true (.int .i64)) (.pair (.d true (.int .i64)) (.pair (.d true (.int .u64)) (.pair (.c (.slc 1 0)) (.c (.map 2)))))), .arr 0 (.pair (.int .u64) (.pair (.int .i64) (.int .u64))), .map (.int .u64) (.int .i64)], 0⟩
def fr23_0 : Fr := ⟨[.c (.ptr 0 0 []), .d true (.int .i64), .fn 30 (.tup (.cons (.c (.ptr 0 0 [])) (.c .nil)))], [.box (.pair (.d true (.int .i64)) (.pair (.d true (.int .i64)) (.pair (.d true (.int .u64)) (.pair (.c (.slc 1 0)) (.c (.map 2)))))), .arr 0 (.pair (.int .u64) (.pair (.int .i64) (.int .u64))), .map (.int .u64) (.int .i64)], 0⟩
noncomputable def c23_0 : Code := bodyAt Try.f23 [1, 0, 0]
def s23_0 (fuel : Nat) {R : Type} (F : (Int × Int × Int × Int × (List (Int × (Int × Int))) × (List (Int × Int)) × (List Nat) × Nat) → Option R) (k0 : (Int × Int × Int × Int × (List (Int × (Int × Int))) × (List (Int × Int)) × (List Nat) × Nat) → Option R) : (Int × Int × Int × Int × (List (Int × (Int × Int))) × (List (Int × Int)) × (List Nat) × Nat) → Option R := fun (x9, x10, x11, x12, x13, x14, x15, x16) => (bif (decide ((0 : Int) < x9)) then let v17 := (IntKind.wrap .i64 (Int.tdiv (IntKind.wrap .i64 (x9 - (1 : Int))) (2 : Int))); (match p30 fuel (x9, v17, x10, x11, x12, x13, x14, x15, x16) with | some z18 => (bif z18.1 then let v19 := (IntKind.wrap .i64 (Int.tdiv (IntKind.wrap .i64 (x9 - (1 : Int))) (2 : Int))); (match p29 fuel (x9, v19, z18.2.1, z18.2.2.1, z18.2.2.2.1, z18.2.2.2.2.1, z18.2.2.2.2.2.1, z18.2.2.2.2.2.2.1, z18.2.2.2.2.2.2.2) with | some z20 => let v21 := (IntKind.wrap .i64 (Int.tdiv (IntKind.wrap .i64 (x9 - (1 : Int))) (2 : Int))); (F (v21, z20.1, z20.2.1, z20.2.2.1, z20.2.2.2.1, z20.2.2.2.2.1, z20.2.2.2.2.2.1, z20.2.2.2.2.2.2)) | none => none) else (k0 (x9, z18.2.1, z18.2.2.1, z18.2.2.2.1, z18.2.2.2.2.1, z18.2.2.2.2.2.1, z18.2.2.2.2.2.2.1, z18.2.2.2.2.2.2.2))) | none => none) else (k0 (x9, x10, x11, x12, x13, x14, x15, x16)))
def l23_0 (fuel : Nat) {R : Type} (k0 : (Int × Int × Int × Int × (List (Int × (Int × Int))) × (List (Int × Int)) × (List Nat) × Nat) → Option R) : Nat → (Int × Int × Int × Int × (List (Int × (Int × Int))) × (List (Int × Int)) × (List Nat) × Nat) → Option R
  | 0, _ => none
  | n + 1, x => s23_0 fuel (l23_0 fuel k0 n) k0 x
def nm23_0 : Norm := ⟨[0, 1, 4], padK 0 [some (0, 0), some (1, 0), some (2, 0)]⟩
def an23_0 : AN := (.seq (.seq (.region [(8, { touch := [0, 1, 2], ro := false, loc := [0, 1, 2] })]) (.cond .leaf (.norm ⟨[0, 1, 4], padK 0 [some (0, 0), some (1, 0), some (2, 0)]⟩ .leaf))) (.block (.seq (.region [(5, { touch := [0, 1, 2], ro := false, loc := [0, 1, 2] })]) .leaf)))
def al23_0 : AN := .loop nm23_0 an23_0
noncomputable def d23_0 : Code := bodyAt Try.f23 [1, 0, 0, 0]
theorem e23_0 (fuel : Nat) {R : Type} (F : St → Option R) (k : AExit → St → Option R) : ∀ x : (Int × Int × Int × Int × (List (Int × (Int × Int))) × (List (Int × Int)) × (List Nat) × Nat), runK R T (fns23 fuel) fuel [false, true, false] (subsOf []) (partOf d23_0 an23_0) (fr23_0.st [0, 1, 4] x) (backTo R [false, true, false] nm23_0 F k) = s23_0 fuel (fun x => F (fr23_0.st [0, 1, 4] x)) (fun y => k (.exit 0) (fx23_0.st [0, 1, 4] y)) x := by
  rintro ⟨x9, x10, x11, x12, x13, x14, x15, x16⟩
  kernel_rfl
theorem u23_0 (fuel : Nat) {R : Type} (k : AExit → St → Option R) (x : (Int × Int × Int × Int × (List (Int × (Int × Int))) × (List (Int × Int)) × (List Nat) × Nat)) : runK R T (fns23 fuel) fuel [false, true, false] (subsOf []) (partOf c23_0 al23_0) (fr23_0.st [0, 1, 4] x) k = l23_0 fuel (fun y => k (.exit 0) (fx23_0.st [0, 1, 4] y)) fuel x :=
  loop_eq (mk := fr23_0.st [0, 1, 4]) (s := fun F x => s23_0 fuel F (fun y => k (.exit 0) (fx23_0.st [0, 1, 4] y)) x) (l := fun n x => l23_0 fuel (fun y => k (.exit 0) (fx23_0.st [0, 1, 4] y)) n x) (d := d23_0) (by kernel_rfl) (fun G x => by
    revert x
    rintro ⟨x9, x10, x11, x12, x13, x14, x15, x16⟩
    kernel_rfl) (fun F x => e23_0 fuel F k x) (fun _ => rfl) (fun _ _ => rfl) x
noncomputable def sub23_0 (fuel : Nat) (R : Type) : Sub R := Sub.of [0, 1, 4] c23_0 fr23_0 fun x k => l23_0 fuel (fun y => k (.exit 0) (fx23_0.st [0, 1, 4] y)) fuel x
theorem subOk23_0 (fuel : Nat) (R : Type) : SubOk P [false, true, false] 61 (sub23_0 fuel R) :=
  subOk_part (fns := (fns23 fuel)) (fuel := fuel) (subs := (subsOf [])) (an := al23_0) T_ok (fnsOk23 fuel) mixed subsOk_nil (by kernel_rfl) (by kernel_rfl) fun _ _ _ _ h => Sub.of_run (fun (x : (Int × Int × Int × Int × (List (Int × (Int × Int))) × (List (Int × Int)) × (List Nat) × Nat)) k => u23_0 fuel k x) h
def fx23_1 : Fr := ⟨[.c (.ptr 0 0 []), .d true (.int .i64), .fn 30 (.tup (.cons (.c (.ptr 0 0 [])) (.c .nil))), .d true (.int .i64)], [.box (.pair (.d true (.int .i64)) (.pair (.d true (.int .i64)) (.pair (.d true (.int .u64)) (.pair (.c (.slc 1 0)) (.c (.map 2)))))), .arr 0 (.pair (.int .u64) (.pair (.int .i64) (.int .u64))), .map (.int .u64) (.int .i64)], 0⟩
def fr23_1 : Fr := ⟨[.c (.ptr 0 0 []), .d true (.int .i64), .fn 30 (.tup (.cons (.c (.ptr 0 0 [])) (.c .nil))), .d true (.int .i64), .d true (.int .i64)], [.box (.pair (.d true (.int .i64)) (.pair (.d true (.int .i64)) (.pair (.d true (.int .u64)) (.pair (.c (.slc 1 0)) (.c (.map 2)))))), .arr 0 (.pair (.int .u64) (.pair (.int .i64) (.int .u64))), .map (.int .u64) (.int .i64)], 0⟩
noncomputable def c23_1 : Code := bodyAt Try.f23 [1, 1, 0, 0, 0, 1, 0, 1, 0]
def s23_1 (fuel : Nat) {R : Type} (F : (Int × Int × Int × Int × Int × Int × (List (Int × (Int × Int))) × (List (Int × Int)) × (List Nat) × Nat) → Option R) (k0 : (Int × Int × Int × Int × Int × (List (Int × (Int × Int))) × (List (Int × Int)) × (List Nat) × Nat) → Option R) : (Int × Int × Int × Int × Int × Int × (List (Int × (Int × Int))) × (List (Int × Int)) × (List Nat) × Nat) → Option R := fun (x39, x40, x41, x42, x43, x44, x45, x46, x47, x48) => let v49 := (IntKind.wrap .i64 ((IntKind.wrap .i64 ((2 : Int) * x39)) + (2 : Int))); (bif (decide (x41 ≤ v49)) then (bif (decide (x41 < ((List.length x45 : Nat) : Int))) then (match p30 fuel (x41, x40, x42, x43, x44, x45, x46, x47, x48) with | some z50 => (bif z50.1 then (F (x39, x41, (IntKind.wrap .i64 (x41 + (1 : Int))), z50.2.1, z50.2.2.1, z50.2.2.2.1, z50.2.2.2.2.1, z50.2.2.2.2.2.1, z50.2.2.2.2.2.2.1, z50.2.2.2.2.2.2.2)) else (F (x39, x40, (IntKind.wrap .i64 (x41 + (1 : Int))), z50.2.1, z50.2.2.1, z50.2.2.2.1, z50.2.2.2.2.1, z50.2.2.2.2.2.1, z50.2.2.2.2.2.2.1, z50.2.2.2.2.2.2.2))) | none => none) else (k0 (x39, x40, x42, x43, x44, x45, x46, x47, x48))) else (k0 (x39, x40, x42, x43, x44, x45, x46, x47, x48)))
def l23_1 (fuel : Nat) {R : Type} (k0 : (Int × Int × Int × Int × Int × (List (Int × (Int × Int))) × (List (Int × Int)) × (List Nat) × Nat) → Option R) : Nat → (Int × Int × Int × Int × Int × Int × (List (Int × (Int × Int))) × (List (Int × Int)) × (List Nat) × Nat) → Option R
  | 0, _ => none
  | n + 1, x => s23_1 fuel (l23_1 fuel k0 n) k0 x
def nm23_1 : Norm := ⟨[0, 1, 4, 5, 6], padK 0 [some (0, 0), some (1, 0), some (2, 0)]⟩
def an23_1 : AN := (.seq (.seq (.region [(8, { touch := [0] }), (9, { touch := [0] }), (10, { touch := [0] }), (11, { touch := [1] })]) (.cond .leaf (.norm ⟨[0, 1, 4, 5], padK 0 [some (0, 0), some (1, 0), some (2, 0)]⟩ .leaf))) (.seq (.block (.seq (.region [(3, { touch := [0, 1, 2], ro := false, loc := [0, 1, 2] })]) (.cond (.fin ⟨[0, 1, 4, 5, 6], padK 0 [some (0, 0), some (1, 0), some (2, 0)]⟩ .leaf) (.fin ⟨[0, 1, 4, 5, 6], padK 0 [some (0, 0), some (1, 0), some (2, 0)]⟩ .leaf)))) .leaf))
def al23_1 : AN := .loop nm23_1 an23_1
noncomputable def d23_1 : Code := bodyAt Try.f23 [1, 1, 0, 0, 0, 1, 0, 1, 0, 0]
theorem e23_1 (fuel : Nat) {R : Type} (F : St → Option R) (k : AExit → St → Option R) : ∀ x : (Int × Int × Int × Int × Int × Int × (List (Int × (Int × Int))) × (List (Int × Int)) × (List Nat) × Nat), runK R T (fns23 fuel) fuel [false, true, false] (subsOf [sub23_0 fuel R]) (partOf d23_1 an23_1) (fr23_1.st [0, 1, 4, 5, 6] x) (backTo R [false, true, false] nm23_1 F k) = s23_1 fuel (fun x => F (fr23_1.st [0, 1, 4, 5, 6] x)) (fun y => k (.exit 4) (fx23_1.st [0, 1, 4, 5] y)) x := by
  rintro ⟨x39, x40, x41, x42, x43, x44, x45, x46, x47, x48⟩
  kernel_rfl
theorem u23_1 (fuel : Nat) {R : Type} (k : AExit → St → Option R) (x : (Int × Int × Int × Int × Int × Int × (List (Int × (Int × Int))) × (List (Int × Int)) × (List Nat) × Nat)) : runK R T (fns23 fuel) fuel [false, true, false] (subsOf [sub23_0 fuel R]) (partOf c23_1 al23_1) (fr23_1.st [0, 1, 4, 5, 6] x) k = l23_1 fuel (fun y => k (.exit 4) (fx23_1.st [0, 1, 4, 5] y)) fuel x :=
  loop_eq (mk := fr23_1.st [0, 1, 4, 5, 6]) (s := fun F x => s23_1 fuel F (fun y => k (.exit 4) (fx23_1.st [0, 1, 4, 5] y)) x) (l := fun n x => l23_1 fuel (fun y => k (.exit 4) (fx23_1.st [0, 1, 4, 5] y)) n x) (d := d23_1) (by kernel_rfl) (fun G x => by
    revert x
    rintro ⟨x39, x40, x41, x42, x43, x44, x45, x46, x47, x48⟩
    kernel_rfl) (fun F x => e23_1 fuel F k x) (fun _ => rfl) (fun _ _ => rfl) x
noncomputable def sub23_1 (fuel : Nat) (R : Type) : Sub R := Sub.of [0, 1, 4, 5, 6] c23_1 fr23_1 fun x k => l23_1 fuel (fun y => k (.exit 4) (fx23_1.st [0, 1, 4, 5] y)) fuel x
theorem subOk23_1 (fuel : Nat) (R : Type) : SubOk P [false, true, false] 61 (sub23_1 fuel R) :=
  subOk_part (fns := (fns23 fuel)) (fuel := fuel) (subs := (subsOf [sub23_0 fuel R])) (an := al23_1) T_ok (fnsOk23 fuel) mixed (subsOk_cons (subOk23_0 fuel R) subsOk_nil) (by kernel_rfl) (by kernel_rfl) fun _ _ _ _ h => Sub.of_run (fun (x : (Int × Int × Int × Int × Int × Int × (List (Int × (Int × Int))) × (List (Int × Int)) × (List Nat) × Nat)) k => u23_1 fuel k x) h
def fx23_2 : Fr := ⟨[], [.box (.pair (.d true (.int .i64)) (.pair (.d true (.int .i64)) (.pair (.d true (.int .u64)) (.pair (.c (.slc 1 0)) (.c (.map 2)))))), .arr 0 (.pair (.int .u64) (.pair (.int .i64) (.int .u64))), .map (.int .u64) (.int .i64)], 0⟩
def fr23_2 : Fr := ⟨[.c (.ptr 0 0 []), .d true (.int .i64), .fn 30 (.tup (.cons (.c (.ptr 0 0 [])) (.c .nil)))], [.box (.pair (.d true (.int .i64)) (.pair (.d true (.int .i64)) (.pair (.d true (.int .u64)) (.pair (.c (.slc 1 0)) (.c (.map 2)))))), .arr 0 (.pair (.int .u64) (.pair (.int .i64) (.int .u64))), .map (.int .u64) (.int .i64)], 0⟩
noncomputable def c23_2 : Code := bodyAt Try.f23 [1, 1, 0]
def s23_2 (fuel : Nat) {R : Type} (F : (Int × Int × Int × Int × (List (Int × (Int × Int))) × (List (Int × Int)) × (List Nat) × Nat) → Option R) (k0 : (Int × Int × Int × (List (Int × (Int × Int))) × (List (Int × Int)) × (List Nat) × Nat) → Option R) : (Int × Int × Int × Int × (List (Int × (Int × Int))) × (List (Int × Int)) × (List Nat) × Nat) → Option R := fun (x30, x31, x32, x33, x34, x35, x36, x37) => let v38 := (IntKind.wrap .i64 ((IntKind.wrap .i64 ((2 : Int) * x30)) + (1 : Int))); (l23_1 fuel (fun (x51, x52, x53, x54, x55, x56, x57, x58, x59) => (bif (decide (x52 = x51)) then (k0 (x53, x54, x55, x56, x57, x58, x59)) else (match p29 fuel (x51, x52, x53, x54, x55, x56, x57, x58, x59) with | some z60 => (F (x52, z60.1, z60.2.1, z60.2.2.1, z60.2.2.2.1, z60.2.2.2.2.1, z60.2.2.2.2.2.1, z60.2.2.2.2.2.2)) | none => none))) fuel (x30, x30, v38, x31, x32, x33, x34, x35, x36, x37))
def l23_2 (fuel : Nat) {R : Type} (k0 : (Int × Int × Int × (List (Int × (Int × Int))) × (List (Int × Int)) × (List Nat) × Nat) → Option R) : Nat → (Int × Int × Int × Int × (List (Int × (Int × Int))) × (List (Int × Int)) × (List Nat) × Nat) → Option R
  | 0, _ => none
  | n + 1, x => s23_2 fuel (l23_2 fuel k0 n) k0 x
def nm23_2 : Norm := ⟨[0, 1, 4], padK 0 [some (0, 0), some (1, 0), some (2, 0)]⟩
def an23_2 : AN := (.block (.seq .leaf (.seq (.seq .leaf (.block (.hole ⟨[0, 1, 4, 5, 6], padK 0 [some (0, 0), some (1, 0), some (2, 0)]⟩ 1))) (.seq (.seq .leaf (.cond (.norm ⟨[], padK 0 [some (0, 0), some (1, 0), some (2, 0)]⟩ (.ret [some (0, 0), some (1, 0), some (2, 0)])) .leaf)) (.seq (.region [(3, { touch := [0, 1, 2], ro := false, loc := [0, 1, 2] })]) .leaf)))))
def al23_2 : AN := .loop nm23_2 an23_2
noncomputable def d23_2 : Code := bodyAt Try.f23 [1, 1, 0, 0]
theorem e23_2 (fuel : Nat) {R : Type} (F : St → Option R) (k : AExit → St → Option R) : ∀ x : (Int × Int × Int × Int × (List (Int × (Int × Int))) × (List (Int × Int)) × (List Nat) × Nat), runK R T (fns23 fuel) fuel [false, true, false] (subsOf [sub23_0 fuel R, sub23_1 fuel R]) (partOf d23_2 an23_2) (fr23_2.st [0, 1, 4] x) (backTo R [false, true, false] nm23_2 F k) = s23_2 fuel (fun x => F (fr23_2.st [0, 1, 4] x)) (fun y => k (.ret [some (0, 0), some (1, 0), some (2, 0)]) (fx23_2.st [] y)) x := by
  rintro ⟨x30, x31, x32, x33, x34, x35, x36, x37⟩
  kernel_rfl
theorem u23_2 (fuel : Nat) {R : Type} (k : AExit → St → Option R) (x : (Int × Int × Int × Int × (List (Int × (Int × Int))) × (List (Int × Int)) × (List Nat) × Nat)) : runK R T (fns23 fuel) fuel [false, true, false] (subsOf [sub23_0 fuel R, sub23_1 fuel R]) (partOf c23_2 al23_2) (fr23_2.st [0, 1, 4] x) k = l23_2 fuel (fun y => k (.ret [some (0, 0), some (1, 0), some (2, 0)]) (fx23_2.st [] y)) fuel x :=
  loop_eq (mk := fr23_2.st [0, 1, 4]) (s := fun F x => s23_2 fuel F (fun y => k (.ret [some (0, 0), some (1, 0), some (2, 0)]) (fx23_2.st [] y)) x) (l := fun n x => l23_2 fuel (fun y => k (.ret [some (0, 0), some (1, 0), some (2, 0)]) (fx23_2.st [] y)) n x) (d := d23_2) (by kernel_rfl) (fun G x => by
    revert x
    rintro ⟨x30, x31, x32, x33, x34, x35, x36, x37⟩
    kernel_rfl) (fun F x => e23_2 fuel F k x) (fun _ => rfl) (fun _ _ => rfl) x
noncomputable def sub23_2 (fuel : Nat) (R : Type) : Sub R := Sub.of [0, 1, 4] c23_2 fr23_2 fun x k => l23_2 fuel (fun y => k (.ret [some (0, 0), some (1, 0), some (2, 0)]) (fx23_2.st [] y)) fuel x
theorem subOk23_2 (fuel : Nat) (R : Type) : SubOk P [false, true, false] 61 (sub23_2 fuel R) :=
  subOk_part (fns := (fns23 fuel)) (fuel := fuel) (subs := (subsOf [sub23_0 fuel R, sub23_1 fuel R])) (an := al23_2) T_ok (fnsOk23 fuel) mixed (subsOk_cons (subOk23_0 fuel R) (subsOk_cons (subOk23_1 fuel R) subsOk_nil)) (by kernel_rfl) (by kernel_rfl) fun _ _ _ _ h => Sub.of_run (fun (x : (Int × Int × Int × Int × (List (Int × (Int × Int))) × (List (Int × Int)) × (List Nat) × Nat)) k => u23_2 fuel k x) h
def an23 : AN := (.seq .leaf (.seq (.block (.hole ⟨[0, 1, 4], padK 0 [some (0, 0), some (1, 0), some (2, 0)]⟩ 0)) (.block (.hole ⟨[0, 1, 4], padK 0 [some (0, 0), some (1, 0), some (2, 0)]⟩ 2))))
def p23 (fuel : Nat) : (Int × Int × Int × Int × (List (Int × (Int × Int))) × (List (Int × Int)) × (List Nat) × Nat) → Option (Int × Int × Int × (List (Int × (Int × Int))) × (List (Int × Int)) × (List Nat) × Nat) := fun (x1, x2, x3, x4, x5, x6, x7, x8) => (l23_0 fuel (fun (x22, x23, x24, x25, x26, x27, x28, x29) => (l23_2 fuel (fun (x61, x62, x63, x64, x65, x66, x67) => (some (x61, x62, x63, x64, x65, x66, x67))) fuel (x22, x23, x24, x25, x26, x27, x28, x29))) fuel (x1, x2, x3, x4, x5, x6, x7, x8))
def F23 (fuel : Nat) : Fun := funOfA fi23 al23 (p23 fuel)
theorem run23 (fuel : Nat) : ∀ y : (Int × Int × Int × Int × (List (Int × (Int × Int))) × (List (Int × Int)) × (List Nat) × Nat), runF (Int × Int × Int × (List (Int × (Int × Int))) × (List (Int × Int)) × (List Nat) × Nat) T (fns23 fuel) fuel (subsOf [sub23_0 fuel (Int × Int × Int × (List (Int × (Int × Int))) × (List (Int × Int)) × (List Nat) × Nat), sub23_1 fuel (Int × Int × Int × (List (Int × (Int × Int))) × (List (Int × Int)) × (List Nat) × Nat), sub23_2 fuel (Int × Int × Int × (List (Int × (Int × Int))) × (List (Int × Int)) × (List Nat) × Nat)]) (defOf Try.f23 an23 0 [] [false, true, false]) (fi23.vs y) (fi23.os y) (altsDec al23) = p23 fuel y := by
  rintro ⟨x1, x2, x3, x4, x5, x6, x7, x8⟩
  kernel_rfl
theorem ok23 (fuel : Nat) : FunOk P 23 (funOfA fi23 al23 (p23 fuel)) :=
  funOfA_ok (subs := (subsOf [sub23_0 fuel (Int × Int × Int × (List (Int × (Int × Int))) × (List (Int × Int)) × (List Nat) × Nat), sub23_1 fuel (Int × Int × Int × (List (Int × (Int × Int))) × (List (Int × Int)) × (List Nat) × Nat), sub23_2 fuel (Int × Int × Int × (List (Int × (Int × Int))) × (List (Int × Int)) × (List Nat) × Nat)])) (an := an23) (room := 0) (ks := []) (g0 := [false, true, false]) (fuel := fuel) T_ok (fnsOk23 fuel) mixed (fn := Try.f23) (by kernel_rfl) (by kernel_rfl) (subsOk_cons (subOk23_0 fuel _) (subsOk_cons (subOk23_1 fuel _) (subsOk_cons (subOk23_2 fuel _) subsOk_nil))) (by kernel_rfl) (fun _ => ⟨by kernel_rfl, by kernel_rfl⟩) (run23 fuel)

-- f12: (*tontine/clock.Clock).Set
def fns12 (fuel : Nat) : Fns := fnsOf [(23, F23 fuel)]
theorem fnsOk12 (fuel : Nat) : FnsOk P (fns12 fuel) := (fnsOk_cons (ok23 fuel) fnsOk_nil)
def fi12 : Fr := ⟨[.c (.ptr 0 0 []), .d false (.int .u64), .d false (.int .i64)], [.box (.pair (.d true (.int .i64)) (.pair (.d true (.int .i64)) (.pair (.d true (.int .u64)) (.pair (.c .nils) (.c (.map 1)))))), .map (.int .u64) (.int .i64)], 0⟩
def al12 : List (Tm × List To) := [(.d true (.int .i64), [.box (.pair (.d true (.int .i64)) (.pair (.d true (.int .i64)) (.pair (.d true (.int .u64)) (.pair (.c (.slc 2 0)) (.c (.map 1)))))), .map (.int .u64) (.int .i64), .arr 0 (.pair (.int .u64) (.pair (.int .i64) (.int .u64)))])]
def fx12_0 : Fr := ⟨[.d true (.int .i64)], [.box (.pair (.d true (.int .i64)) (.pair (.d true (.int .i64)) (.pair (.d true (.int .u64)) (.pair (.c (.slc 2 0)) (.c (.map 1)))))), .map (.int .u64) (.int .i64), .arr 0 (.pair (.int .u64) (.pair (.int .i64) (.int .u64)))], 3⟩
def fr12_0 : Fr := ⟨[.c (.ptr 0 0 []), .d true (.int .u64), .d true (.int .i64), .d true (.int .i64)], [.box (.pair (.d true (.int .i64)) (.pair (.d true (.int .i64)) (.pair (.d true (.int .u64)) (.pair (.c (.slc 2 0)) (.c (.map 1)))))), .map (.int .u64) (.int .i64), .arr 0 (.pair (.int .u64) (.pair (.int .i64) (.int .u64)))], 3⟩
noncomputable def c12_0 : Code := bodyAt Try.f12 [1, 1, 1, 1]
def j12_0 (fuel : Nat) {R : Type} (k0 : (Int × Int × Int × Int × (List (Int × Int)) × (List Nat) × Nat × (List (Int × (Int × Int)))) → Option R) : (Int × Int × Int × Int × Int × Int × (List (Int × Int)) × (List Nat) × Nat × (List (Int × (Int × Int)))) → Option R := fun (x10, x11, x12, x13, x14, x15, x16, x17, x18, x19) => (if 0 ≤ x12 ∧ x12 < ((List.length x19 : Nat) : Int) then (match (x19)[(Int.toNat x12)]? with | some y20 => (match p23 fuel (x12, x13, x14, (IntKind.wrap .u64 (x15 + (1 : Int))), (List.set x19 (Int.toNat x12) (x10, (x11, x15))), x16, x17, x18) with | some z21 => (k0 ((0 : Int), z21.1, z21.2.1, z21.2.2.1, z21.2.2.2.2.1, z21.2.2.2.2.2.1, z21.2.2.2.2.2.2, z21.2.2.2.1)) | none => none) | none => none) else none)
def al12_0 : AN := (.seq (.region [(1, { touch := [0] }), (2, { touch := [0] }), (3, { touch := [0] }), (8, { touch := [0] }), (9, { touch := [0] }), (10, { touch := [0] }), (12, { touch := [2] }), (13, { touch := [2], ro := false })]) (.seq (.region [(1, { touch := [0] }), (2, { touch := [0] }), (3, { touch := [0] }), (5, { touch := [0] }), (6, { touch := [0] }), (7, { touch := [0], ro := false })]) (.seq (.region [(2, { touch := [0, 1, 2], ro := false, loc := [0, 2, 1] })]) (.seq .leaf (.norm ⟨[6], padK 3 [some (0, 0), some (1, 0), some (2, 0)]⟩ (.ret [some (0, 0), some (1, 0), some (2, 0)]))))))
theorem u12_0 (fuel : Nat) {R : Type} (k : AExit → St → Option R) : ∀ x : (Int × Int × Int × Int × Int × Int × (List (Int × Int)) × (List Nat) × Nat × (List (Int × (Int × Int)))), runK R T (fns12 fuel) fuel [false, false] (subsOf []) (partOf c12_0 al12_0) (fr12_0.st [0, 1, 2, 7] x) k = j12_0 fuel (fun y => k (.ret [some (0, 0), some (1, 0), some (2, 0)]) (fx12_0.st [6] y)) x := by
  rintro ⟨x10, x11, x12, x13, x14, x15, x16, x17, x18, x19⟩
  kernel_rfl
noncomputable def sub12_0 (fuel : Nat) (R : Type) : Sub R := Sub.of [0, 1, 2, 7] c12_0 fr12_0 fun x k => j12_0 fuel (fun y => k (.ret [some (0, 0), some (1, 0), some (2, 0)]) (fx12_0.st [6] y)) x
theorem subOk12_0 (fuel : Nat) (R : Type) : SubOk P [false, false] 76 (sub12_0 fuel R) :=
  subOk_part (fns := (fns12 fuel)) (fuel := fuel) (subs := (subsOf [])) (an := al12_0) T_ok (fnsOk12 fuel) mixed subsOk_nil (by kernel_rfl) (by kernel_rfl) fun _ _ _ _ h => Sub.of_run (fun (x : (Int × Int × Int × Int × Int × Int × (List (Int × Int)) × (List Nat) × Nat × (List (Int × (Int × Int))))) k => u12_0 fuel k x) h
def an12 : AN := (.seq .leaf (.seq (.seq (.region [(1, { touch := [0] })]) (.cond (.seq .leaf (.co (.empty (.box 0 [.snd, .snd, .snd, .fst]) 5 (.pair (.int .u64) (.pair (.int .i64) (.int .u64)))) (.norm ⟨[6], padK 3 [some (0, 0), some (1, 0), some (5, 0)]⟩ (.ret [some (0, 0), some (1, 0), some (2, 0)])))) .leaf)) (.seq (.region [(1, { touch := [0] }), (2, { touch := [0] }), (3, { touch := [0] }), (5, { touch := [1] })]) (.seq (.seq .leaf (.cond (.fin ⟨[0, 1, 2, 7], padK 3 [some (0, 0), some (1, 0), some (4, 0)]⟩ (.seq (.seq (.region [(1, { touch := [0] }), (2, { touch := [0] }), (3, { touch := [0] })]) (.seq .leaf (.cond (.seq .leaf .leaf) .leaf))) (.seq (.region [(2, { touch := [0] }), (3, { touch := [0] }), (4, { touch := [0] }), (6, { touch := [3], base := 3, ro := false }), (7, { touch := [3, 4], base := 4, ro := false }), (8, { touch := [0] }), (9, { touch := [0] }), (10, { touch := [0], ro := false })]) (.region [(1, { touch := [0] }), (2, { touch := [0] }), (3, { touch := [0] }), (6, { touch := [1], ro := false })])))) (.fin ⟨[0, 1, 2, 7], padK 3 [some (0, 0), some (1, 0), some (5, 0)]⟩ (.finco (.empty (.box 0 [.snd, .snd, .snd, .fst]) 5 (.pair (.int .u64) (.pair (.int .i64) (.int .u64)))) .leaf)))) (.hole ⟨[0, 1, 2, 7], padK 3 [some (0, 0), some (1, 0), some (2, 0)]⟩ 0)))))
def p12 (fuel : Nat) : (Int × Int × Int × Int × Int × (List (Int × Int)) × (List Nat) × Nat) → Option (Int × Int × Int × Int × (List (Int × Int)) × (List Nat) × Nat × (List (Int × (Int × Int)))) := fun (x1, x2, x3, x4, x5, x6, x7, x8) => (bif (decide (x2 < (0 : Int))) then (some ((1 : Int), x3, x4, x5, x6, x7, x8, ([] : List (Int × (Int × Int))))) else (bif (decide ((1099511627776 : Int) < x2)) then (some ((1 : Int), x3, x4, x5, x6, x7, x8, ([] : List (Int × (Int × Int))))) else (bif (!(mfind (.int .u64) (.int .i64) x1 x6).isSome) then (if List.length [((0 : Int), ((0 : Int), (0 : Int)))] * 24 ≤ 140737488355328 then let v9 := (mput (.int .u64) (.int .i64) x1 (0 : Int) (x6, x7, x8)); (j12_0 fuel (fun (x22, x23, x24, x25, x26, x27, x28, x29) => (some (x22, x23, x24, x25, x26, x27, x28, x29))) (x1, x2, (0 : Int), x3, x4, x5, v9.1, v9.2.1, v9.2.2, [((0 : Int), ((0 : Int), (0 : Int)))])) else none) else (j12_0 fuel (fun (x30, x31, x32, x33, x34, x35, x36, x37) => (some (x30, x31, x32, x33, x34, x35, x36, x37))) (x1, x2, ((mfind (.int .u64) (.int .i64) x1 x6).getD (0 : Int)), x3, x4, x5, x6, x7, x8, ([] : List (Int × (Int × Int))))))))
def F12 (fuel : Nat) : Fun := funOfA fi12 al12 (p12 fuel)
theorem run12 (fuel : Nat) : ∀ y : (Int × Int × Int × Int × Int × (List (Int × Int)) × (List Nat) × Nat), runF (Int × Int × Int × Int × (List (Int × Int)) × (List Nat) × Nat × (List (Int × (Int × Int)))) T (fns12 fuel) fuel (subsOf [sub12_0 fuel (Int × Int × Int × Int × (List (Int × Int)) × (List Nat) × Nat × (List (Int × (Int × Int))))]) (defOf Try.f12 an12 4 [] [false, false]) (fi12.vs y) (fi12.os y) (altsDec al12) = p12 fuel y := by
  rintro ⟨x1, x2, x3, x4, x5, x6, x7, x8⟩
  kernel_rfl
theorem ok12 (fuel : Nat) : FunOk P 12 (funOfA fi12 al12 (p12 fuel)) :=
  funOfA_ok (subs := (subsOf [sub12_0 fuel (Int × Int × Int × Int × (List (Int × Int)) × (List Nat) × Nat × (List (Int × (Int × Int))))])) (an := an12) (room := 4) (ks := []) (g0 := [false, false]) (fuel := fuel) T_ok (fnsOk12 fuel) mixed (fn := Try.f12) (by kernel_rfl) (by kernel_rfl) (subsOk_cons (subOk12_0 fuel _) subsOk_nil) (by kernel_rfl) (fun _ => ⟨by kernel_rfl, by kernel_rfl⟩) (run12 fuel)

-- f14: (*tontine/clock.Clock).Count
def fns14 (fuel : Nat) : Fns := fnsOf []
theorem fnsOk14 (fuel : Nat) : FnsOk P (fns14 fuel) := fnsOk_nil
def fi14 : Fr := ⟨[.c (.ptr 0 0 [])], [.box (.pair (.d true (.int .i64)) (.pair (.d true (.int .i64)) (.pair (.d true (.int .u64)) (.pair (.c (.slc 1 0)) (.c (.map 2)))))), .arr 0 (.pair (.int .u64) (.pair (.int .i64) (.int .u64))), .map (.int .u64) (.int .i64)], 0⟩
def al14 : List (Tm × List To) := [(.d true (.int .i64), [.box (.pair (.d true (.int .i64)) (.pair (.d true (.int .i64)) (.pair (.d true (.int .u64)) (.pair (.c (.slc 1 0)) (.c (.map 2)))))), .arr 0 (.pair (.int .u64) (.pair (.int .i64) (.int .u64))), .map (.int .u64) (.int .i64)])]
def an14 : AN := (.seq .leaf (.seq (.seq (.region [(1, { touch := [0] })]) (.cond (.seq .leaf .leaf) .leaf)) (.seq (.region [(1, { touch := [0] }), (2, { touch := [0] }), (3, { touch := [0] }), (4, { touch := [1] })]) (.norm ⟨[2], padK 0 [some (0, 0), some (1, 0), some (2, 0)]⟩ (.ret [some (0, 0), some (1, 0), some (2, 0)])))))
def p14 (fuel : Nat) : (Int × Int × Int × (List (Int × (Int × Int))) × (List (Int × Int)) × (List Nat) × Nat) → Option (Int × Int × Int × Int × (List (Int × (Int × Int))) × (List (Int × Int)) × (List Nat) × Nat) := fun (x1, x2, x3, x4, x5, x6, x7) => (some (((List.length x4 : Nat) : Int), x1, x2, x3, x4, x5, x6, x7))
def F14 (fuel : Nat) : Fun := funOfA fi14 al14 (p14 fuel)
theorem run14 (fuel : Nat) : ∀ y : (Int × Int × Int × (List (Int × (Int × Int))) × (List (Int × Int)) × (List Nat) × Nat), runF (Int × Int × Int × Int × (List (Int × (Int × Int))) × (List (Int × Int)) × (List Nat) × Nat) T (fns14 fuel) fuel (subsOf []) (defOf Try.f14 an14 0 [] [false, true, false]) (fi14.vs y) (fi14.os y) (altsDec al14) = p14 fuel y := by
  rintro ⟨x1, x2, x3, x4, x5, x6, x7⟩
  kernel_rfl
theorem ok14 (fuel : Nat) : FunOk P 14 (funOfA fi14 al14 (p14 fuel)) :=
  funOfA_ok (subs := (subsOf [])) (an := an14) (room := 0) (ks := []) (g0 := [false, true, false]) (fuel := fuel) T_ok (fnsOk14 fuel) mixed (fn := Try.f14) (by kernel_rfl) (by kernel_rfl) subsOk_nil (by kernel_rfl) (fun _ => ⟨by kernel_rfl, by kernel_rfl⟩) (run14 fuel)

-- f7: tontine/tontinelaw06.awake
def fns7 (fuel : Nat) : Fns := fnsOf [(9, F9 fuel), (11, F11 fuel), (10, F10 fuel), (12, F12 fuel), (14, F14 fuel)]
theorem fnsOk7 (fuel : Nat) : FnsOk P (fns7 fuel) := (fnsOk_cons (ok9 fuel) (fnsOk_cons (ok11 fuel) (fnsOk_cons (ok10 fuel) (fnsOk_cons (ok12 fuel) (fnsOk_cons (ok14 fuel) fnsOk_nil)))))
def fi7 : Fr := ⟨[], [], 0⟩
def al7 : List (Tm × List To) := [(.d true (.bool), [])]
def an7 : AN := (.seq .leaf (.seq (.region [(0, { touch := [2, 3], base := 2, ro := false, fresh := 2 })]) (.either (fun st => slotTag st 1 4) (.seq (.seq .leaf (.cond (.seq .leaf (.norm ⟨[0], padK 5 []⟩ (.ret []))) .leaf)) (.seq .leaf (.seq .leaf (.seq .leaf (.seq .leaf .leaf))))) (.seq (.seq (.region [(1, { touch := [2] })]) (.cond (.seq .leaf (.norm ⟨[0], padK 5 []⟩ (.ret []))) .leaf)) (.seq (.region [(1, { touch := [2, 3], ro := false, loc := [2, 3] })]) (.seq (.region [(1, { touch := [2, 3], ro := false, loc := [2, 3] })]) (.seq (.region [(1, { touch := [2, 3], ro := false, loc := [2, 3] })]) (.seq (.region [(12, { touch := [2, 3], ro := false, loc := [2, 3] }), (17, { touch := [2, 3, 4], base := 4, ro := false, loc := [2, 3], fresh := 1 }), (22, { touch := [2, 3, 4], ro := false, loc := [2, 4, 3] })]) (.norm ⟨[0], padK 5 []⟩ (.ret []))))))))))
def p7 (fuel : Nat) : Unit → Option Bool := fun _ => (match p9 fuel ((900 : Int), (5 : Int)) with | some (.inl z1) => (some false) | some (.inr z2) => (bif (!decide (z2.1 = (0 : Int))) then (some false) else (match p11 fuel ((1 : Int), z2.2.1, z2.2.2.1, z2.2.2.2.1, z2.2.2.2.2.1, z2.2.2.2.2.2.1, z2.2.2.2.2.2.2) with | some z3 => (match p10 fuel (z3.2.1, z3.2.2.1, z3.2.2.2.1, z3.2.2.2.2.1, z3.2.2.2.2.2.1, z3.2.2.2.2.2.2) with | some z4 => (match p11 fuel ((1 : Int), z4.2.1, z4.2.2.1, z4.2.2.2.1, z4.2.2.2.2.1, z4.2.2.2.2.2.1, z4.2.2.2.2.2.2) with | some z5 => (bif (decide (z3.1 = (0 : Int))) then (bif (decide (z4.1 = (5 : Int))) then (bif (decide (z5.1 = (0 : Int))) then (match p10 fuel (z5.2.1, z5.2.2.1, z5.2.2.2.1, z5.2.2.2.2.1, z5.2.2.2.2.2.1, z5.2.2.2.2.2.2) with | some z6 => (bif (decide (z6.1 = (6 : Int))) then (match p12 fuel ((7 : Int), (6 : Int), z6.2.1, z6.2.2.1, z6.2.2.2.1, z6.2.2.2.2.1, z6.2.2.2.2.2.1, z6.2.2.2.2.2.2) with | some z7 => (bif (decide (z7.1 = (0 : Int))) then (match p14 fuel (z7.2.1, z7.2.2.1, z7.2.2.2.1, z7.2.2.2.2.2.2.2, z7.2.2.2.2.1, z7.2.2.2.2.2.1, z7.2.2.2.2.2.2.1) with | some z8 => (some (decide (z8.1 = (1 : Int)))) | none => none) else (some false)) | none => none) else (some false)) | none => none) else (some false)) else (some false)) else (some false)) | none => none) | none => none) | none => none)) | none => none)
def F7 (fuel : Nat) : Fun := funOfA fi7 al7 (p7 fuel)
theorem run7 (fuel : Nat) : ∀ y : Unit, runF Bool T (fns7 fuel) fuel (subsOf []) (defOf Try.f7 an7 5 [] []) (fi7.vs y) (fi7.os y) (altsDec al7) = p7 fuel y := by
  rintro ⟨⟩
  kernel_rfl
theorem ok7 (fuel : Nat) : FunOk P 7 (funOfA fi7 al7 (p7 fuel)) :=
  funOfA_ok (subs := (subsOf [])) (an := an7) (room := 5) (ks := []) (g0 := []) (fuel := fuel) T_ok (fnsOk7 fuel) mixed (fn := Try.f7) (by kernel_rfl) (by kernel_rfl) subsOk_nil (by kernel_rfl) (fun _ => ⟨by kernel_rfl, by kernel_rfl⟩) (run7 fuel)

-- f8: tontine/tontinelaw06.pick
def fns8 (fuel : Nat) : Fns := fnsOf []
theorem fnsOk8 (fuel : Nat) : FnsOk P (fns8 fuel) := fnsOk_nil
def fi8 : Fr := ⟨[.d false (.int .i64), .d false (.int .i64)], [], 0⟩
def al8 : List (Tm × List To) := [(.d true (.int .i64), [])]
def fx8_0 : Fr := ⟨[.d true (.int .i64)], [], 0⟩
def fr8_0 : Fr := ⟨[.d true (.int .i64), .d true (.int .i64)], [], 0⟩
noncomputable def c8_0 : Code := bodyAt Try.f8 [1, 1]
def j8_0 (fuel : Nat) {R : Type} (k0 : Int → Option R) : (Int × Int) → Option R := fun (x3, x4) => (if x4 = 0 then none else (k0 (Int.tmod x3 x4)))
def al8_0 : AN := (.seq .leaf (.norm ⟨[4], padK 0 []⟩ (.ret [])))
theorem u8_0 (fuel : Nat) {R : Type} (k : AExit → St → Option R) : ∀ x : (Int × Int), runK R T (fns8 fuel) fuel [] (subsOf []) (partOf c8_0 al8_0) (fr8_0.st [0, 1] x) k = j8_0 fuel (fun y => k (.ret []) (fx8_0.st [4] y)) x := by
  rintro ⟨x3, x4⟩
  kernel_rfl
noncomputable def sub8_0 (fuel : Nat) (R : Type) : Sub R := Sub.of [0, 1] c8_0 fr8_0 fun x k => j8_0 fuel (fun y => k (.ret []) (fx8_0.st [4] y)) x
theorem subOk8_0 (fuel : Nat) (R : Type) : SubOk P [] 13 (sub8_0 fuel R) :=
  subOk_part (fns := (fns8 fuel)) (fuel := fuel) (subs := (subsOf [])) (an := al8_0) T_ok (fnsOk8 fuel) mixed subsOk_nil (by kernel_rfl) (by kernel_rfl) fun _ _ _ _ h => Sub.of_run (fun (x : (Int × Int)) k => u8_0 fuel k x) h
def an8 : AN := (.seq .leaf (.seq (.seq .leaf (.cond (.fin ⟨[0, 1], padK 0 []⟩ .leaf) (.fin ⟨[0, 1], padK 0 []⟩ .leaf))) (.hole ⟨[0, 1], padK 0 []⟩ 0)))
def p8 (fuel : Nat) : (Int × Int) → Option Int := fun (x1, x2) => (bif (decide (x1 < (0 : Int))) then (j8_0 fuel (fun x5 => (some x5)) ((IntKind.wrap .i64 (0 - (IntKind.wrap .i64 (x1 + (1 : Int))))), x2)) else (j8_0 fuel (fun x6 => (some x6)) (x1, x2)))
def F8 (fuel : Nat) : Fun := funOfA fi8 al8 (p8 fuel)
theorem run8 (fuel : Nat) : ∀ y : (Int × Int), runF Int T (fns8 fuel) fuel (subsOf [sub8_0 fuel Int]) (defOf Try.f8 an8 0 [] []) (fi8.vs y) (fi8.os y) (altsDec al8) = p8 fuel y := by
  rintro ⟨x1, x2⟩
  kernel_rfl
theorem ok8 (fuel : Nat) : FunOk P 8 (funOfA fi8 al8 (p8 fuel)) :=
  funOfA_ok (subs := (subsOf [sub8_0 fuel Int])) (an := an8) (room := 0) (ks := []) (g0 := []) (fuel := fuel) T_ok (fnsOk8 fuel) mixed (fn := Try.f8) (by kernel_rfl) (by kernel_rfl) (subsOk_cons (subOk8_0 fuel _) subsOk_nil) (by kernel_rfl) (fun _ => ⟨by kernel_rfl, by kernel_rfl⟩) (run8 fuel)

-- f3: tontine/tontinelaw06.ClockDrifts
def fns3 (fuel : Nat) : Fns := fnsOf [(7, F7 fuel), (8, F8 fuel), (9, F9 fuel), (10, F10 fuel), (11, F11 fuel)]
theorem fnsOk3 (fuel : Nat) : FnsOk P (fns3 fuel) := (fnsOk_cons (ok7 fuel) (fnsOk_cons (ok8 fuel) (fnsOk_cons (ok9 fuel) (fnsOk_cons (ok10 fuel) (fnsOk_cons (ok11 fuel) fnsOk_nil)))))
def fi3 : Fr := ⟨[.d false (.int .i64), .d false (.int .i64), .d true (.slice (.int .i64))], [], 0⟩
def al3 : List (Tm × List To) := [(.d true (.bool), [])]
def fx3_0 : Fr := ⟨[.d true (.bool)], [], 10⟩
def fx3_1 : Fr := ⟨[], [], 10⟩
def fr3_0 : Fr := ⟨[.d true (.slice (.int .i64)), .d true (.int .i64), .d true (.int .i64), .c (.ptr 0 0 []), .c (.ptr 2 0 []), .d true (.int .i64), .d true (.int .i64)], [.box (.pair (.d true (.int .i64)) (.pair (.d true (.int .i64)) (.pair (.d true (.int .u64)) (.pair (.c .nils) (.c (.map 1)))))), .map (.int .u64) (.int .i64), .box (.pair (.d true (.int .i64)) (.pair (.d true (.int .i64)) (.pair (.d true (.int .u64)) (.pair (.c .nils) (.c (.map 3)))))), .map (.int .u64) (.int .i64)], 6⟩
noncomputable def c3_0 : Code := bodyAt Try.f3 [1, 1, 1, 1, 1, 1, 1, 1, 0, 1, 0]
def s3_0 (fuel : Nat) {R : Type} (F : ((List Int) × Int × Int × Int × Int × Int × Int × Int × (List (Int × Int)) × (List Nat) × Nat × Int × Int × Int × (List (Int × Int)) × (List Nat) × Nat) → Option R) (k0 : Bool → Option R) (k1 : Unit → Option R) : ((List Int) × Int × Int × Int × Int × Int × Int × Int × (List (Int × Int)) × (List Nat) × Nat × Int × Int × Int × (List (Int × Int)) × (List Nat) × Nat) → Option R := fun (x13, x14, x15, x16, x17, x18, x19, x20, x21, x22, x23, x24, x25, x26, x27, x28, x29) => (bif (decide (x17 < ((List.length x13 : Nat) : Int))) then (bif (decide (x17 < (600 : Int))) then (if 0 ≤ x17 then (match (x13)[Int.toNat x17]? with | some y30 => (match p8 fuel (y30, (1000000 : Int)) with | some z31 => (match p10 fuel (x18, x19, x20, x21, x22, x23) with | some z32 => (match p11 fuel (z31, z32.2.1, z32.2.2.1, z32.2.2.2.1, z32.2.2.2.2.1, z32.2.2.2.2.2.1, z32.2.2.2.2.2.2) with | some z33 => (bif (!decide (z33.1 = (0 : Int))) then (k0 false) else (match p11 fuel (z31, x24, x25, x26, x27, x28, x29) with | some z34 => (bif (!decide (z34.1 = (0 : Int))) then (k0 false) else (match p10 fuel (z33.2.1, z33.2.2.1, z33.2.2.2.1, z33.2.2.2.2.1, z33.2.2.2.2.2.1, z33.2.2.2.2.2.2) with | some z35 => (match p10 fuel (z34.2.1, z34.2.2.1, z34.2.2.2.1, z34.2.2.2.2.1, z34.2.2.2.2.2.1, z34.2.2.2.2.2.2) with | some z36 => let v37 := (IntKind.wrap .i64 ((1000 : Int) * (IntKind.wrap .i64 (z35.1 - z36.1)))); let v38 := (IntKind.wrap .i64 ((IntKind.wrap .i64 (x16 + z31)) * (IntKind.wrap .i64 (x14 - x15)))); (match p10 fuel (z35.2.1, z35.2.2.1, z35.2.2.2.1, z35.2.2.2.2.1, z35.2.2.2.2.2.1, z35.2.2.2.2.2.2) with | some z39 => (bif (decide (z39.1 < z32.1)) then (k0 false) else (bif (decide ((IntKind.wrap .i64 (v38 + (999 : Int))) < v37)) then (k0 false) else (bif (decide (v37 < (IntKind.wrap .i64 (v38 - (999 : Int))))) then (k0 false) else (match p10 fuel (z39.2.1, z39.2.2.1, z39.2.2.2.1, z39.2.2.2.2.1, z39.2.2.2.2.2.1, z39.2.2.2.2.2.2) with | some z40 => let v41 := (decide ((IntKind.wrap .i64 ((IntKind.wrap .i64 (x16 + z31)) * x14)) < (IntKind.wrap .i64 ((1000 : Int) * z40.1)))); (bif v41 then (k0 false) else let v42 := (IntKind.wrap .i64 ((IntKind.wrap .i64 ((IntKind.wrap .i64 (x16 + z31)) * x14)) - (1000 : Int))); (bif (decide ((IntKind.wrap .i64 ((1000 : Int) * z40.1)) ≤ v42)) then (k0 false) else (F (x13, x14, x15, (IntKind.wrap .i64 (x16 + z31)), (IntKind.wrap .i64 (x17 + (1 : Int))), z40.2.1, z40.2.2.1, z40.2.2.2.1, z40.2.2.2.2.1, z40.2.2.2.2.2.1, z40.2.2.2.2.2.2, z36.2.1, z36.2.2.1, z36.2.2.2.1, z36.2.2.2.2.1, z36.2.2.2.2.2.1, z36.2.2.2.2.2.2)))) | none => none)))) | none => none) | none => none) | none => none)) | none => none)) | none => none) | none => none) | none => none) | none => none) else none) else (k1 ())) else (k1 ()))
def l3_0 (fuel : Nat) {R : Type} (k0 : Bool → Option R) (k1 : Unit → Option R) : Nat → ((List Int) × Int × Int × Int × Int × Int × Int × Int × (List (Int × Int)) × (List Nat) × Nat × Int × Int × Int × (List (Int × Int)) × (List Nat) × Nat) → Option R
  | 0, _ => none
  | n + 1, x => s3_0 fuel (l3_0 fuel k0 k1 n) k0 k1 x
def nm3_0 : Norm := ⟨[2, 8, 9, 10, 12, 14, 15], padK 6 [some (0, 0), some (1, 0), some (2, 0), some (3, 0)]⟩
def an3_0 : AN := (.seq (.seq .leaf (.cond .leaf (.norm ⟨[], padK 10 []⟩ .leaf))) (.seq (.block (.seq .leaf (.seq (.region [(1, { touch := [0, 1], ro := false, loc := [0, 1] })]) (.seq (.seq (.region [(2, { touch := [0, 1], ro := false, loc := [0, 1] }), (7, { touch := [2, 3], ro := false, loc := [2, 3] })]) (.cond (.seq .leaf (.norm ⟨[6], padK 10 []⟩ (.ret []))) .leaf)) (.seq .leaf (.seq (.region [(1, { touch := [0, 1], ro := false, loc := [0, 1] }), (3, { touch := [2, 3], ro := false, loc := [2, 3] })]) (.seq .leaf (.seq (.seq (.region [(1, { touch := [0, 1], ro := false, loc := [0, 1] })]) (.cond (.seq .leaf (.norm ⟨[6], padK 10 []⟩ (.ret []))) .leaf)) (.seq (.region [(1, { touch := [0, 1], ro := false, loc := [0, 1] })]) (.seq .leaf (.cond (.seq .leaf (.norm ⟨[6], padK 10 []⟩ (.ret []))) .leaf))))))))))) .leaf))
def al3_0 : AN := .loop nm3_0 an3_0
noncomputable def d3_0 : Code := bodyAt Try.f3 [1, 1, 1, 1, 1, 1, 1, 1, 0, 1, 0, 0]
theorem e3_0 (fuel : Nat) {R : Type} (F : St → Option R) (k : AExit → St → Option R) : ∀ x : ((List Int) × Int × Int × Int × Int × Int × Int × Int × (List (Int × Int)) × (List Nat) × Nat × Int × Int × Int × (List (Int × Int)) × (List Nat) × Nat), runK R T (fns3 fuel) fuel [] (subsOf []) (partOf d3_0 an3_0) (fr3_0.st [2, 8, 9, 10, 12, 14, 15] x) (backTo R [] nm3_0 F k) = s3_0 fuel (fun x => F (fr3_0.st [2, 8, 9, 10, 12, 14, 15] x)) (fun y => k (.ret []) (fx3_0.st [6] y)) (fun y => k (.exit 0) (fx3_1.st [] y)) x := by
  rintro ⟨x13, x14, x15, x16, x17, x18, x19, x20, x21, x22, x23, x24, x25, x26, x27, x28, x29⟩
  kernel_rfl
theorem u3_0 (fuel : Nat) {R : Type} (k : AExit → St → Option R) (x : ((List Int) × Int × Int × Int × Int × Int × Int × Int × (List (Int × Int)) × (List Nat) × Nat × Int × Int × Int × (List (Int × Int)) × (List Nat) × Nat)) : runK R T (fns3 fuel) fuel [] (subsOf []) (partOf c3_0 al3_0) (fr3_0.st [2, 8, 9, 10, 12, 14, 15] x) k = l3_0 fuel (fun y => k (.ret []) (fx3_0.st [6] y)) (fun y => k (.exit 0) (fx3_1.st [] y)) fuel x :=
  loop_eq (mk := fr3_0.st [2, 8, 9, 10, 12, 14, 15]) (s := fun F x => s3_0 fuel F (fun y => k (.ret []) (fx3_0.st [6] y)) (fun y => k (.exit 0) (fx3_1.st [] y)) x) (l := fun n x => l3_0 fuel (fun y => k (.ret []) (fx3_0.st [6] y)) (fun y => k (.exit 0) (fx3_1.st [] y)) n x) (d := d3_0) (by kernel_rfl) (fun G x => by
    revert x
    rintro ⟨x13, x14, x15, x16, x17, x18, x19, x20, x21, x22, x23, x24, x25, x26, x27, x28, x29⟩
    kernel_rfl) (fun F x => e3_0 fuel F k x) (fun _ => rfl) (fun _ _ => rfl) x
noncomputable def sub3_0 (fuel : Nat) (R : Type) : Sub R := Sub.of [2, 8, 9, 10, 12, 14, 15] c3_0 fr3_0 fun x k => l3_0 fuel (fun y => k (.ret []) (fx3_0.st [6] y)) (fun y => k (.exit 0) (fx3_1.st [] y)) fuel x
theorem subOk3_0 (fuel : Nat) (R : Type) : SubOk P [] 129 (sub3_0 fuel R) :=
  subOk_part (fns := (fns3 fuel)) (fuel := fuel) (subs := (subsOf [])) (an := al3_0) T_ok (fnsOk3 fuel) mixed subsOk_nil (by kernel_rfl) (by kernel_rfl) fun _ _ _ _ h => Sub.of_run (fun (x : ((List Int) × Int × Int × Int × Int × Int × Int × Int × (List (Int × Int)) × (List Nat) × Nat × Int × Int × Int × (List (Int × Int)) × (List Nat) × Nat)) k => u3_0 fuel k x) h
def an3 : AN := (.seq .leaf (.seq .leaf (.seq .leaf (.seq .leaf (.seq (.region [(1, { touch := [4, 5], base := 4, ro := false, fresh := 2 })]) (.either (fun st => slotTag st 10 4) (.seq (.region [(1, { touch := [6, 7], base := 6, ro := false, fresh := 2 })]) (.either (fun st => slotTag st 12 4) (.seq (.seq .leaf (.cond (.seq .leaf (.norm ⟨[6], padK 10 []⟩ (.ret []))) .leaf)) (.seq .leaf (.seq (.seq .leaf (.block (.loop ⟨[], []⟩ (.seq (.seq .leaf (.cond .leaf .leaf)) (.seq (.block (.seq .leaf (.seq .leaf (.seq (.seq .leaf (.cond (.seq .leaf .leaf) .leaf)) (.seq .leaf (.seq .leaf (.seq .leaf (.seq (.seq .leaf (.cond (.seq .leaf .leaf) .leaf)) (.seq .leaf (.seq .leaf (.cond (.seq .leaf .leaf) .leaf))))))))))) .leaf))))) (.seq .leaf .leaf)))) (.seq (.seq .leaf (.cond (.seq .leaf (.norm ⟨[6], padK 10 []⟩ (.ret []))) .leaf)) (.seq .leaf (.seq (.seq .leaf (.block (.loop ⟨[], []⟩ (.seq (.seq .leaf (.cond .leaf .leaf)) (.seq (.block (.seq .leaf (.seq .leaf (.seq (.seq .leaf (.cond (.seq .leaf .leaf) .leaf)) (.seq .leaf (.seq .leaf (.seq .leaf (.seq (.seq .leaf (.cond (.seq .leaf .leaf) .leaf)) (.seq .leaf (.seq .leaf (.cond (.seq .leaf .leaf) .leaf))))))))))) .leaf))))) (.seq .leaf .leaf)))))) (.seq (.region [(1, { touch := [8, 9], base := 8, ro := false, fresh := 2 })]) (.either (fun st => slotTag st 12 4) (.seq (.seq (.region [(4, { touch := [4] })]) (.cond (.seq .leaf (.norm ⟨[6], padK 10 []⟩ (.ret []))) .leaf)) (.seq .leaf (.seq (.seq .leaf (.block (.loop ⟨[], []⟩ (.seq (.seq .leaf (.cond .leaf .leaf)) (.seq (.block (.seq .leaf (.seq .leaf (.seq (.seq .leaf (.cond (.seq .leaf .leaf) .leaf)) (.seq .leaf (.seq .leaf (.seq .leaf (.seq (.seq .leaf (.cond (.seq .leaf .leaf) .leaf)) (.seq .leaf (.seq .leaf (.cond (.seq .leaf .leaf) .leaf))))))))))) .leaf))))) (.seq .leaf .leaf)))) (.seq (.seq (.region [(4, { touch := [4] }), (8, { touch := [8] })]) (.cond (.seq .leaf (.norm ⟨[6], padK 10 []⟩ (.ret []))) .leaf)) (.seq .leaf (.seq (.seq .leaf (.block (.hole ⟨[2, 8, 9, 10, 12, 14, 15], padK 6 [some (4, 0), some (5, 0), some (8, 0), some (9, 0)]⟩ 0))) (.seq .leaf (.norm ⟨[6], padK 10 []⟩ (.ret []))))))))))))))
def p3 (fuel : Nat) : (Int × Int × (List Int)) → Option Bool := fun (x1, x2, x3) => (match p7 fuel () with | some z4 => (match p8 fuel (x1, (201 : Int)) with | some z5 => (match p8 fuel (x2, (201 : Int)) with | some z6 => (match p9 fuel ((IntKind.wrap .i64 ((900 : Int) + z5)), (0 : Int)) with | some (.inl z7) => (match p9 fuel ((IntKind.wrap .i64 ((900 : Int) + z6)), (0 : Int)) with | some (.inl z9) => (bif (!z4) then (some false) else (some false)) | some (.inr z10) => (bif (!z4) then (some false) else (some false)) | none => none) | some (.inr z8) => (match p9 fuel ((IntKind.wrap .i64 ((900 : Int) + z6)), (0 : Int)) with | some (.inl z11) => (bif (!z4) then (some false) else (some false)) | some (.inr z12) => (bif (!z4) then (some false) else (bif (!decide (z8.1 = (0 : Int))) then (some false) else (bif (!decide (z12.1 = (0 : Int))) then (some false) else (l3_0 fuel (fun x43 => (some x43)) (fun _ => (some true)) fuel (x3, (IntKind.wrap .i64 ((900 : Int) + z5)), (IntKind.wrap .i64 ((900 : Int) + z6)), (0 : Int), (0 : Int), z8.2.1, z8.2.2.1, z8.2.2.2.1, z8.2.2.2.2.1, z8.2.2.2.2.2.1, z8.2.2.2.2.2.2, z12.2.1, z12.2.2.1, z12.2.2.2.1, z12.2.2.2.2.1, z12.2.2.2.2.2.1, z12.2.2.2.2.2.2))))) | none => none) | none => none) | none => none) | none => none) | none => none)
def F3 (fuel : Nat) : Fun := funOfA fi3 al3 (p3 fuel)
theorem run3 (fuel : Nat) : ∀ y : (Int × Int × (List Int)), runF Bool T (fns3 fuel) fuel (subsOf [sub3_0 fuel Bool]) (defOf Try.f3 an3 10 [] []) (fi3.vs y) (fi3.os y) (altsDec al3) = p3 fuel y := by
  rintro ⟨x1, x2, x3⟩
  kernel_rfl
theorem ok3 (fuel : Nat) : FunOk P 3 (funOfA fi3 al3 (p3 fuel)) :=
  funOfA_ok (subs := (subsOf [sub3_0 fuel Bool])) (an := an3) (room := 10) (ks := []) (g0 := []) (fuel := fuel) T_ok (fnsOk3 fuel) mixed (fn := Try.f3) (by kernel_rfl) (by kernel_rfl) (subsOk_cons (subOk3_0 fuel _) subsOk_nil) (by kernel_rfl) (fun _ => ⟨by kernel_rfl, by kernel_rfl⟩) (run3 fuel)

-- f17: (*tontine/clock.Clock).Next
def fns17 (fuel : Nat) : Fns := fnsOf []
theorem fnsOk17 (fuel : Nat) : FnsOk P (fns17 fuel) := fnsOk_nil
def fi17 : Fr := ⟨[.c .nilp], [], 0⟩
def al17 : List (Tm × List To) := [(.tup (.cons (.d true (.int .i64)) (.cons (.d true (.bool)) (.c .nil))), [])]
def an17 : AN := (.seq .leaf (.seq (.seq .leaf (.cond (.seq .leaf (.norm ⟨[2, 3], padK 0 []⟩ (.ret []))) .leaf)) (.seq .leaf .leaf)))
def p17 (fuel : Nat) : Unit → Option (Int × Bool) := fun _ => (some ((0 : Int), false))
def F17 (fuel : Nat) : Fun := funOfA fi17 al17 (p17 fuel)
theorem run17 (fuel : Nat) : ∀ y : Unit, runF (Int × Bool) T (fns17 fuel) fuel (subsOf []) (defOf Try.f17 an17 0 [] []) (fi17.vs y) (fi17.os y) (altsDec al17) = p17 fuel y := by
  rintro ⟨⟩
  kernel_rfl
theorem ok17 (fuel : Nat) : FunOk P 17 (funOfA fi17 al17 (p17 fuel)) :=
  funOfA_ok (subs := (subsOf [])) (an := an17) (room := 0) (ks := []) (g0 := []) (fuel := fuel) T_ok (fnsOk17 fuel) mixed (fn := Try.f17) (by kernel_rfl) (by kernel_rfl) subsOk_nil (by kernel_rfl) (fun _ => ⟨by kernel_rfl, by kernel_rfl⟩) (run17 fuel)

-- f11b: (*tontine/clock.Clock).Pass
def fns11b (fuel : Nat) : Fns := fnsOf []
theorem fnsOk11b (fuel : Nat) : FnsOk P (fns11b fuel) := fnsOk_nil
def fi11b : Fr := ⟨[.c .nilp, .d false (.int .i64)], [], 0⟩
def al11b : List (Tm × List To) := [(.d true (.int .i64), [])]
def an11b : AN := (.seq .leaf (.seq (.block (.seq .leaf (.cond (.seq .leaf (.norm ⟨[4], padK 0 []⟩ (.ret []))) (.seq .leaf (.cond (.seq .leaf .leaf) .leaf))))) (.seq .leaf (.seq .leaf .leaf))))
def p11b (fuel : Nat) : Int → Option Int := fun _ => (some (1 : Int))
def F11b (fuel : Nat) : Fun := funOfA fi11b al11b (p11b fuel)
theorem run11b (fuel : Nat) : ∀ y : Int, runF Int T (fns11b fuel) fuel (subsOf []) (defOf Try.f11 an11b 0 [] []) (fi11b.vs y) (fi11b.os y) (altsDec al11b) = p11b fuel y := by
  rintro x1
  kernel_rfl
theorem ok11b (fuel : Nat) : FunOk P 11 (funOfA fi11b al11b (p11b fuel)) :=
  funOfA_ok (subs := (subsOf [])) (an := an11b) (room := 0) (ks := []) (g0 := []) (fuel := fuel) T_ok (fnsOk11b fuel) mixed (fn := Try.f11) (by kernel_rfl) (by kernel_rfl) subsOk_nil (by kernel_rfl) (fun _ => ⟨by kernel_rfl, by kernel_rfl⟩) (run11b fuel)

-- f20: (*tontine/clock.Clock).Turn
def fns20 (fuel : Nat) : Fns := fnsOf []
theorem fnsOk20 (fuel : Nat) : FnsOk P (fns20 fuel) := fnsOk_nil
def fi20 : Fr := ⟨[.c .nilp, .d false (.int .i64)], [], 0⟩
def al20 : List (Tm × List To) := [(.d true (.int .i64), [])]
def an20 : AN := (.seq .leaf (.seq (.seq .leaf (.cond (.seq .leaf (.norm ⟨[4], padK 0 []⟩ (.ret []))) .leaf)) (.seq .leaf (.seq .leaf .leaf))))
def p20 (fuel : Nat) : Int → Option Int := fun _ => (some (1 : Int))
def F20 (fuel : Nat) : Fun := funOfA fi20 al20 (p20 fuel)
theorem run20 (fuel : Nat) : ∀ y : Int, runF Int T (fns20 fuel) fuel (subsOf []) (defOf Try.f20 an20 0 [] []) (fi20.vs y) (fi20.os y) (altsDec al20) = p20 fuel y := by
  rintro x1
  kernel_rfl
theorem ok20 (fuel : Nat) : FunOk P 20 (funOfA fi20 al20 (p20 fuel)) :=
  funOfA_ok (subs := (subsOf [])) (an := an20) (room := 0) (ks := []) (g0 := []) (fuel := fuel) T_ok (fnsOk20 fuel) mixed (fn := Try.f20) (by kernel_rfl) (by kernel_rfl) subsOk_nil (by kernel_rfl) (fun _ => ⟨by kernel_rfl, by kernel_rfl⟩) (run20 fuel)

-- f10b: (*tontine/clock.Clock).Now
def fns10b (fuel : Nat) : Fns := fnsOf []
theorem fnsOk10b (fuel : Nat) : FnsOk P (fns10b fuel) := fnsOk_nil
def fi10b : Fr := ⟨[.c .nilp], [], 0⟩
def al10b : List (Tm × List To) := [(.d true (.int .i64), [])]
def an10b : AN := (.seq .leaf (.seq (.seq .leaf (.cond (.seq .leaf (.norm ⟨[2], padK 0 []⟩ (.ret []))) .leaf)) (.seq .leaf .leaf)))
def p10b (fuel : Nat) : Unit → Option Int := fun _ => (some (0 : Int))
def F10b (fuel : Nat) : Fun := funOfA fi10b al10b (p10b fuel)
theorem run10b (fuel : Nat) : ∀ y : Unit, runF Int T (fns10b fuel) fuel (subsOf []) (defOf Try.f10 an10b 0 [] []) (fi10b.vs y) (fi10b.os y) (altsDec al10b) = p10b fuel y := by
  rintro ⟨⟩
  kernel_rfl
theorem ok10b (fuel : Nat) : FunOk P 10 (funOfA fi10b al10b (p10b fuel)) :=
  funOfA_ok (subs := (subsOf [])) (an := an10b) (room := 0) (ks := []) (g0 := []) (fuel := fuel) T_ok (fnsOk10b fuel) mixed (fn := Try.f10) (by kernel_rfl) (by kernel_rfl) subsOk_nil (by kernel_rfl) (fun _ => ⟨by kernel_rfl, by kernel_rfl⟩) (run10b fuel)

-- f12b: (*tontine/clock.Clock).Set
def fns12b (fuel : Nat) : Fns := fnsOf []
theorem fnsOk12b (fuel : Nat) : FnsOk P (fns12b fuel) := fnsOk_nil
def fi12b : Fr := ⟨[.c .nilp, .d false (.int .u64), .d false (.int .i64)], [], 0⟩
def al12b : List (Tm × List To) := [(.d true (.int .i64), [])]
def an12b : AN := (.seq .leaf (.seq (.seq .leaf (.cond (.seq .leaf (.norm ⟨[6], padK 0 []⟩ (.ret []))) .leaf)) (.seq .leaf (.seq (.seq .leaf (.cond (.seq (.seq .leaf (.seq .leaf (.cond (.seq .leaf .leaf) .leaf))) (.seq .leaf .leaf)) .leaf)) (.seq .leaf (.seq .leaf (.seq .leaf (.seq .leaf .leaf))))))))
def p12b (fuel : Nat) : (Int × Int) → Option Int := fun (_, _) => (some (1 : Int))
def F12b (fuel : Nat) : Fun := funOfA fi12b al12b (p12b fuel)
theorem run12b (fuel : Nat) : ∀ y : (Int × Int), runF Int T (fns12b fuel) fuel (subsOf []) (defOf Try.f12 an12b 0 [] []) (fi12b.vs y) (fi12b.os y) (altsDec al12b) = p12b fuel y := by
  rintro ⟨x1, x2⟩
  kernel_rfl
theorem ok12b (fuel : Nat) : FunOk P 12 (funOfA fi12b al12b (p12b fuel)) :=
  funOfA_ok (subs := (subsOf [])) (an := an12b) (room := 0) (ks := []) (g0 := []) (fuel := fuel) T_ok (fnsOk12b fuel) mixed (fn := Try.f12) (by kernel_rfl) (by kernel_rfl) subsOk_nil (by kernel_rfl) (fun _ => ⟨by kernel_rfl, by kernel_rfl⟩) (run12b fuel)

-- f21: (*tontine/clock.Clock).Stop
def fns21 (fuel : Nat) : Fns := fnsOf []
theorem fnsOk21 (fuel : Nat) : FnsOk P (fns21 fuel) := fnsOk_nil
def fi21 : Fr := ⟨[.c .nilp, .d false (.int .u64)], [], 0⟩
def al21 : List (Tm × List To) := [(.d true (.bool), [])]
def an21 : AN := (.seq .leaf (.seq (.seq .leaf (.cond (.seq .leaf (.norm ⟨[4], padK 0 []⟩ (.ret []))) .leaf)) (.seq .leaf (.seq (.seq .leaf (.cond (.seq .leaf .leaf) .leaf)) (.seq .leaf (.seq .leaf (.seq .leaf (.seq .leaf (.seq (.seq .leaf (.cond .leaf .leaf)) (.seq .leaf .leaf))))))))))
def p21 (fuel : Nat) : Int → Option Bool := fun _ => (some false)
def F21 (fuel : Nat) : Fun := funOfA fi21 al21 (p21 fuel)
theorem run21 (fuel : Nat) : ∀ y : Int, runF Bool T (fns21 fuel) fuel (subsOf []) (defOf Try.f21 an21 0 [] []) (fi21.vs y) (fi21.os y) (altsDec al21) = p21 fuel y := by
  rintro x1
  kernel_rfl
theorem ok21 (fuel : Nat) : FunOk P 21 (funOfA fi21 al21 (p21 fuel)) :=
  funOfA_ok (subs := (subsOf [])) (an := an21) (room := 0) (ks := []) (g0 := []) (fuel := fuel) T_ok (fnsOk21 fuel) mixed (fn := Try.f21) (by kernel_rfl) (by kernel_rfl) subsOk_nil (by kernel_rfl) (fun _ => ⟨by kernel_rfl, by kernel_rfl⟩) (run21 fuel)

-- f13: (*tontine/clock.Clock).Due
def fns13 (fuel : Nat) : Fns := fnsOf []
theorem fnsOk13 (fuel : Nat) : FnsOk P (fns13 fuel) := fnsOk_nil
def fi13 : Fr := ⟨[.c .nilp], [], 0⟩
def al13 : List (Tm × List To) := [(.c .nils, [])]
def fx13_0 : Fr := ⟨[.c .nils], [], 0⟩
def fr13_0 : Fr := ⟨[.c .nilp, .c .nils], [], 0⟩
noncomputable def c13_0 : Code := bodyAt Try.f13 [1, 1, 0, 0]
def s13_0 (fuel : Nat) {R : Type} (F : Unit → Option R) (k0 : Unit → Option R) : Unit → Option R := fun _ => (k0 ())
def l13_0 (fuel : Nat) {R : Type} (k0 : Unit → Option R) : Nat → Unit → Option R
  | 0, _ => none
  | n + 1, x => s13_0 fuel (l13_0 fuel k0 n) k0 x
def nm13_0 : Norm := ⟨[0, 3], padK 0 []⟩
def an13_0 : AN := (.seq (.seq .leaf (.cond .leaf (.norm ⟨[3], padK 0 []⟩ .leaf))) (.block (.seq .leaf .leaf)))
def al13_0 : AN := .loop nm13_0 an13_0
noncomputable def d13_0 : Code := bodyAt Try.f13 [1, 1, 0, 0, 0]
theorem e13_0 (fuel : Nat) {R : Type} (F : St → Option R) (k : AExit → St → Option R) : ∀ x : Unit, runK R T (fns13 fuel) fuel [] (subsOf []) (partOf d13_0 an13_0) (fr13_0.st [0, 3] x) (backTo R [] nm13_0 F k) = s13_0 fuel (fun x => F (fr13_0.st [0, 3] x)) (fun y => k (.exit 0) (fx13_0.st [3] y)) x := by
  rintro ⟨⟩
  kernel_rfl
theorem u13_0 (fuel : Nat) {R : Type} (k : AExit → St → Option R) (x : Unit) : runK R T (fns13 fuel) fuel [] (subsOf []) (partOf c13_0 al13_0) (fr13_0.st [0, 3] x) k = l13_0 fuel (fun y => k (.exit 0) (fx13_0.st [3] y)) fuel x :=
  loop_eq (mk := fr13_0.st [0, 3]) (s := fun F x => s13_0 fuel F (fun y => k (.exit 0) (fx13_0.st [3] y)) x) (l := fun n x => l13_0 fuel (fun y => k (.exit 0) (fx13_0.st [3] y)) n x) (d := d13_0) (by kernel_rfl) (fun G x => by
    revert x
    rintro ⟨⟩
    kernel_rfl) (fun F x => e13_0 fuel F k x) (fun _ => rfl) (fun _ _ => rfl) x
noncomputable def sub13_0 (fuel : Nat) (R : Type) : Sub R := Sub.of [0, 3] c13_0 fr13_0 fun x k => l13_0 fuel (fun y => k (.exit 0) (fx13_0.st [3] y)) fuel x
theorem subOk13_0 (fuel : Nat) (R : Type) : SubOk P [] 46 (sub13_0 fuel R) :=
  subOk_part (fns := (fns13 fuel)) (fuel := fuel) (subs := (subsOf [])) (an := al13_0) T_ok (fnsOk13 fuel) mixed subsOk_nil (by kernel_rfl) (by kernel_rfl) fun _ _ _ _ h => Sub.of_run (fun (x : Unit) k => u13_0 fuel k x) h
def an13 : AN := (.seq .leaf (.seq .leaf (.seq (.block (.hole ⟨[0, 3], padK 0 []⟩ 0)) (.seq .leaf (.norm ⟨[2], padK 0 []⟩ (.ret []))))))
def p13 (fuel : Nat) : Unit → Option Unit := fun _ => (l13_0 fuel (fun _ => (some ())) fuel ())
def F13 (fuel : Nat) : Fun := funOfA fi13 al13 (p13 fuel)
theorem run13 (fuel : Nat) : ∀ y : Unit, runF Unit T (fns13 fuel) fuel (subsOf [sub13_0 fuel Unit]) (defOf Try.f13 an13 0 [] []) (fi13.vs y) (fi13.os y) (altsDec al13) = p13 fuel y := by
  rintro ⟨⟩
  kernel_rfl
theorem ok13 (fuel : Nat) : FunOk P 13 (funOfA fi13 al13 (p13 fuel)) :=
  funOfA_ok (subs := (subsOf [sub13_0 fuel Unit])) (an := an13) (room := 0) (ks := []) (g0 := []) (fuel := fuel) T_ok (fnsOk13 fuel) mixed (fn := Try.f13) (by kernel_rfl) (by kernel_rfl) (subsOk_cons (subOk13_0 fuel _) subsOk_nil) (by kernel_rfl) (fun _ => ⟨by kernel_rfl, by kernel_rfl⟩) (run13 fuel)

-- f14b: (*tontine/clock.Clock).Count
def fns14b (fuel : Nat) : Fns := fnsOf []
theorem fnsOk14b (fuel : Nat) : FnsOk P (fns14b fuel) := fnsOk_nil
def fi14b : Fr := ⟨[.c .nilp], [], 0⟩
def al14b : List (Tm × List To) := [(.d true (.int .i64), [])]
def an14b : AN := (.seq .leaf (.seq (.seq .leaf (.cond (.seq .leaf (.norm ⟨[2], padK 0 []⟩ (.ret []))) .leaf)) (.seq .leaf .leaf)))
def p14b (fuel : Nat) : Unit → Option Int := fun _ => (some (0 : Int))
def F14b (fuel : Nat) : Fun := funOfA fi14b al14b (p14b fuel)
theorem run14b (fuel : Nat) : ∀ y : Unit, runF Int T (fns14b fuel) fuel (subsOf []) (defOf Try.f14 an14b 0 [] []) (fi14b.vs y) (fi14b.os y) (altsDec al14b) = p14b fuel y := by
  rintro ⟨⟩
  kernel_rfl
theorem ok14b (fuel : Nat) : FunOk P 14 (funOfA fi14b al14b (p14b fuel)) :=
  funOfA_ok (subs := (subsOf [])) (an := an14b) (room := 0) (ks := []) (g0 := []) (fuel := fuel) T_ok (fnsOk14b fuel) mixed (fn := Try.f14) (by kernel_rfl) (by kernel_rfl) subsOk_nil (by kernel_rfl) (fun _ => ⟨by kernel_rfl, by kernel_rfl⟩) (run14b fuel)

-- f6: tontine/tontinelaw06.ClockNil
def fns6 (fuel : Nat) : Fns := fnsOf [(7, F7 fuel), (17, F17 fuel), (11, F11b fuel), (20, F20 fuel), (10, F10b fuel), (12, F12b fuel), (21, F21 fuel), (13, F13 fuel), (14, F14b fuel)]
theorem fnsOk6 (fuel : Nat) : FnsOk P (fns6 fuel) := (fnsOk_cons (ok7 fuel) (fnsOk_cons (ok17 fuel) (fnsOk_cons (ok11b fuel) (fnsOk_cons (ok20 fuel) (fnsOk_cons (ok10b fuel) (fnsOk_cons (ok12b fuel) (fnsOk_cons (ok21 fuel) (fnsOk_cons (ok13 fuel) (fnsOk_cons (ok14b fuel) fnsOk_nil)))))))))
def fi6 : Fr := ⟨[.d false (.int .i64), .d false (.int .u64)], [], 0⟩
def al6 : List (Tm × List To) := [(.d true (.bool), [])]
def an6 : AN := (.seq .leaf (.seq .leaf (.seq .leaf (.seq .leaf (.seq .leaf (.norm ⟨[4], padK 0 []⟩ (.ret [])))))))
def p6 (fuel : Nat) : (Int × Int) → Option Bool := fun (x1, x2) => (match p7 fuel () with | some z3 => (match p17 fuel () with | some z4 => (bif z3 then (match p11b fuel x1 with | some z5 => (bif (decide (z5 = (1 : Int))) then (match p20 fuel (1000 : Int) with | some z6 => (bif (decide (z6 = (1 : Int))) then (match p10b fuel () with | some z7 => (bif (decide (z7 = (0 : Int))) then (match p12b fuel (x2, x1) with | some z8 => (bif (decide (z8 = (1 : Int))) then (match p21 fuel x2 with | some z9 => (bif (!z9) then (match p13 fuel () with | some z10 => (bif (decide (z4.1 = (0 : Int))) then (bif (!z4.2) then (match p14b fuel () with | some z11 => (some (decide (z11 = (0 : Int)))) | none => none) else (some false)) else (some false)) | none => none) else (some false)) | none => none) else (some false)) | none => none) else (some false)) | none => none) else (some false)) | none => none) else (some false)) | none => none) else (some false)) | none => none) | none => none)
def F6 (fuel : Nat) : Fun := funOfA fi6 al6 (p6 fuel)
theorem run6 (fuel : Nat) : ∀ y : (Int × Int), runF Bool T (fns6 fuel) fuel (subsOf []) (defOf Try.f6 an6 0 [] []) (fi6.vs y) (fi6.os y) (altsDec al6) = p6 fuel y := by
  rintro ⟨x1, x2⟩
  kernel_rfl
theorem ok6 (fuel : Nat) : FunOk P 6 (funOfA fi6 al6 (p6 fuel)) :=
  funOfA_ok (subs := (subsOf [])) (an := an6) (room := 0) (ks := []) (g0 := []) (fuel := fuel) T_ok (fnsOk6 fuel) mixed (fn := Try.f6) (by kernel_rfl) (by kernel_rfl) subsOk_nil (by kernel_rfl) (fun _ => ⟨by kernel_rfl, by kernel_rfl⟩) (run6 fuel)
end Go.Am.Ytbggedhchjibjaa
