/- printed -/
import Derived.Test.YtlnidkgehflmfaaProg
import Derived.Test.YtlnidkgehflmfaaAmZC
namespace Go.Am.Ytlnidkgehflmfaa
open Go.Proofs
noncomputable abbrev P : Program := Try.prog
noncomputable def td3 : TD := { und := .int .i64, size := 1, bytes := 8, zero := (.dat true (.int .i64) ((0 : Int) : Int)), cmp := true }
theorem tdOk3 : TdOk P 3 td3 := tdOk_of (i := infoAt P 3) (cs := cellsOfTD td3) (by kernel_rfl) (by kernel_rfl) (by kernel_rfl) (by kernel_rfl) (show P.underlying 3 = some (.int .i64) by kernel_rfl) (fun _ => ⟨by kernel_rfl, by kernel_rfl⟩)
noncomputable def td4 : TD := { und := .bool, size := 1, bytes := 1, zero := (.dat true (.bool) (false : Bool)), cmp := true }
theorem tdOk4 : TdOk P 4 td4 := tdOk_of (i := infoAt P 4) (cs := cellsOfTD td4) (by kernel_rfl) (by kernel_rfl) (by kernel_rfl) (by kernel_rfl) (show P.underlying 4 = some .bool by kernel_rfl) (fun _ => ⟨by kernel_rfl, by kernel_rfl⟩)
noncomputable def td23 : TD := { und := .struct [(0, 3), (1, 3)], size := 2, bytes := 16, zero := (.dat true (.pair (.int .i64) (.int .i64)) (((0 : Int), (0 : Int)) : (Int × Int))), cmp := true }
theorem tdOk23 : TdOk P 23 td23 := tdOk_of (i := infoAt P 23) (cs := cellsOfTD td23) (by kernel_rfl) (by kernel_rfl) (by kernel_rfl) (by kernel_rfl) (undStruct (fieldsAt P 23) (by kernel_rfl) (by kernel_rfl) (by kernel_rfl)) (fun _ => ⟨by kernel_rfl, by kernel_rfl⟩)
noncomputable def td24 : TD := { und := .int .i64, size := 1, bytes := 8, zero := (.dat true (.int .i64) ((0 : Int) : Int)), cmp := true }
theorem tdOk24 : TdOk P 24 td24 := tdOk_of (i := infoAt P 24) (cs := cellsOfTD td24) (by kernel_rfl) (by kernel_rfl) (by kernel_rfl) (by kernel_rfl) (show P.underlying 24 = some (.int .i64) by kernel_rfl) (fun _ => ⟨by kernel_rfl, by kernel_rfl⟩)
noncomputable def td31 : TD := { und := .slice 3, size := 1, bytes := 24, zero := .nils, cmp := false }
theorem tdOk31 : TdOk P 31 td31 := tdOk_of (i := infoAt P 31) (cs := cellsOfTD td31) (by kernel_rfl) (by kernel_rfl) (by kernel_rfl) (by kernel_rfl) (show P.underlying 31 = some (.slice 3) by kernel_rfl) (fun h => by cases h)
noncomputable def td37 : TD := { und := .arr 64 4, size := 64, bytes := 64, zero := (.dat true (.arr 64 (.bool)) ((List.replicate 64 false) : (List Bool))), cmp := true }
theorem tdOk37 : TdOk P 37 td37 := tdOk_of (i := infoAt P 37) (cs := cellsOfTD td37) (by kernel_rfl) (by kernel_rfl) (by kernel_rfl) (by kernel_rfl) (show P.underlying 37 = some (.array 64 4) by kernel_rfl) (fun _ => ⟨by kernel_rfl, by kernel_rfl⟩)
noncomputable def td39 : TD := { und := .slice 23, size := 1, bytes := 24, zero := .nils, cmp := false }
theorem tdOk39 : TdOk P 39 td39 := tdOk_of (i := infoAt P 39) (cs := cellsOfTD td39) (by kernel_rfl) (by kernel_rfl) (by kernel_rfl) (by kernel_rfl) (show P.underlying 39 = some (.slice 23) by kernel_rfl) (fun h => by cases h)
noncomputable def td43 : TD := { und := .int .u64, size := 1, bytes := 8, zero := (.dat true (.int .u64) ((0 : Int) : Int)), cmp := true }
theorem tdOk43 : TdOk P 43 td43 := tdOk_of (i := infoAt P 43) (cs := cellsOfTD td43) (by kernel_rfl) (by kernel_rfl) (by kernel_rfl) (by kernel_rfl) (show P.underlying 43 = some (.int .u64) by kernel_rfl) (fun _ => ⟨by kernel_rfl, by kernel_rfl⟩)
noncomputable def td45 : TD := { und := .struct [(0, 43), (1, 43)], size := 2, bytes := 16, zero := (.dat true (.pair (.int .u64) (.int .u64)) (((0 : Int), (0 : Int)) : (Int × Int))), cmp := true }
theorem tdOk45 : TdOk P 45 td45 := tdOk_of (i := infoAt P 45) (cs := cellsOfTD td45) (by kernel_rfl) (by kernel_rfl) (by kernel_rfl) (by kernel_rfl) (undStruct (fieldsAt P 45) (by kernel_rfl) (by kernel_rfl) (by kernel_rfl)) (fun _ => ⟨by kernel_rfl, by kernel_rfl⟩)
noncomputable def T : Tbl := tblOf [(3, td3), (4, td4), (23, td23), (24, td24), (31, td31), (37, td37), (39, td39), (43, td43), (45, td45)]
theorem T_ok : TblOk P T := (tblOk_cons tdOk3 (tblOk_cons tdOk4 (tblOk_cons tdOk23 (tblOk_cons tdOk24 (tblOk_cons tdOk31 (tblOk_cons tdOk37 (tblOk_cons tdOk39 (tblOk_cons tdOk43 (tblOk_cons tdOk45 tblOk_nil)))))))))
theorem mixed : P.follows .mixedOrders = true := by kernel_rfl

-- f18: tontine/arcs.Right
def fns18 (fuel : Nat) : Fns := fnsOf []
theorem fnsOk18 (fuel : Nat) : FnsOk P (fns18 fuel) := fnsOk_nil
def fi18 : Fr := ⟨[.d false (.pair (.int .i64) (.int .i64))], []⟩
def an18 : AN := (.seq (.region [(0, { touch := [0], ro := false })]) (.seq (.region [(0, { touch := [0] }), (1, { touch := [0] }), (4, { touch := [0] }), (5, { touch := [0] }), (9, { touch := [0] }), (10, { touch := [0] }), (14, { touch := [0] }), (15, { touch := [0] })]) (.ret [])))
def p18 (fuel : Nat) : (((Int × Int) × Unit) × Unit) → Option (Bool × Unit) := fun ((x1, _), _) => (bif (decide ((0 : Int) ≤ x1.1)) then (bif (decide (x1.1 < (64 : Int))) then (bif (decide ((0 : Int) ≤ x1.2)) then (some ((decide (x1.2 ≤ (64 : Int))), ())) else (some (false, ()))) else (some (false, ()))) else (some (false, ())))
def F18 (fuel : Nat) : Fun := funOf fi18 (.d true (.bool)) [] (p18 fuel)
theorem run18 (fuel : Nat) : ∀ y : (((Int × Int) × Unit) × Unit), runF (Bool × Unit) T (fns18 fuel) fuel (subsOf []) (defOf Try.f18 an18 1 [] []) (fi18.vs y) (fi18.os y) (outDec (.d true (.bool)) []) = p18 fuel y := by
  rintro ⟨⟨x1, _⟩, _⟩
  kernel_rfl
theorem ok18 (fuel : Nat) : FunOk P 18 (F18 fuel) :=
  funOf_ok (subs := (subsOf [])) (an := an18) (room := 1) (ks := []) (g0 := []) (fuel := fuel) T_ok (fnsOk18 fuel) mixed (fn := Try.f18) (by kernel_rfl) (by kernel_rfl) subsOk_nil (by kernel_rfl) (fun _ => ⟨by kernel_rfl, by kernel_rfl⟩) (run18 fuel)

-- f10: tontine/arcs.Split
def fns10 (fuel : Nat) : Fns := fnsOf [(18, F18 fuel)]
theorem fnsOk10 (fuel : Nat) : FnsOk P (fns10 fuel) := (fnsOk_cons (ok18 fuel) fnsOk_nil)
def fi10 : Fr := ⟨[.d false (.pair (.int .i64) (.int .i64)), .d false (.int .i64)], []⟩
def an10 : AN := (.seq (.region [(0, { touch := [0], ro := false }), (1, { touch := [1], base := 1, ro := false }), (2, { touch := [2], base := 2, ro := false })]) (.seq (.seq (.region [(0, { touch := [0] }), (9, { touch := [0] }), (10, { touch := [0] })]) (.cond (.seq (.region [(2, { touch := [1], ro := false }), (3, { touch := [2], ro := false })]) (.ret [])) .leaf)) (.seq (.region [(0, { touch := [0] }), (1, { touch := [0] }), (4, { touch := [0] }), (5, { touch := [0] }), (9, { touch := [0] }), (10, { touch := [0] }), (14, { touch := [1], ro := false }), (15, { touch := [2], ro := false })]) (.ret []))))
def p10 (fuel : Nat) : (((Int × Int) × (Int × Unit)) × Unit) → Option (((Int × Int) × ((Int × Int) × (Int × Unit))) × Unit) := fun ((x1, (x2, _)), _) => (match p18 fuel ((x1, ()), ()) with | some z3 => (bif (!z3.1) then (some ((((0 : Int), (0 : Int)), (((0 : Int), (0 : Int)), ((21 : Int), ()))), ())) else (bif (decide (x2 < (0 : Int))) then (some ((((0 : Int), (0 : Int)), (((0 : Int), (0 : Int)), ((21 : Int), ()))), ())) else (bif (decide (x1.2 < x2)) then (some ((((0 : Int), (0 : Int)), (((0 : Int), (0 : Int)), ((21 : Int), ()))), ())) else (some (((x1.1, x2), (((Int.tmod (IntKind.wrap .i64 (x1.1 + x2)) (64 : Int)), (IntKind.wrap .i64 (x1.2 - x2))), ((0 : Int), ()))), ()))))) | none => none)
def F10 (fuel : Nat) : Fun := funOf fi10 (.tup (.cons (.d true (.pair (.int .i64) (.int .i64))) (.cons (.d true (.pair (.int .i64) (.int .i64))) (.cons (.d true (.int .i64)) (.c .nil))))) [] (p10 fuel)
theorem run10 (fuel : Nat) : ∀ y : (((Int × Int) × (Int × Unit)) × Unit), runF (((Int × Int) × ((Int × Int) × (Int × Unit))) × Unit) T (fns10 fuel) fuel (subsOf []) (defOf Try.f10 an10 3 [] []) (fi10.vs y) (fi10.os y) (outDec (.tup (.cons (.d true (.pair (.int .i64) (.int .i64))) (.cons (.d true (.pair (.int .i64) (.int .i64))) (.cons (.d true (.int .i64)) (.c .nil))))) []) = p10 fuel y := by
  rintro ⟨⟨x1, ⟨x2, _⟩⟩, _⟩
  kernel_rfl
theorem ok10 (fuel : Nat) : FunOk P 10 (F10 fuel) :=
  funOf_ok (subs := (subsOf [])) (an := an10) (room := 3) (ks := []) (g0 := []) (fuel := fuel) T_ok (fnsOk10 fuel) mixed (fn := Try.f10) (by kernel_rfl) (by kernel_rfl) subsOk_nil (by kernel_rfl) (fun _ => ⟨by kernel_rfl, by kernel_rfl⟩) (run10 fuel)

-- f19: tontine/tontineref02.Right
def fns19 (fuel : Nat) : Fns := fnsOf []
theorem fnsOk19 (fuel : Nat) : FnsOk P (fns19 fuel) := fnsOk_nil
def fi19 : Fr := ⟨[.d false (.pair (.int .i64) (.int .i64))], []⟩
def an19 : AN := (.seq (.region [(0, { touch := [0], ro := false })]) (.seq (.region [(0, { touch := [0] }), (1, { touch := [0] }), (4, { touch := [0] }), (5, { touch := [0] }), (9, { touch := [0] }), (10, { touch := [0] }), (14, { touch := [0] }), (15, { touch := [0] })]) (.ret [])))
def p19 (fuel : Nat) : (((Int × Int) × Unit) × Unit) → Option (Bool × Unit) := fun ((x1, _), _) => (bif (decide ((0 : Int) ≤ x1.1)) then (bif (decide (x1.1 < (64 : Int))) then (bif (decide ((0 : Int) ≤ x1.2)) then (some ((decide (x1.2 ≤ (64 : Int))), ())) else (some (false, ()))) else (some (false, ()))) else (some (false, ())))
def F19 (fuel : Nat) : Fun := funOf fi19 (.d true (.bool)) [] (p19 fuel)
theorem run19 (fuel : Nat) : ∀ y : (((Int × Int) × Unit) × Unit), runF (Bool × Unit) T (fns19 fuel) fuel (subsOf []) (defOf Try.f19 an19 1 [] []) (fi19.vs y) (fi19.os y) (outDec (.d true (.bool)) []) = p19 fuel y := by
  rintro ⟨⟨x1, _⟩, _⟩
  kernel_rfl
theorem ok19 (fuel : Nat) : FunOk P 19 (F19 fuel) :=
  funOf_ok (subs := (subsOf [])) (an := an19) (room := 1) (ks := []) (g0 := []) (fuel := fuel) T_ok (fnsOk19 fuel) mixed (fn := Try.f19) (by kernel_rfl) (by kernel_rfl) subsOk_nil (by kernel_rfl) (fun _ => ⟨by kernel_rfl, by kernel_rfl⟩) (run19 fuel)

-- f11: tontine/tontineref02.Split
def fns11 (fuel : Nat) : Fns := fnsOf [(19, F19 fuel)]
theorem fnsOk11 (fuel : Nat) : FnsOk P (fns11 fuel) := (fnsOk_cons (ok19 fuel) fnsOk_nil)
def fi11 : Fr := ⟨[.d false (.pair (.int .i64) (.int .i64)), .d false (.int .i64)], []⟩
def an11 : AN := (.seq (.region [(0, { touch := [0], ro := false }), (1, { touch := [1], base := 1, ro := false }), (2, { touch := [2], base := 2, ro := false })]) (.seq (.region [(0, { touch := [0] })]) (.seq (.seq (.region [(8, { touch := [0] }), (9, { touch := [0] })]) (.cond (.seq (.region [(2, { touch := [1], ro := false }), (3, { touch := [2], ro := false })]) (.ret [])) .leaf)) (.seq (.region [(0, { touch := [0] }), (1, { touch := [0] }), (4, { touch := [0] }), (5, { touch := [0] }), (9, { touch := [0] }), (10, { touch := [0] }), (14, { touch := [1], ro := false }), (15, { touch := [2], ro := false })]) (.ret [])))))
def p11 (fuel : Nat) : (((Int × Int) × (Int × Unit)) × Unit) → Option (((Int × Int) × ((Int × Int) × (Int × Unit))) × Unit) := fun ((x1, (x2, _)), _) => (match p19 fuel ((x1, ()), ()) with | some z3 => (bif (!z3.1) then (some ((((0 : Int), (0 : Int)), (((0 : Int), (0 : Int)), ((21 : Int), ()))), ())) else (bif (decide (x2 < (0 : Int))) then (some ((((0 : Int), (0 : Int)), (((0 : Int), (0 : Int)), ((21 : Int), ()))), ())) else (bif (decide (x1.2 < x2)) then (some ((((0 : Int), (0 : Int)), (((0 : Int), (0 : Int)), ((21 : Int), ()))), ())) else (some (((x1.1, x2), (((Int.tmod (IntKind.wrap .i64 (x1.1 + x2)) (64 : Int)), (IntKind.wrap .i64 (x1.2 - x2))), ((0 : Int), ()))), ()))))) | none => none)
def F11 (fuel : Nat) : Fun := funOf fi11 (.tup (.cons (.d true (.pair (.int .i64) (.int .i64))) (.cons (.d true (.pair (.int .i64) (.int .i64))) (.cons (.d true (.int .i64)) (.c .nil))))) [] (p11 fuel)
theorem run11 (fuel : Nat) : ∀ y : (((Int × Int) × (Int × Unit)) × Unit), runF (((Int × Int) × ((Int × Int) × (Int × Unit))) × Unit) T (fns11 fuel) fuel (subsOf []) (defOf Try.f11 an11 3 [] []) (fi11.vs y) (fi11.os y) (outDec (.tup (.cons (.d true (.pair (.int .i64) (.int .i64))) (.cons (.d true (.pair (.int .i64) (.int .i64))) (.cons (.d true (.int .i64)) (.c .nil))))) []) = p11 fuel y := by
  rintro ⟨⟨x1, ⟨x2, _⟩⟩, _⟩
  kernel_rfl
theorem ok11 (fuel : Nat) : FunOk P 11 (F11 fuel) :=
  funOf_ok (subs := (subsOf [])) (an := an11) (room := 3) (ks := []) (g0 := []) (fuel := fuel) T_ok (fnsOk11 fuel) mixed (fn := Try.f11) (by kernel_rfl) (by kernel_rfl) subsOk_nil (by kernel_rfl) (fun _ => ⟨by kernel_rfl, by kernel_rfl⟩) (run11 fuel)

-- f12: tontine/arcs.Join
def fns12 (fuel : Nat) : Fns := fnsOf [(18, F18 fuel)]
theorem fnsOk12 (fuel : Nat) : FnsOk P (fns12 fuel) := (fnsOk_cons (ok18 fuel) fnsOk_nil)
def fi12 : Fr := ⟨[.d false (.pair (.int .i64) (.int .i64)), .d false (.pair (.int .i64) (.int .i64))], []⟩
def an12 : AN := (.seq (.region [(0, { touch := [0], ro := false }), (1, { touch := [1], base := 1, ro := false }), (2, { touch := [2], base := 2, ro := false })]) (.seq (.block (.seq (.region [(0, { touch := [0] }), (4, { touch := [1] }), (9, { touch := [0] }), (10, { touch := [0] }), (11, { touch := [1] }), (12, { touch := [1] })]) (.cond (.seq (.region [(1, { touch := [2], ro := false })]) (.ret [])) (.seq (.region [(0, { touch := [0] }), (1, { touch := [0] }), (2, { touch := [0] }), (3, { touch := [0] }), (6, { touch := [1] }), (7, { touch := [1] })]) (.cond (.seq (.region [(1, { touch := [2], ro := false })]) (.ret [])) .leaf))))) (.seq (.region [(0, { touch := [0] }), (1, { touch := [0] }), (2, { touch := [0] }), (3, { touch := [0] }), (4, { touch := [1] }), (5, { touch := [1] }), (8, { touch := [2], ro := false })]) (.ret []))))
def p12 (fuel : Nat) : (((Int × Int) × ((Int × Int) × Unit)) × Unit) → Option (((Int × Int) × (Int × Unit)) × Unit) := fun ((x1, (x2, _)), _) => (match p18 fuel ((x1, ()), ()) with | some z3 => (bif (!z3.1) then (some ((((0 : Int), (0 : Int)), ((21 : Int), ())), ())) else (match p18 fuel ((x2, ()), ()) with | some z4 => (bif (!z4.1) then (some ((((0 : Int), (0 : Int)), ((21 : Int), ())), ())) else (bif (decide ((64 : Int) < (IntKind.wrap .i64 (x1.2 + x2.2)))) then (some ((((0 : Int), (0 : Int)), ((21 : Int), ())), ())) else let v5 := (!decide ((Int.tmod (IntKind.wrap .i64 (x1.1 + x1.2)) (64 : Int)) = x2.1)); (bif v5 then (some ((((0 : Int), (0 : Int)), ((22 : Int), ())), ())) else (some (((x1.1, (IntKind.wrap .i64 (x1.2 + x2.2))), ((0 : Int), ())), ()))))) | none => none)) | none => none)
def F12 (fuel : Nat) : Fun := funOf fi12 (.tup (.cons (.d true (.pair (.int .i64) (.int .i64))) (.cons (.d true (.int .i64)) (.c .nil)))) [] (p12 fuel)
theorem run12 (fuel : Nat) : ∀ y : (((Int × Int) × ((Int × Int) × Unit)) × Unit), runF (((Int × Int) × (Int × Unit)) × Unit) T (fns12 fuel) fuel (subsOf []) (defOf Try.f12 an12 3 [] []) (fi12.vs y) (fi12.os y) (outDec (.tup (.cons (.d true (.pair (.int .i64) (.int .i64))) (.cons (.d true (.int .i64)) (.c .nil)))) []) = p12 fuel y := by
  rintro ⟨⟨x1, ⟨x2, _⟩⟩, _⟩
  kernel_rfl
theorem ok12 (fuel : Nat) : FunOk P 12 (F12 fuel) :=
  funOf_ok (subs := (subsOf [])) (an := an12) (room := 3) (ks := []) (g0 := []) (fuel := fuel) T_ok (fnsOk12 fuel) mixed (fn := Try.f12) (by kernel_rfl) (by kernel_rfl) subsOk_nil (by kernel_rfl) (fun _ => ⟨by kernel_rfl, by kernel_rfl⟩) (run12 fuel)

-- f13: tontine/tontineref02.Join
def fns13 (fuel : Nat) : Fns := fnsOf [(19, F19 fuel)]
theorem fnsOk13 (fuel : Nat) : FnsOk P (fns13 fuel) := (fnsOk_cons (ok19 fuel) fnsOk_nil)
def fi13 : Fr := ⟨[.d false (.pair (.int .i64) (.int .i64)), .d false (.pair (.int .i64) (.int .i64))], []⟩
def an13 : AN := (.seq (.region [(0, { touch := [0], ro := false }), (1, { touch := [1], base := 1, ro := false }), (2, { touch := [2], base := 2, ro := false })]) (.seq (.region [(0, { touch := [0] })]) (.seq (.region [(0, { touch := [1] })]) (.seq (.seq (.region [(7, { touch := [0] }), (8, { touch := [0] }), (9, { touch := [1] }), (10, { touch := [1] })]) (.cond (.seq (.region [(1, { touch := [2], ro := false })]) (.ret [])) .leaf)) (.seq (.seq (.region [(0, { touch := [0] }), (1, { touch := [0] }), (2, { touch := [0] }), (3, { touch := [0] }), (6, { touch := [1] }), (7, { touch := [1] })]) (.cond (.seq (.region [(1, { touch := [2], ro := false })]) (.ret [])) .leaf)) (.seq (.region [(0, { touch := [0] }), (1, { touch := [0] }), (2, { touch := [0] }), (3, { touch := [0] }), (4, { touch := [1] }), (5, { touch := [1] }), (8, { touch := [2], ro := false })]) (.ret [])))))))
def p13 (fuel : Nat) : (((Int × Int) × ((Int × Int) × Unit)) × Unit) → Option (((Int × Int) × (Int × Unit)) × Unit) := fun ((x1, (x2, _)), _) => (match p19 fuel ((x1, ()), ()) with | some z3 => (match p19 fuel ((x2, ()), ()) with | some z4 => (bif (!z3.1) then (some ((((0 : Int), (0 : Int)), ((21 : Int), ())), ())) else (bif (!z4.1) then (some ((((0 : Int), (0 : Int)), ((21 : Int), ())), ())) else (bif (decide ((64 : Int) < (IntKind.wrap .i64 (x1.2 + x2.2)))) then (some ((((0 : Int), (0 : Int)), ((21 : Int), ())), ())) else let v5 := (!decide ((Int.tmod (IntKind.wrap .i64 (x1.1 + x1.2)) (64 : Int)) = x2.1)); (bif v5 then (some ((((0 : Int), (0 : Int)), ((22 : Int), ())), ())) else (some (((x1.1, (IntKind.wrap .i64 (x1.2 + x2.2))), ((0 : Int), ())), ())))))) | none => none) | none => none)
def F13 (fuel : Nat) : Fun := funOf fi13 (.tup (.cons (.d true (.pair (.int .i64) (.int .i64))) (.cons (.d true (.int .i64)) (.c .nil)))) [] (p13 fuel)
theorem run13 (fuel : Nat) : ∀ y : (((Int × Int) × ((Int × Int) × Unit)) × Unit), runF (((Int × Int) × (Int × Unit)) × Unit) T (fns13 fuel) fuel (subsOf []) (defOf Try.f13 an13 3 [] []) (fi13.vs y) (fi13.os y) (outDec (.tup (.cons (.d true (.pair (.int .i64) (.int .i64))) (.cons (.d true (.int .i64)) (.c .nil)))) []) = p13 fuel y := by
  rintro ⟨⟨x1, ⟨x2, _⟩⟩, _⟩
  kernel_rfl
theorem ok13 (fuel : Nat) : FunOk P 13 (F13 fuel) :=
  funOf_ok (subs := (subsOf [])) (an := an13) (room := 3) (ks := []) (g0 := []) (fuel := fuel) T_ok (fnsOk13 fuel) mixed (fn := Try.f13) (by kernel_rfl) (by kernel_rfl) subsOk_nil (by kernel_rfl) (fun _ => ⟨by kernel_rfl, by kernel_rfl⟩) (run13 fuel)

-- f20: tontine/arcs.Has
def fns20 (fuel : Nat) : Fns := fnsOf [(18, F18 fuel)]
theorem fnsOk20 (fuel : Nat) : FnsOk P (fns20 fuel) := (fnsOk_cons (ok18 fuel) fnsOk_nil)
def fi20 : Fr := ⟨[.d false (.pair (.int .i64) (.int .i64)), .d false (.int .i64)], []⟩
def an20 : AN := (.seq (.region [(0, { touch := [0], ro := false })]) (.seq (.region [(0, { touch := [0] }), (12, { touch := [0] }), (13, { touch := [0] }), (17, { touch := [0] }), (18, { touch := [0] })]) (.ret [])))
def p20 (fuel : Nat) : (((Int × Int) × (Int × Unit)) × Unit) → Option (Bool × Unit) := fun ((x1, (x2, _)), _) => (match p18 fuel ((x1, ()), ()) with | some z3 => (bif z3.1 then (bif (decide ((0 : Int) ≤ x2)) then (bif (decide (x2 < (64 : Int))) then let v4 := (Int.tmod (IntKind.wrap .i64 ((IntKind.wrap .i64 (x2 - x1.1)) + (64 : Int))) (64 : Int)); (some ((decide (v4 < x1.2)), ())) else (some (false, ()))) else (some (false, ()))) else (some (false, ()))) | none => none)
def F20 (fuel : Nat) : Fun := funOf fi20 (.d true (.bool)) [] (p20 fuel)
theorem run20 (fuel : Nat) : ∀ y : (((Int × Int) × (Int × Unit)) × Unit), runF (Bool × Unit) T (fns20 fuel) fuel (subsOf []) (defOf Try.f20 an20 1 [] []) (fi20.vs y) (fi20.os y) (outDec (.d true (.bool)) []) = p20 fuel y := by
  rintro ⟨⟨x1, ⟨x2, _⟩⟩, _⟩
  kernel_rfl
theorem ok20 (fuel : Nat) : FunOk P 20 (F20 fuel) :=
  funOf_ok (subs := (subsOf [])) (an := an20) (room := 1) (ks := []) (g0 := []) (fuel := fuel) T_ok (fnsOk20 fuel) mixed (fn := Try.f20) (by kernel_rfl) (by kernel_rfl) subsOk_nil (by kernel_rfl) (fun _ => ⟨by kernel_rfl, by kernel_rfl⟩) (run20 fuel)

-- f14: tontine/tontinelaw02.alive
def fns14 (fuel : Nat) : Fns := fnsOf [(10, F10 fuel), (20, F20 fuel)]
theorem fnsOk14 (fuel : Nat) : FnsOk P (fns14 fuel) := (fnsOk_cons (ok10 fuel) (fnsOk_cons (ok20 fuel) fnsOk_nil))
def fi14 : Fr := ⟨[], []⟩
def an14 : AN := (.seq .leaf (.seq (.region [(1, { touch := [0], ro := false }), (2, { touch := [0], ro := false })]) (.seq (.region [(0, { touch := [0] }), (6, { touch := [1], base := 1, ro := false }), (7, { touch := [2], base := 2, ro := false }), (8, { touch := [1], ro := false }), (9, { touch := [2], ro := false })]) (.seq (.region [(3, { touch := [1] }), (8, { touch := [2] }), (13, { touch := [0] }), (17, { touch := [0] })]) (.ret [])))))
def p14 (fuel : Nat) : (Unit × Unit) → Option (Bool × Unit) := fun (_, _) => (match p10 fuel ((((60 : Int), (8 : Int)), ((4 : Int), ())), ()) with | some z1 => (bif (decide (z1.1.2.2.1 = (0 : Int))) then let v2 := (Ty.eqB (.pair (.int .i64) (.int .i64)) z1.1.1 ((60 : Int), (4 : Int))); (bif v2 then let v3 := (Ty.eqB (.pair (.int .i64) (.int .i64)) z1.1.2.1 ((0 : Int), (4 : Int))); (bif v3 then (match p20 fuel ((((60 : Int), (8 : Int)), ((3 : Int), ())), ()) with | some z4 => (bif z4.1 then (match p20 fuel ((((60 : Int), (8 : Int)), ((4 : Int), ())), ()) with | some z5 => (some ((!z5.1), ())) | none => none) else (some (false, ()))) | none => none) else (some (false, ()))) else (some (false, ()))) else (some (false, ()))) | none => none)
def F14 (fuel : Nat) : Fun := funOf fi14 (.d true (.bool)) [] (p14 fuel)
theorem run14 (fuel : Nat) : ∀ y : (Unit × Unit), runF (Bool × Unit) T (fns14 fuel) fuel (subsOf []) (defOf Try.f14 an14 3 [] []) (fi14.vs y) (fi14.os y) (outDec (.d true (.bool)) []) = p14 fuel y := by
  rintro ⟨_, _⟩
  kernel_rfl
theorem ok14 (fuel : Nat) : FunOk P 14 (F14 fuel) :=
  funOf_ok (subs := (subsOf [])) (an := an14) (room := 3) (ks := []) (g0 := []) (fuel := fuel) T_ok (fnsOk14 fuel) mixed (fn := Try.f14) (by kernel_rfl) (by kernel_rfl) subsOk_nil (by kernel_rfl) (fun _ => ⟨by kernel_rfl, by kernel_rfl⟩) (run14 fuel)

-- f3: tontine/tontinelaw02.ArcsParts
def fns3 (fuel : Nat) : Fns := fnsOf [(10, F10 fuel), (11, F11 fuel), (12, F12 fuel), (13, F13 fuel), (14, F14 fuel)]
theorem fnsOk3 (fuel : Nat) : FnsOk P (fns3 fuel) := (fnsOk_cons (ok10 fuel) (fnsOk_cons (ok11 fuel) (fnsOk_cons (ok12 fuel) (fnsOk_cons (ok13 fuel) (fnsOk_cons (ok14 fuel) fnsOk_nil)))))
def fi3 : Fr := ⟨[.d false (.pair (.int .i64) (.int .i64)), .d false (.pair (.int .i64) (.int .i64)), .d false (.int .i64)], []⟩
def an3 : AN := (.seq (.region [(0, { touch := [0], ro := false }), (1, { touch := [1], base := 1, ro := false })]) (.seq (.region [(0, { touch := [0] }), (7, { touch := [2], base := 2, ro := false }), (8, { touch := [3], base := 3, ro := false }), (9, { touch := [2], ro := false }), (10, { touch := [3], ro := false })]) (.seq (.region [(0, { touch := [0] }), (7, { touch := [4], base := 4, ro := false }), (8, { touch := [5], base := 5, ro := false }), (9, { touch := [4], ro := false }), (10, { touch := [5], ro := false })]) (.seq (.region [(0, { touch := [0] }), (1, { touch := [1] }), (6, { touch := [6], base := 6, ro := false }), (7, { touch := [6], ro := false })]) (.seq (.region [(0, { touch := [0] }), (1, { touch := [1] }), (6, { touch := [7], base := 7, ro := false }), (7, { touch := [7], ro := false })]) (.seq (.region [(2, { touch := [2] }), (3, { touch := [4] }), (7, { touch := [3] }), (8, { touch := [5] }), (17, { touch := [6] }), (18, { touch := [7] })]) (.ret [])))))))
def p3 (fuel : Nat) : (((Int × Int) × ((Int × Int) × (Int × Unit))) × Unit) → Option (Bool × Unit) := fun ((x1, (x2, (x3, _))), _) => (match p10 fuel ((x1, (x3, ())), ()) with | some z4 => (match p11 fuel ((x1, (x3, ())), ()) with | some z5 => (match p12 fuel ((x1, (x2, ())), ()) with | some z6 => (match p13 fuel ((x1, (x2, ())), ()) with | some z7 => (match p14 fuel ((), ()) with | some z8 => (bif z8.1 then (bif (Ty.eqB (.pair (.int .i64) (.int .i64)) z4.1.1 z5.1.1) then (bif (Ty.eqB (.pair (.int .i64) (.int .i64)) z4.1.2.1 z5.1.2.1) then (bif (decide (z4.1.2.2.1 = z5.1.2.2.1)) then (bif (Ty.eqB (.pair (.int .i64) (.int .i64)) z6.1.1 z7.1.1) then (some ((decide (z6.1.2.1 = z7.1.2.1)), ())) else (some (false, ()))) else (some (false, ()))) else (some (false, ()))) else (some (false, ()))) else (some (false, ()))) | none => none) | none => none) | none => none) | none => none) | none => none)
def F3 (fuel : Nat) : Fun := funOf fi3 (.d true (.bool)) [] (p3 fuel)
theorem run3 (fuel : Nat) : ∀ y : (((Int × Int) × ((Int × Int) × (Int × Unit))) × Unit), runF (Bool × Unit) T (fns3 fuel) fuel (subsOf []) (defOf Try.f3 an3 8 [] []) (fi3.vs y) (fi3.os y) (outDec (.d true (.bool)) []) = p3 fuel y := by
  rintro ⟨⟨x1, ⟨x2, ⟨x3, _⟩⟩⟩, _⟩
  kernel_rfl
theorem ok3 (fuel : Nat) : FunOk P 3 (F3 fuel) :=
  funOf_ok (subs := (subsOf [])) (an := an3) (room := 8) (ks := []) (g0 := []) (fuel := fuel) T_ok (fnsOk3 fuel) mixed (fn := Try.f3) (by kernel_rfl) (by kernel_rfl) subsOk_nil (by kernel_rfl) (fun _ => ⟨by kernel_rfl, by kernel_rfl⟩) (run3 fuel)

-- f16: tontine/tontinelaw02.same
def fns16 (fuel : Nat) : Fns := fnsOf []
theorem fnsOk16 (fuel : Nat) : FnsOk P (fns16 fuel) := fnsOk_nil
def fi16 : Fr := ⟨[.d false (.slice (.int .i64)), .d false (.slice (.int .i64))], []⟩
def fx16_0 : Fr := ⟨[], []⟩
def fx16_ret : Fr := ⟨[.d true (.bool)], []⟩
def fr16_0 : Fr := ⟨[.d false (.slice (.int .i64)), .d false (.slice (.int .i64)), .d true (.int .i64)], []⟩
def s16_0 (fuel : Nat) {R : Type} (F : (((List Int) × ((List Int) × (Int × Unit))) × Unit) → Option R) (kret : ((Bool × Unit) × Unit) → Option R) (k0 : (Unit × Unit) → Option R) : (((List Int) × ((List Int) × (Int × Unit))) × Unit) → Option R := fun ((x4, (x5, (x6, _))), _) => (bif (decide (x6 < ((List.length x4 : Nat) : Int))) then (if 0 ≤ x6 then (match (x4)[Int.toNat x6]? with | some y7 => (if 0 ≤ x6 then (match (x5)[Int.toNat x6]? with | some y8 => (bif (!decide (y7 = y8)) then (kret ((false, ()), ())) else (F ((x4, (x5, ((IntKind.wrap .i64 (x6 + (1 : Int))), ()))), ()))) | none => none) else none) | none => none) else none) else (k0 ((), ())))
def l16_0 (fuel : Nat) {R : Type} (kret : ((Bool × Unit) × Unit) → Option R) (k0 : (Unit × Unit) → Option R) : Nat → (((List Int) × ((List Int) × (Int × Unit))) × Unit) → Option R
  | 0, _ => none
  | n + 1, x => s16_0 fuel (l16_0 fuel kret k0 n) kret k0 x
def nm16_0 : Norm := ⟨[0, 1, 5], []⟩
def nh16_0 : Norm := ⟨[0, 1, 5], []⟩
def an16_0 : AN := (.seq (.seq .leaf (.cond .leaf (.norm ⟨[], []⟩ .leaf))) (.seq (.block (.seq .leaf (.cond (.seq .leaf (.norm ⟨[4], []⟩ (.ret []))) .leaf))) .leaf))
def al16_0 : AN := .loop nm16_0 an16_0
noncomputable def c16_0 : Code := bodyAt Try.f16 [1, 1, 0, 1, 0]
noncomputable def d16_0 : Code := bodyAt Try.f16 [1, 1, 0, 1, 0, 0]
theorem e16_0 (fuel : Nat) {R : Type} (F : St → Option R) (k : AExit → St → Option R) : ∀ x : (((List Int) × ((List Int) × (Int × Unit))) × Unit), runK R T (fns16 fuel) fuel [] (subsOf []) (partOf d16_0 an16_0) (fr16_0.st [0, 1, 5] x) (backTo R [] nm16_0 F k) = s16_0 fuel (fun x => F (fr16_0.st [0, 1, 5] x)) (fun y => k (.ret []) (fx16_ret.st [4] y)) (fun y => k (.exit 0) (fx16_0.st [] y)) x := by
  rintro ⟨⟨x4, ⟨x5, ⟨x6, _⟩⟩⟩, _⟩
  kernel_rfl
theorem u16_0 (fuel : Nat) {R : Type} (k : AExit → St → Option R) (x : (((List Int) × ((List Int) × (Int × Unit))) × Unit)) : runK R T (fns16 fuel) fuel [] (subsOf []) (partOf c16_0 al16_0) (fr16_0.st [0, 1, 5] x) k = l16_0 fuel (fun y => k (.ret []) (fx16_ret.st [4] y)) (fun y => k (.exit 0) (fx16_0.st [] y)) fuel x :=
  loop_eq (mk := fr16_0.st [0, 1, 5]) (s := fun F x => s16_0 fuel F (fun y => k (.ret []) (fx16_ret.st [4] y)) (fun y => k (.exit 0) (fx16_0.st [] y)) x) (l := fun n x => l16_0 fuel (fun y => k (.ret []) (fx16_ret.st [4] y)) (fun y => k (.exit 0) (fx16_0.st [] y)) n x) (d := d16_0) (by kernel_rfl) (fun G x => by
    revert x
    rintro ⟨⟨x4, ⟨x5, ⟨x6, _⟩⟩⟩, _⟩
    kernel_rfl) (fun F x => e16_0 fuel F k x) (fun _ => rfl) (fun _ _ => rfl) x
noncomputable def sub16_0 (fuel : Nat) (R : Type) : Sub R := Sub.of [0, 1, 5] c16_0 fr16_0 fun x k => l16_0 fuel (fun y => k (.ret []) (fx16_ret.st [4] y)) (fun y => k (.exit 0) (fx16_0.st [] y)) fuel x
theorem subOk16_0 (fuel : Nat) (R : Type) : SubOk P [] 26 (sub16_0 fuel R) :=
  subOk_part (fns := fns16 fuel) (fuel := fuel) (subs := (subsOf [])) (an := al16_0) T_ok (fnsOk16 fuel) mixed subsOk_nil (by kernel_rfl) (by kernel_rfl) fun _ _ _ _ h => Sub.of_run (fun (x : (((List Int) × ((List Int) × (Int × Unit))) × Unit)) k => u16_0 fuel k x) h
def an16 : AN := (.seq .leaf (.seq (.seq .leaf (.cond (.seq .leaf (.ret [])) .leaf)) (.seq (.seq .leaf (.block (.hole nh16_0 0))) (.seq .leaf (.ret [])))))
def p16 (fuel : Nat) : (((List Int) × ((List Int) × Unit)) × Unit) → Option (Bool × Unit) := fun ((x1, (x2, _)), _) => let v3 := (!decide (((List.length x1 : Nat) : Int) = ((List.length x2 : Nat) : Int))); (bif v3 then (some (false, ())) else (l16_0 fuel (fun ((x9, _), _) => (some (x9, ()))) (fun (_, _) => (some (true, ()))) fuel ((x1, (x2, ((0 : Int), ()))), ())))
def F16 (fuel : Nat) : Fun := funOf fi16 (.d true (.bool)) [] (p16 fuel)
theorem run16 (fuel : Nat) : ∀ y : (((List Int) × ((List Int) × Unit)) × Unit), runF (Bool × Unit) T (fns16 fuel) fuel (subsOf [sub16_0 fuel (Bool × Unit)]) (defOf Try.f16 an16 0 [] []) (fi16.vs y) (fi16.os y) (outDec (.d true (.bool)) []) = p16 fuel y := by
  rintro ⟨⟨x1, ⟨x2, _⟩⟩, _⟩
  kernel_rfl
theorem ok16 (fuel : Nat) : FunOk P 16 (F16 fuel) :=
  funOf_ok (subs := (subsOf [sub16_0 fuel (Bool × Unit)])) (an := an16) (room := 0) (ks := []) (g0 := []) (fuel := fuel) T_ok (fnsOk16 fuel) mixed (fn := Try.f16) (by kernel_rfl) (by kernel_rfl) (subsOk_cons (subOk16_0 fuel _) subsOk_nil) (by kernel_rfl) (fun _ => ⟨by kernel_rfl, by kernel_rfl⟩) (run16 fuel)

-- f22: tontine/arcs.Overlap
def fns22 (fuel : Nat) : Fns := fnsOf [(18, F18 fuel), (20, F20 fuel)]
theorem fnsOk22 (fuel : Nat) : FnsOk P (fns22 fuel) := (fnsOk_cons (ok18 fuel) (fnsOk_cons (ok20 fuel) fnsOk_nil))
def fi22 : Fr := ⟨[.d false (.pair (.int .i64) (.int .i64)), .d false (.pair (.int .i64) (.int .i64))], []⟩
def an22 : AN := (.seq (.region [(0, { touch := [0], ro := false }), (1, { touch := [1], base := 1, ro := false })]) (.seq (.region [(0, { touch := [0] }), (1, { touch := [0] }), (4, { touch := [1] }), (5, { touch := [1] }), (9, { touch := [0] }), (13, { touch := [1] }), (17, { touch := [0] }), (18, { touch := [1] }), (19, { touch := [1] }), (22, { touch := [1] }), (23, { touch := [0] }), (24, { touch := [0] })]) (.ret [])))
def p22 (fuel : Nat) : (((Int × Int) × ((Int × Int) × Unit)) × Unit) → Option (Bool × Unit) := fun ((x1, (x2, _)), _) => (bif (decide ((0 : Int) < x1.2)) then (bif (decide ((0 : Int) < x2.2)) then (match p18 fuel ((x1, ()), ()) with | some z3 => (bif z3.1 then (match p18 fuel ((x2, ()), ()) with | some z4 => (bif z4.1 then (match p20 fuel ((x1, (x2.1, ())), ()) with | some z5 => (bif z5.1 then (some (true, ())) else (match p20 fuel ((x2, (x1.1, ())), ()) with | some z6 => (some (z6.1, ())) | none => none)) | none => none) else (some (false, ()))) | none => none) else (some (false, ()))) | none => none) else (some (false, ()))) else (some (false, ())))
def F22 (fuel : Nat) : Fun := funOf fi22 (.d true (.bool)) [] (p22 fuel)
theorem run22 (fuel : Nat) : ∀ y : (((Int × Int) × ((Int × Int) × Unit)) × Unit), runF (Bool × Unit) T (fns22 fuel) fuel (subsOf []) (defOf Try.f22 an22 2 [] []) (fi22.vs y) (fi22.os y) (outDec (.d true (.bool)) []) = p22 fuel y := by
  rintro ⟨⟨x1, ⟨x2, _⟩⟩, _⟩
  kernel_rfl
theorem ok22 (fuel : Nat) : FunOk P 22 (F22 fuel) :=
  funOf_ok (subs := (subsOf [])) (an := an22) (room := 2) (ks := []) (g0 := []) (fuel := fuel) T_ok (fnsOk22 fuel) mixed (fn := Try.f22) (by kernel_rfl) (by kernel_rfl) subsOk_nil (by kernel_rfl) (fun _ => ⟨by kernel_rfl, by kernel_rfl⟩) (run22 fuel)

-- f24: tontine/tontineref02.Same
def fns24 (fuel : Nat) : Fns := fnsOf []
theorem fnsOk24 (fuel : Nat) : FnsOk P (fns24 fuel) := fnsOk_nil
def fi24 : Fr := ⟨[.d false (.slice (.pair (.int .i64) (.int .i64))), .d false (.slice (.pair (.int .i64) (.int .i64)))], []⟩
def fx24_0 : Fr := ⟨[], []⟩
def fx24_ret : Fr := ⟨[.d true (.bool)], []⟩
def fr24_0 : Fr := ⟨[.d false (.slice (.pair (.int .i64) (.int .i64))), .d false (.slice (.pair (.int .i64) (.int .i64))), .d true (.int .i64)], []⟩
def s24_0 (fuel : Nat) {R : Type} (F : (((List (Int × Int)) × ((List (Int × Int)) × (Int × Unit))) × Unit) → Option R) (kret : ((Bool × Unit) × Unit) → Option R) (k0 : (Unit × Unit) → Option R) : (((List (Int × Int)) × ((List (Int × Int)) × (Int × Unit))) × Unit) → Option R := fun ((x4, (x5, (x6, _))), _) => (bif (decide (x6 < ((List.length x4 : Nat) : Int))) then (if 0 ≤ x6 then (match (x4)[Int.toNat x6]? with | some y7 => (if 0 ≤ x6 then (match (x5)[Int.toNat x6]? with | some y8 => (bif (!(Ty.eqB (.pair (.int .i64) (.int .i64)) y7 y8)) then (kret ((false, ()), ())) else (F ((x4, (x5, ((IntKind.wrap .i64 (x6 + (1 : Int))), ()))), ()))) | none => none) else none) | none => none) else none) else (k0 ((), ())))
def l24_0 (fuel : Nat) {R : Type} (kret : ((Bool × Unit) × Unit) → Option R) (k0 : (Unit × Unit) → Option R) : Nat → (((List (Int × Int)) × ((List (Int × Int)) × (Int × Unit))) × Unit) → Option R
  | 0, _ => none
  | n + 1, x => s24_0 fuel (l24_0 fuel kret k0 n) kret k0 x
def nm24_0 : Norm := ⟨[0, 1, 5], []⟩
def nh24_0 : Norm := ⟨[0, 1, 5], []⟩
def an24_0 : AN := (.seq (.seq .leaf (.cond .leaf (.norm ⟨[], []⟩ .leaf))) (.seq (.block (.seq .leaf (.cond (.seq .leaf (.norm ⟨[4], []⟩ (.ret []))) .leaf))) .leaf))
def al24_0 : AN := .loop nm24_0 an24_0
noncomputable def c24_0 : Code := bodyAt Try.f24 [1, 1, 0, 1, 0]
noncomputable def d24_0 : Code := bodyAt Try.f24 [1, 1, 0, 1, 0, 0]
theorem e24_0 (fuel : Nat) {R : Type} (F : St → Option R) (k : AExit → St → Option R) : ∀ x : (((List (Int × Int)) × ((List (Int × Int)) × (Int × Unit))) × Unit), runK R T (fns24 fuel) fuel [] (subsOf []) (partOf d24_0 an24_0) (fr24_0.st [0, 1, 5] x) (backTo R [] nm24_0 F k) = s24_0 fuel (fun x => F (fr24_0.st [0, 1, 5] x)) (fun y => k (.ret []) (fx24_ret.st [4] y)) (fun y => k (.exit 0) (fx24_0.st [] y)) x := by
  rintro ⟨⟨x4, ⟨x5, ⟨x6, _⟩⟩⟩, _⟩
  kernel_rfl
theorem u24_0 (fuel : Nat) {R : Type} (k : AExit → St → Option R) (x : (((List (Int × Int)) × ((List (Int × Int)) × (Int × Unit))) × Unit)) : runK R T (fns24 fuel) fuel [] (subsOf []) (partOf c24_0 al24_0) (fr24_0.st [0, 1, 5] x) k = l24_0 fuel (fun y => k (.ret []) (fx24_ret.st [4] y)) (fun y => k (.exit 0) (fx24_0.st [] y)) fuel x :=
  loop_eq (mk := fr24_0.st [0, 1, 5]) (s := fun F x => s24_0 fuel F (fun y => k (.ret []) (fx24_ret.st [4] y)) (fun y => k (.exit 0) (fx24_0.st [] y)) x) (l := fun n x => l24_0 fuel (fun y => k (.ret []) (fx24_ret.st [4] y)) (fun y => k (.exit 0) (fx24_0.st [] y)) n x) (d := d24_0) (by kernel_rfl) (fun G x => by
    revert x
    rintro ⟨⟨x4, ⟨x5, ⟨x6, _⟩⟩⟩, _⟩
    kernel_rfl) (fun F x => e24_0 fuel F k x) (fun _ => rfl) (fun _ _ => rfl) x
noncomputable def sub24_0 (fuel : Nat) (R : Type) : Sub R := Sub.of [0, 1, 5] c24_0 fr24_0 fun x k => l24_0 fuel (fun y => k (.ret []) (fx24_ret.st [4] y)) (fun y => k (.exit 0) (fx24_0.st [] y)) fuel x
theorem subOk24_0 (fuel : Nat) (R : Type) : SubOk P [] 26 (sub24_0 fuel R) :=
  subOk_part (fns := fns24 fuel) (fuel := fuel) (subs := (subsOf [])) (an := al24_0) T_ok (fnsOk24 fuel) mixed subsOk_nil (by kernel_rfl) (by kernel_rfl) fun _ _ _ _ h => Sub.of_run (fun (x : (((List (Int × Int)) × ((List (Int × Int)) × (Int × Unit))) × Unit)) k => u24_0 fuel k x) h
def an24 : AN := (.seq .leaf (.seq (.seq .leaf (.cond (.seq .leaf (.ret [])) .leaf)) (.seq (.seq .leaf (.block (.hole nh24_0 0))) (.seq .leaf (.ret [])))))
def p24 (fuel : Nat) : (((List (Int × Int)) × ((List (Int × Int)) × Unit)) × Unit) → Option (Bool × Unit) := fun ((x1, (x2, _)), _) => let v3 := (!decide (((List.length x1 : Nat) : Int) = ((List.length x2 : Nat) : Int))); (bif v3 then (some (false, ())) else (l24_0 fuel (fun ((x9, _), _) => (some (x9, ()))) (fun (_, _) => (some (true, ()))) fuel ((x1, (x2, ((0 : Int), ()))), ())))
def F24 (fuel : Nat) : Fun := funOf fi24 (.d true (.bool)) [] (p24 fuel)
theorem run24 (fuel : Nat) : ∀ y : (((List (Int × Int)) × ((List (Int × Int)) × Unit)) × Unit), runF (Bool × Unit) T (fns24 fuel) fuel (subsOf [sub24_0 fuel (Bool × Unit)]) (defOf Try.f24 an24 0 [] []) (fi24.vs y) (fi24.os y) (outDec (.d true (.bool)) []) = p24 fuel y := by
  rintro ⟨⟨x1, ⟨x2, _⟩⟩, _⟩
  kernel_rfl
theorem ok24 (fuel : Nat) : FunOk P 24 (F24 fuel) :=
  funOf_ok (subs := (subsOf [sub24_0 fuel (Bool × Unit)])) (an := an24) (room := 0) (ks := []) (g0 := []) (fuel := fuel) T_ok (fnsOk24 fuel) mixed (fn := Try.f24) (by kernel_rfl) (by kernel_rfl) (subsOk_cons (subOk24_0 fuel _) subsOk_nil) (by kernel_rfl) (fun _ => ⟨by kernel_rfl, by kernel_rfl⟩) (run24 fuel)

-- f33: cmp.isNaN[uint64]
def fns33 (fuel : Nat) : Fns := fnsOf []
theorem fnsOk33 (fuel : Nat) : FnsOk P (fns33 fuel) := fnsOk_nil
def fi33 : Fr := ⟨[.d false (.int .u64)], []⟩
def an33 : AN := (.seq .leaf (.seq .leaf (.ret [])))
def p33 (fuel : Nat) : ((Int × Unit) × Unit) → Option (Bool × Unit) := fun ((x1, _), _) => (some ((!decide (x1 = x1)), ()))
def F33 (fuel : Nat) : Fun := funOf fi33 (.d true (.bool)) [] (p33 fuel)
theorem run33 (fuel : Nat) : ∀ y : ((Int × Unit) × Unit), runF (Bool × Unit) T (fns33 fuel) fuel (subsOf []) (defOf Try.f33 an33 0 [] []) (fi33.vs y) (fi33.os y) (outDec (.d true (.bool)) []) = p33 fuel y := by
  rintro ⟨⟨x1, _⟩, _⟩
  kernel_rfl
theorem ok33 (fuel : Nat) : FunOk P 33 (F33 fuel) :=
  funOf_ok (subs := (subsOf [])) (an := an33) (room := 0) (ks := []) (g0 := []) (fuel := fuel) T_ok (fnsOk33 fuel) mixed (fn := Try.f33) (by kernel_rfl) (by kernel_rfl) subsOk_nil (by kernel_rfl) (fun _ => ⟨by kernel_rfl, by kernel_rfl⟩) (run33 fuel)

-- f32: cmp.Compare[uint64]
def fns32 (fuel : Nat) : Fns := fnsOf [(33, F33 fuel)]
theorem fnsOk32 (fuel : Nat) : FnsOk P (fns32 fuel) := (fnsOk_cons (ok33 fuel) fnsOk_nil)
def fi32 : Fr := ⟨[.d false (.int .u64), .d false (.int .u64)], []⟩
def an32 : AN := (.seq .leaf (.seq .leaf (.seq .leaf (.seq (.seq .leaf (.cond (.seq (.seq .leaf (.cond (.seq .leaf (.ret [])) .leaf)) (.seq .leaf (.ret []))) .leaf)) (.seq (.seq .leaf (.cond (.seq .leaf (.ret [])) .leaf)) (.seq (.seq .leaf (.cond (.seq .leaf (.ret [])) .leaf)) (.seq (.seq .leaf (.cond (.seq .leaf (.ret [])) .leaf)) (.seq .leaf (.ret [])))))))))
def p32 (fuel : Nat) : ((Int × (Int × Unit)) × Unit) → Option (Int × Unit) := fun ((x1, (x2, _)), _) => (match p33 fuel ((x1, ()), ()) with | some z3 => (match p33 fuel ((x2, ()), ()) with | some z4 => (bif z3.1 then (bif z4.1 then (some ((0 : Int), ())) else (some ((-1 : Int), ()))) else (bif z4.1 then (some ((1 : Int), ())) else (bif (decide (x1 < x2)) then (some ((-1 : Int), ())) else (bif (decide (x2 < x1)) then (some ((1 : Int), ())) else (some ((0 : Int), ())))))) | none => none) | none => none)
def F32 (fuel : Nat) : Fun := funOf fi32 (.d true (.int .i64)) [] (p32 fuel)
theorem run32 (fuel : Nat) : ∀ y : ((Int × (Int × Unit)) × Unit), runF (Int × Unit) T (fns32 fuel) fuel (subsOf []) (defOf Try.f32 an32 0 [] []) (fi32.vs y) (fi32.os y) (outDec (.d true (.int .i64)) []) = p32 fuel y := by
  rintro ⟨⟨x1, ⟨x2, _⟩⟩, _⟩
  kernel_rfl
theorem ok32 (fuel : Nat) : FunOk P 32 (F32 fuel) :=
  funOf_ok (subs := (subsOf [])) (an := an32) (room := 0) (ks := []) (g0 := []) (fuel := fuel) T_ok (fnsOk32 fuel) mixed (fn := Try.f32) (by kernel_rfl) (by kernel_rfl) subsOk_nil (by kernel_rfl) (fun _ => ⟨by kernel_rfl, by kernel_rfl⟩) (run32 fuel)

-- f31: cmp.Or[int]
def fns31 (fuel : Nat) : Fns := fnsOf []
theorem fnsOk31 (fuel : Nat) : FnsOk P (fns31 fuel) := fnsOk_nil
def fi31 : Fr := ⟨[.d false (.slice (.int .i64))], []⟩
def fx31_0 : Fr := ⟨[.d true (.int .i64)], []⟩
def fx31_ret : Fr := ⟨[.d true (.int .i64)], []⟩
def fr31_0 : Fr := ⟨[.d true (.int .i64), .d false (.slice (.int .i64)), .d true (.int .i64), .d true (.int .i64)], []⟩
def s31_0 (fuel : Nat) {R : Type} (F : ((Int × ((List Int) × (Int × (Int × Unit)))) × Unit) → Option R) (kret : ((Int × Unit) × Unit) → Option R) (k0 : ((Int × Unit) × Unit) → Option R) : ((Int × ((List Int) × (Int × (Int × Unit)))) × Unit) → Option R := fun ((x2, (x3, (x4, (x5, _)))), _) => (bif (decide (x5 < x4)) then (if 0 ≤ x5 then (match (x3)[Int.toNat x5]? with | some y6 => (bif (!decide (y6 = x2)) then (kret ((y6, ()), ())) else (F ((x2, (x3, (x4, ((IntKind.wrap .i64 (x5 + (1 : Int))), ())))), ()))) | none => none) else none) else (k0 ((x2, ()), ())))
def l31_0 (fuel : Nat) {R : Type} (kret : ((Int × Unit) × Unit) → Option R) (k0 : ((Int × Unit) × Unit) → Option R) : Nat → ((Int × ((List Int) × (Int × (Int × Unit)))) × Unit) → Option R
  | 0, _ => none
  | n + 1, x => s31_0 fuel (l31_0 fuel kret k0 n) kret k0 x
def nm31_0 : Norm := ⟨[3, 6, 7, 8], []⟩
def nh31_0 : Norm := ⟨[3, 6, 7, 8], []⟩
def an31_0 : AN := (.seq .leaf (.seq (.cond .leaf (.norm ⟨[3], []⟩ .leaf)) (.seq (.block (.seq .leaf (.seq .leaf (.cond (.seq .leaf (.norm ⟨[2], []⟩ (.ret []))) .leaf)))) .leaf)))
def al31_0 : AN := .loop nm31_0 an31_0
noncomputable def c31_0 : Code := bodyAt Try.f31 [1, 1, 0, 1, 0]
noncomputable def d31_0 : Code := bodyAt Try.f31 [1, 1, 0, 1, 0, 0]
theorem e31_0 (fuel : Nat) {R : Type} (F : St → Option R) (k : AExit → St → Option R) : ∀ x : ((Int × ((List Int) × (Int × (Int × Unit)))) × Unit), runK R T (fns31 fuel) fuel [] (subsOf []) (partOf d31_0 an31_0) (fr31_0.st [3, 6, 7, 8] x) (backTo R [] nm31_0 F k) = s31_0 fuel (fun x => F (fr31_0.st [3, 6, 7, 8] x)) (fun y => k (.ret []) (fx31_ret.st [2] y)) (fun y => k (.exit 0) (fx31_0.st [3] y)) x := by
  rintro ⟨⟨x2, ⟨x3, ⟨x4, ⟨x5, _⟩⟩⟩⟩, _⟩
  kernel_rfl
theorem u31_0 (fuel : Nat) {R : Type} (k : AExit → St → Option R) (x : ((Int × ((List Int) × (Int × (Int × Unit)))) × Unit)) : runK R T (fns31 fuel) fuel [] (subsOf []) (partOf c31_0 al31_0) (fr31_0.st [3, 6, 7, 8] x) k = l31_0 fuel (fun y => k (.ret []) (fx31_ret.st [2] y)) (fun y => k (.exit 0) (fx31_0.st [3] y)) fuel x :=
  loop_eq (mk := fr31_0.st [3, 6, 7, 8]) (s := fun F x => s31_0 fuel F (fun y => k (.ret []) (fx31_ret.st [2] y)) (fun y => k (.exit 0) (fx31_0.st [3] y)) x) (l := fun n x => l31_0 fuel (fun y => k (.ret []) (fx31_ret.st [2] y)) (fun y => k (.exit 0) (fx31_0.st [3] y)) n x) (d := d31_0) (by kernel_rfl) (fun G x => by
    revert x
    rintro ⟨⟨x2, ⟨x3, ⟨x4, ⟨x5, _⟩⟩⟩⟩, _⟩
    kernel_rfl) (fun F x => e31_0 fuel F k x) (fun _ => rfl) (fun _ _ => rfl) x
noncomputable def sub31_0 (fuel : Nat) (R : Type) : Sub R := Sub.of [3, 6, 7, 8] c31_0 fr31_0 fun x k => l31_0 fuel (fun y => k (.ret []) (fx31_ret.st [2] y)) (fun y => k (.exit 0) (fx31_0.st [3] y)) fuel x
theorem subOk31_0 (fuel : Nat) (R : Type) : SubOk P [] 18 (sub31_0 fuel R) :=
  subOk_part (fns := fns31 fuel) (fuel := fuel) (subs := (subsOf [])) (an := al31_0) T_ok (fnsOk31 fuel) mixed subsOk_nil (by kernel_rfl) (by kernel_rfl) fun _ _ _ _ h => Sub.of_run (fun (x : ((Int × ((List Int) × (Int × (Int × Unit)))) × Unit)) k => u31_0 fuel k x) h
def an31 : AN := (.seq .leaf (.seq .leaf (.seq (.seq .leaf (.block (.hole nh31_0 0))) (.seq .leaf (.ret [])))))
def p31 (fuel : Nat) : (((List Int) × Unit) × Unit) → Option (Int × Unit) := fun ((x1, _), _) => (l31_0 fuel (fun ((x7, _), _) => (some (x7, ()))) (fun ((x8, _), _) => (some (x8, ()))) fuel (((0 : Int), (x1, (((List.length x1 : Nat) : Int), ((0 : Int), ())))), ()))
def F31 (fuel : Nat) : Fun := funOf fi31 (.d true (.int .i64)) [] (p31 fuel)
theorem run31 (fuel : Nat) : ∀ y : (((List Int) × Unit) × Unit), runF (Int × Unit) T (fns31 fuel) fuel (subsOf [sub31_0 fuel (Int × Unit)]) (defOf Try.f31 an31 0 [] []) (fi31.vs y) (fi31.os y) (outDec (.d true (.int .i64)) []) = p31 fuel y := by
  rintro ⟨⟨x1, _⟩, _⟩
  kernel_rfl
theorem ok31 (fuel : Nat) : FunOk P 31 (F31 fuel) :=
  funOf_ok (subs := (subsOf [sub31_0 fuel (Int × Unit)])) (an := an31) (room := 0) (ks := []) (g0 := []) (fuel := fuel) T_ok (fnsOk31 fuel) mixed (fn := Try.f31) (by kernel_rfl) (by kernel_rfl) (subsOk_cons (subOk31_0 fuel _) subsOk_nil) (by kernel_rfl) (fun _ => ⟨by kernel_rfl, by kernel_rfl⟩) (run31 fuel)

-- f29: tontine/keys.Cmp
def fns29 (fuel : Nat) : Fns := fnsOf [(32, F32 fuel), (31, F31 fuel)]
theorem fnsOk29 (fuel : Nat) : FnsOk P (fns29 fuel) := (fnsOk_cons (ok32 fuel) (fnsOk_cons (ok31 fuel) fnsOk_nil))
def fi29 : Fr := ⟨[.d false (.pair (.int .u64) (.int .u64)), .d false (.pair (.int .u64) (.int .u64))], []⟩
def an29 : AN := (.seq (.region [(0, { touch := [0], ro := false }), (1, { touch := [1], base := 1, ro := false })]) (.seq (.region [(0, { touch := [0] }), (1, { touch := [0] }), (2, { touch := [1] }), (3, { touch := [1] }), (5, { touch := [0] }), (6, { touch := [0] }), (7, { touch := [1] }), (8, { touch := [1] }), (10, { touch := [2], base := 2, ro := false }), (11, { touch := [2], lend := [some (.slice (.int .i64))] })]) (.ret [])))
def p29 (fuel : Nat) : (((Int × Int) × ((Int × Int) × Unit)) × Unit) → Option (Int × Unit) := fun ((x1, (x2, _)), _) => (match p32 fuel ((x1.1, (x2.1, ())), ()) with | some z3 => (match p32 fuel ((x1.2, (x2.2, ())), ()) with | some z4 => (match ((List.replicate 2 (0 : Int)))[0]? with | some y5 => (match ((List.set (List.replicate 2 (0 : Int)) 0 z3.1))[1]? with | some y6 => (match p31 fuel (((List.set (List.set (List.replicate 2 (0 : Int)) 0 z3.1) 1 z4.1), ()), ()) with | some z7 => (some (z7.1, ())) | none => none) | none => none) | none => none) | none => none) | none => none)
def F29 (fuel : Nat) : Fun := funOf fi29 (.d true (.int .i64)) [] (p29 fuel)
theorem run29 (fuel : Nat) : ∀ y : (((Int × Int) × ((Int × Int) × Unit)) × Unit), runF (Int × Unit) T (fns29 fuel) fuel (subsOf []) (defOf Try.f29 an29 3 [] []) (fi29.vs y) (fi29.os y) (outDec (.d true (.int .i64)) []) = p29 fuel y := by
  rintro ⟨⟨x1, ⟨x2, _⟩⟩, _⟩
  kernel_rfl
theorem ok29 (fuel : Nat) : FunOk P 29 (F29 fuel) :=
  funOf_ok (subs := (subsOf [])) (an := an29) (room := 3) (ks := []) (g0 := []) (fuel := fuel) T_ok (fnsOk29 fuel) mixed (fn := Try.f29) (by kernel_rfl) (by kernel_rfl) subsOk_nil (by kernel_rfl) (fun _ => ⟨by kernel_rfl, by kernel_rfl⟩) (run29 fuel)

-- f27: tontine/arcs.Between
def fns27 (fuel : Nat) : Fns := fnsOf [(29, F29 fuel)]
theorem fnsOk27 (fuel : Nat) : FnsOk P (fns27 fuel) := (fnsOk_cons (ok29 fuel) fnsOk_nil)
def fi27 : Fr := ⟨[.d false (.pair (.int .u64) (.int .u64)), .d false (.pair (.int .u64) (.int .u64)), .d false (.pair (.int .u64) (.int .u64))], []⟩
def an27 : AN := (.seq (.region [(0, { touch := [0], ro := false }), (1, { touch := [1], base := 1, ro := false }), (2, { touch := [2], base := 2, ro := false })]) (.seq (.region [(0, { touch := [0] }), (1, { touch := [1] }), (4, { touch := [1] }), (5, { touch := [2] })]) (.seq (.block (.seq (.region [(0, { touch := [0] }), (1, { touch := [2] })]) (.cond (.seq .leaf (.ret [])) (.seq (.region [(0, { touch := [0] }), (1, { touch := [2] })]) (.cond (.seq .leaf (.ret [])) .leaf))))) (.seq .leaf (.ret [])))))
def p27 (fuel : Nat) : (((Int × Int) × ((Int × Int) × ((Int × Int) × Unit))) × Unit) → Option (Bool × Unit) := fun ((x1, (x2, (x3, _))), _) => (match p29 fuel ((x1, (x2, ())), ()) with | some z4 => (match p29 fuel ((x2, (x3, ())), ()) with | some z5 => (bif (Ty.eqB (.pair (.int .u64) (.int .u64)) x1 x3) then (some (true, ())) else (match p29 fuel ((x1, (x3, ())), ()) with | some z6 => (bif (decide (z6.1 < (0 : Int))) then (bif (decide (z4.1 < (0 : Int))) then (some ((decide (z5.1 ≤ (0 : Int))), ())) else (some (false, ()))) else (bif (decide (z4.1 < (0 : Int))) then (some (true, ())) else (some ((decide (z5.1 ≤ (0 : Int))), ())))) | none => none)) | none => none) | none => none)
def F27 (fuel : Nat) : Fun := funOf fi27 (.d true (.bool)) [] (p27 fuel)
theorem run27 (fuel : Nat) : ∀ y : (((Int × Int) × ((Int × Int) × ((Int × Int) × Unit))) × Unit), runF (Bool × Unit) T (fns27 fuel) fuel (subsOf []) (defOf Try.f27 an27 3 [] []) (fi27.vs y) (fi27.os y) (outDec (.d true (.bool)) []) = p27 fuel y := by
  rintro ⟨⟨x1, ⟨x2, ⟨x3, _⟩⟩⟩, _⟩
  kernel_rfl
theorem ok27 (fuel : Nat) : FunOk P 27 (F27 fuel) :=
  funOf_ok (subs := (subsOf [])) (an := an27) (room := 3) (ks := []) (g0 := []) (fuel := fuel) T_ok (fnsOk27 fuel) mixed (fn := Try.f27) (by kernel_rfl) (by kernel_rfl) subsOk_nil (by kernel_rfl) (fun _ => ⟨by kernel_rfl, by kernel_rfl⟩) (run27 fuel)

-- f30: tontine/tontineref01.Cmp
def fns30 (fuel : Nat) : Fns := fnsOf []
theorem fnsOk30 (fuel : Nat) : FnsOk P (fns30 fuel) := fnsOk_nil
def fi30 : Fr := ⟨[.d false (.pair (.int .u64) (.int .u64)), .d false (.pair (.int .u64) (.int .u64))], []⟩
def an30 : AN := (.seq (.region [(0, { touch := [0], ro := false }), (1, { touch := [1], base := 1, ro := false })]) (.seq (.block (.seq (.region [(0, { touch := [0] }), (1, { touch := [0] }), (2, { touch := [1] }), (3, { touch := [1] }), (6, { touch := [0] }), (7, { touch := [0] }), (8, { touch := [1] }), (9, { touch := [1] }), (12, { touch := [0] }), (13, { touch := [0] }), (14, { touch := [1] }), (15, { touch := [1] })]) (.cond (.seq .leaf (.ret [])) (.seq (.region [(0, { touch := [0] }), (1, { touch := [1] })]) (.cond (.seq .leaf (.ret [])) .leaf))))) (.seq .leaf (.ret []))))
def p30 (fuel : Nat) : (((Int × Int) × ((Int × Int) × Unit)) × Unit) → Option (Int × Unit) := fun ((x1, (x2, _)), _) => (bif (decide (x1.1 < x2.1)) then (some ((-1 : Int), ())) else (bif (decide (x1.1 = x2.1)) then (bif (decide (x1.2 < x2.2)) then (some ((-1 : Int), ())) else (bif (Ty.eqB (.pair (.int .u64) (.int .u64)) x1 x2) then (some ((0 : Int), ())) else (some ((1 : Int), ())))) else (bif (Ty.eqB (.pair (.int .u64) (.int .u64)) x1 x2) then (some ((0 : Int), ())) else (some ((1 : Int), ())))))
def F30 (fuel : Nat) : Fun := funOf fi30 (.d true (.int .i64)) [] (p30 fuel)
theorem run30 (fuel : Nat) : ∀ y : (((Int × Int) × ((Int × Int) × Unit)) × Unit), runF (Int × Unit) T (fns30 fuel) fuel (subsOf []) (defOf Try.f30 an30 2 [] []) (fi30.vs y) (fi30.os y) (outDec (.d true (.int .i64)) []) = p30 fuel y := by
  rintro ⟨⟨x1, ⟨x2, _⟩⟩, _⟩
  kernel_rfl
theorem ok30 (fuel : Nat) : FunOk P 30 (F30 fuel) :=
  funOf_ok (subs := (subsOf [])) (an := an30) (room := 2) (ks := []) (g0 := []) (fuel := fuel) T_ok (fnsOk30 fuel) mixed (fn := Try.f30) (by kernel_rfl) (by kernel_rfl) subsOk_nil (by kernel_rfl) (fun _ => ⟨by kernel_rfl, by kernel_rfl⟩) (run30 fuel)

-- f28: tontine/tontineref02.Between
def fns28 (fuel : Nat) : Fns := fnsOf [(30, F30 fuel)]
theorem fnsOk28 (fuel : Nat) : FnsOk P (fns28 fuel) := (fnsOk_cons (ok30 fuel) fnsOk_nil)
def fi28 : Fr := ⟨[.d false (.pair (.int .u64) (.int .u64)), .d false (.pair (.int .u64) (.int .u64)), .d false (.pair (.int .u64) (.int .u64))], []⟩
def an28 : AN := (.seq (.region [(0, { touch := [0], ro := false }), (1, { touch := [1], base := 1, ro := false }), (2, { touch := [2], base := 2, ro := false })]) (.seq (.region [(0, { touch := [0] }), (1, { touch := [2] })]) (.seq (.region [(0, { touch := [0] }), (1, { touch := [1] })]) (.seq (.region [(0, { touch := [1] }), (1, { touch := [2] })]) (.seq (.seq .leaf (.block (.seq .leaf (.cond (.seq .leaf (.ret [])) (.seq .leaf (.cond (.seq .leaf (.ret [])) .leaf)))))) (.seq .leaf (.ret [])))))))
def p28 (fuel : Nat) : (((Int × Int) × ((Int × Int) × ((Int × Int) × Unit))) × Unit) → Option (Bool × Unit) := fun ((x1, (x2, (x3, _))), _) => (match p30 fuel ((x1, (x3, ())), ()) with | some z4 => (match p30 fuel ((x1, (x2, ())), ()) with | some z5 => (match p30 fuel ((x2, (x3, ())), ()) with | some z6 => (bif (decide (z4.1 = (-1 : Int))) then (bif (decide (z5.1 < (0 : Int))) then (some ((decide (z6.1 ≤ (0 : Int))), ())) else (some (false, ()))) else (bif (decide (z4.1 = (1 : Int))) then (bif (decide (z5.1 < (0 : Int))) then (some (true, ())) else (some ((decide (z6.1 ≤ (0 : Int))), ()))) else (some (true, ())))) | none => none) | none => none) | none => none)
def F28 (fuel : Nat) : Fun := funOf fi28 (.d true (.bool)) [] (p28 fuel)
theorem run28 (fuel : Nat) : ∀ y : (((Int × Int) × ((Int × Int) × ((Int × Int) × Unit))) × Unit), runF (Bool × Unit) T (fns28 fuel) fuel (subsOf []) (defOf Try.f28 an28 3 [] []) (fi28.vs y) (fi28.os y) (outDec (.d true (.bool)) []) = p28 fuel y := by
  rintro ⟨⟨x1, ⟨x2, ⟨x3, _⟩⟩⟩, _⟩
  kernel_rfl
theorem ok28 (fuel : Nat) : FunOk P 28 (F28 fuel) :=
  funOf_ok (subs := (subsOf [])) (an := an28) (room := 3) (ks := []) (g0 := []) (fuel := fuel) T_ok (fnsOk28 fuel) mixed (fn := Try.f28) (by kernel_rfl) (by kernel_rfl) subsOk_nil (by kernel_rfl) (fun _ => ⟨by kernel_rfl, by kernel_rfl⟩) (run28 fuel)

-- f8: tontine/tontinelaw02.ArcsBetween
def fns8 (fuel : Nat) : Fns := fnsOf [(14, F14 fuel), (27, F27 fuel), (28, F28 fuel)]
theorem fnsOk8 (fuel : Nat) : FnsOk P (fns8 fuel) := (fnsOk_cons (ok14 fuel) (fnsOk_cons (ok27 fuel) (fnsOk_cons (ok28 fuel) fnsOk_nil)))
def fi8 : Fr := ⟨[.d false (.pair (.int .u64) (.int .u64)), .d false (.pair (.int .u64) (.int .u64)), .d false (.pair (.int .u64) (.int .u64))], []⟩
def an8 : AN := (.seq (.region [(0, { touch := [0], ro := false }), (1, { touch := [1], base := 1, ro := false }), (2, { touch := [2], base := 2, ro := false })]) (.seq (.region [(2, { touch := [0] }), (3, { touch := [1] }), (4, { touch := [2] }), (6, { touch := [0] }), (7, { touch := [1] }), (8, { touch := [2] })]) (.ret [])))
def p8 (fuel : Nat) : (((Int × Int) × ((Int × Int) × ((Int × Int) × Unit))) × Unit) → Option (Bool × Unit) := fun ((x1, (x2, (x3, _))), _) => (match p14 fuel ((), ()) with | some z4 => (bif z4.1 then (match p27 fuel ((x1, (x2, (x3, ()))), ()) with | some z5 => (match p28 fuel ((x1, (x2, (x3, ()))), ()) with | some z6 => (some ((z5.1 == z6.1), ())) | none => none) | none => none) else (some (false, ()))) | none => none)
def F8 (fuel : Nat) : Fun := funOf fi8 (.d true (.bool)) [] (p8 fuel)
theorem run8 (fuel : Nat) : ∀ y : (((Int × Int) × ((Int × Int) × ((Int × Int) × Unit))) × Unit), runF (Bool × Unit) T (fns8 fuel) fuel (subsOf []) (defOf Try.f8 an8 3 [] []) (fi8.vs y) (fi8.os y) (outDec (.d true (.bool)) []) = p8 fuel y := by
  rintro ⟨⟨x1, ⟨x2, ⟨x3, _⟩⟩⟩, _⟩
  kernel_rfl
theorem ok8 (fuel : Nat) : FunOk P 8 (F8 fuel) :=
  funOf_ok (subs := (subsOf [])) (an := an8) (room := 3) (ks := []) (g0 := []) (fuel := fuel) T_ok (fnsOk8 fuel) mixed (fn := Try.f8) (by kernel_rfl) (by kernel_rfl) subsOk_nil (by kernel_rfl) (fun _ => ⟨by kernel_rfl, by kernel_rfl⟩) (run8 fuel)

-- f9: tontine/tontinelaw02.ArcsAround
def fns9 (fuel : Nat) : Fns := fnsOf [(27, F27 fuel), (14, F14 fuel)]
theorem fnsOk9 (fuel : Nat) : FnsOk P (fns9 fuel) := (fnsOk_cons (ok27 fuel) (fnsOk_cons (ok14 fuel) fnsOk_nil))
def fi9 : Fr := ⟨[.d false (.pair (.int .u64) (.int .u64)), .d false (.pair (.int .u64) (.int .u64)), .d false (.pair (.int .u64) (.int .u64))], []⟩
def an9 : AN := (.seq (.region [(0, { touch := [0], ro := false }), (1, { touch := [1], base := 1, ro := false }), (2, { touch := [2], base := 2, ro := false })]) (.seq (.region [(0, { touch := [0] }), (1, { touch := [1] }), (2, { touch := [2] })]) (.seq (.region [(0, { touch := [2] }), (1, { touch := [1] }), (2, { touch := [0] })]) (.seq (.region [(0, { touch := [0] }), (1, { touch := [2] }), (2, { touch := [2] })]) (.seq (.region [(0, { touch := [0] }), (1, { touch := [0] }), (2, { touch := [2] })]) (.seq (.region [(2, { touch := [0] }), (3, { touch := [2] }), (12, { touch := [0] }), (13, { touch := [2] })]) (.ret [])))))))
def p9 (fuel : Nat) : (((Int × Int) × ((Int × Int) × ((Int × Int) × Unit))) × Unit) → Option (Bool × Unit) := fun ((x1, (x2, (x3, _))), _) => (match p27 fuel ((x1, (x2, (x3, ()))), ()) with | some z4 => (match p27 fuel ((x3, (x2, (x1, ()))), ()) with | some z5 => (match p27 fuel ((x1, (x3, (x3, ()))), ()) with | some z6 => (match p27 fuel ((x1, (x1, (x3, ()))), ()) with | some z7 => (match p14 fuel ((), ()) with | some z8 => (bif z8.1 then (bif (Ty.eqB (.pair (.int .u64) (.int .u64)) x1 x3) then (bif z4.1 then (bif z5.1 then (some (true, ())) else (bif (!(Ty.eqB (.pair (.int .u64) (.int .u64)) x1 x3)) then (bif (!(z4.1 == z5.1)) then (bif z6.1 then (some ((!z7.1), ())) else (some (false, ()))) else (some (false, ()))) else (some (false, ())))) else (bif (!(Ty.eqB (.pair (.int .u64) (.int .u64)) x1 x3)) then (bif (!(z4.1 == z5.1)) then (bif z6.1 then (some ((!z7.1), ())) else (some (false, ()))) else (some (false, ()))) else (some (false, ())))) else (bif (!(Ty.eqB (.pair (.int .u64) (.int .u64)) x1 x3)) then (bif (!(z4.1 == z5.1)) then (bif z6.1 then (some ((!z7.1), ())) else (some (false, ()))) else (some (false, ()))) else (some (false, ())))) else (some (false, ()))) | none => none) | none => none) | none => none) | none => none) | none => none)
def F9 (fuel : Nat) : Fun := funOf fi9 (.d true (.bool)) [] (p9 fuel)
theorem run9 (fuel : Nat) : ∀ y : (((Int × Int) × ((Int × Int) × ((Int × Int) × Unit))) × Unit), runF (Bool × Unit) T (fns9 fuel) fuel (subsOf []) (defOf Try.f9 an9 3 [] []) (fi9.vs y) (fi9.os y) (outDec (.d true (.bool)) []) = p9 fuel y := by
  rintro ⟨⟨x1, ⟨x2, ⟨x3, _⟩⟩⟩, _⟩
  kernel_rfl
theorem ok9 (fuel : Nat) : FunOk P 9 (F9 fuel) :=
  funOf_ok (subs := (subsOf [])) (an := an9) (room := 3) (ks := []) (g0 := []) (fuel := fuel) T_ok (fnsOk9 fuel) mixed (fn := Try.f9) (by kernel_rfl) (by kernel_rfl) subsOk_nil (by kernel_rfl) (fun _ => ⟨by kernel_rfl, by kernel_rfl⟩) (run9 fuel)
end Go.Am.Ytlnidkgehflmfaa
