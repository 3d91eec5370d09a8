/- Printed by gen2.py: functions of the store. -/
import Derived.Test.YtkfmnkpajjnpoaaWalkB
namespace Go.Am.Ytkfmnkpajjnpoaa
open Go.Proofs
-- f61: tontine/tontineref01.MayKey
def fns61 (fuel : Nat) : Fns := fnsOf []
theorem fnsOk61 (fuel : Nat) : FnsOk P (fns61 fuel) := fnsOk_nil
def fi61 : Fr := ⟨[.d false (.str)], [], 0⟩
def al61 : List (Tm × List To) := [(.d true (.bool), [])]
def an61 : AN := (.seq .leaf (.seq .leaf (.norm ⟨[2], padK 0 []⟩ (.ret []))))
def p61 (fuel : Nat) : ByteArray → Option Bool := fun x1 => (bif (decide ((1 : Int) ≤ ((ByteArray.size x1 : Nat) : Int))) then (some (decide (((ByteArray.size x1 : Nat) : Int) ≤ (32 : Int)))) else (some false))
def F61 (fuel : Nat) : Fun := funOfA fi61 al61 (p61 fuel)
theorem run61 (fuel : Nat) : ∀ y : ByteArray, runF Bool T (fns61 fuel) fuel (subsOf []) (defOf Try.f61 an61 0 [] []) (fi61.vs y) (fi61.os y) (altsDec al61) = p61 fuel y := by
  rintro x1
  kernel_rfl
theorem ok61 (fuel : Nat) : FunOk P 61 (funOfA fi61 al61 (p61 fuel)) :=
  funOfA_ok (subs := (subsOf [])) (an := an61) (room := 0) (ks := []) (g0 := []) (fuel := fuel) T_ok (fnsOk61 fuel) mixed (fn := Try.f61) (by kernel_rfl) (by kernel_rfl) subsOk_nil (by kernel_rfl) (fun _ => ⟨by kernel_rfl, by kernel_rfl⟩) (run61 fuel)

-- f62: tontine/tontineref01.MayValue
def fns62 (fuel : Nat) : Fns := fnsOf []
theorem fnsOk62 (fuel : Nat) : FnsOk P (fns62 fuel) := fnsOk_nil
def fi62 : Fr := ⟨[.d false (.str)], [], 0⟩
def al62 : List (Tm × List To) := [(.d true (.bool), [])]
def an62 : AN := (.seq .leaf (.seq .leaf (.norm ⟨[2], padK 0 []⟩ (.ret []))))
def p62 (fuel : Nat) : ByteArray → Option Bool := fun x1 => (some (decide (((ByteArray.size x1 : Nat) : Int) ≤ (64 : Int))))
def F62 (fuel : Nat) : Fun := funOfA fi62 al62 (p62 fuel)
theorem run62 (fuel : Nat) : ∀ y : ByteArray, runF Bool T (fns62 fuel) fuel (subsOf []) (defOf Try.f62 an62 0 [] []) (fi62.vs y) (fi62.os y) (altsDec al62) = p62 fuel y := by
  rintro x1
  kernel_rfl
theorem ok62 (fuel : Nat) : FunOk P 62 (funOfA fi62 al62 (p62 fuel)) :=
  funOfA_ok (subs := (subsOf [])) (an := an62) (room := 0) (ks := []) (g0 := []) (fuel := fuel) T_ok (fnsOk62 fuel) mixed (fn := Try.f62) (by kernel_rfl) (by kernel_rfl) subsOk_nil (by kernel_rfl) (fun _ => ⟨by kernel_rfl, by kernel_rfl⟩) (run62 fuel)

-- f64: tontine/tontineref01.Of
def fns64 (fuel : Nat) : Fns := fnsOf []
theorem fnsOk64 (fuel : Nat) : FnsOk P (fns64 fuel) := fnsOk_nil
def fi64 : Fr := ⟨[.d false (.str)], [], 0⟩
def al64 : List (Tm × List To) := [(.d true (.pair (.int .u64) (.int .u64)), [])]
def fx64_0 : Fr := ⟨[.d true (.str), .c (.ptr 0 0 []), .c (.ptr 1 0 []), .d true (.int .i64)], [.box (.d true (.pair (.int .u64) (.int .u64))), .box (.d true (.pair (.int .u64) (.int .u64)))], 2⟩
def fr64_0 : Fr := ⟨[.d true (.str), .c (.ptr 0 0 []), .c (.ptr 1 0 []), .d true (.int .i64), .d true (.int .u64)], [.box (.d true (.pair (.int .u64) (.int .u64))), .box (.d true (.pair (.int .u64) (.int .u64)))], 2⟩
noncomputable def c64_0 : Code := bodyAt Try.f64 [1, 1, 0, 1, 0, 0, 1, 0, 0, 1, 1]
def j64_0 (fuel : Nat) {R : Type} (k0 : (ByteArray × Int × (Int × Int) × (Int × Int)) → Option R) : (ByteArray × Int × Int × (Int × Int) × (Int × Int)) → Option R := fun (x6, x7, x8, x9, x10) => (bif (decide (x7 < (8 : Int))) then (k0 (x6, x7, x9, ((IntKind.wrap .u64 ((IntKind.wrap .u64 ((256 : Int) * x10.1)) + x8)), x10.2))) else (k0 (x6, x7, x9, (x10.1, (IntKind.wrap .u64 ((IntKind.wrap .u64 ((256 : Int) * x10.2)) + x8))))))
def al64_0 : AN := (.fin ⟨[0, 2, 3, 4], padK 2 [some (0, 0), some (1, 0)]⟩ (.seq .leaf (.cond (.fin ⟨[0, 2, 3, 4], padK 2 [some (0, 0), some (1, 0)]⟩ (.region [(0, { touch := [1] }), (1, { touch := [1] }), (5, { touch := [1] }), (6, { touch := [1], ro := false })])) (.fin ⟨[0, 2, 3, 4], padK 2 [some (0, 0), some (1, 0)]⟩ (.region [(0, { touch := [1] }), (1, { touch := [1] }), (5, { touch := [1] }), (6, { touch := [1], ro := false })])))))
theorem u64_0 (fuel : Nat) {R : Type} (k : AExit → St → Option R) : ∀ x : (ByteArray × Int × Int × (Int × Int) × (Int × Int)), runK R T (fns64 fuel) fuel [] (subsOf []) (partOf c64_0 al64_0) (fr64_0.st [0, 2, 3, 4, 5] x) k = j64_0 fuel (fun y => k .normal (fx64_0.st [0, 2, 3, 4] y)) x := by
  rintro ⟨x6, x7, x8, x9, x10⟩
  kernel_rfl
noncomputable def sub64_0 (fuel : Nat) (R : Type) : Sub R := Sub.of [0, 2, 3, 4, 5] c64_0 fr64_0 fun x k => j64_0 fuel (fun y => k .normal (fx64_0.st [0, 2, 3, 4] y)) x
theorem subOk64_0 (fuel : Nat) (R : Type) : SubOk P [] 33 (sub64_0 fuel R) :=
  subOk_part (fns := (fns64 fuel)) (fuel := fuel) (subs := (subsOf [])) (an := al64_0) T_ok (fnsOk64 fuel) mixed subsOk_nil (by kernel_rfl) (by kernel_rfl) fun _ _ _ _ h => Sub.of_run (fun (x : (ByteArray × Int × Int × (Int × Int) × (Int × Int))) k => u64_0 fuel k x) h
def fx64_1 : Fr := ⟨[.c (.ptr 0 0 []), .c (.ptr 1 0 [])], [.box (.d true (.pair (.int .u64) (.int .u64))), .box (.d true (.pair (.int .u64) (.int .u64)))], 2⟩
def fr64_1 : Fr := ⟨[.d true (.str), .c (.ptr 0 0 []), .c (.ptr 1 0 []), .d true (.int .i64)], [.box (.d true (.pair (.int .u64) (.int .u64))), .box (.d true (.pair (.int .u64) (.int .u64)))], 2⟩
noncomputable def c64_1 : Code := bodyAt Try.f64 [1, 1, 0, 1, 0]
def s64_1 (fuel : Nat) {R : Type} (F : (ByteArray × Int × (Int × Int) × (Int × Int)) → Option R) (k0 : ((Int × Int) × (Int × Int)) → Option R) : (ByteArray × Int × (Int × Int) × (Int × Int)) → Option R := fun (x2, x3, x4, x5) => (bif (decide (x3 < (16 : Int))) then (bif (decide (x3 < ((ByteArray.size x2 : Nat) : Int))) then (if 0 ≤ x3 ∧ x3 < ((ByteArray.size x2 : Nat) : Int) then (j64_0 fuel (fun (x11, x12, x13, x14) => (F (x11, (IntKind.wrap .i64 (x12 + (1 : Int))), x13, x14))) (x2, x3, (IntKind.wrap .u64 (byteAt x2 (Int.toNat x3))), x4, x5)) else none) else (j64_0 fuel (fun (x15, x16, x17, x18) => (F (x15, (IntKind.wrap .i64 (x16 + (1 : Int))), x17, x18))) (x2, x3, (0 : Int), x4, x5))) else (k0 (x4, x5)))
def l64_1 (fuel : Nat) {R : Type} (k0 : ((Int × Int) × (Int × Int)) → Option R) : Nat → (ByteArray × Int × (Int × Int) × (Int × Int)) → Option R
  | 0, _ => none
  | n + 1, x => s64_1 fuel (l64_1 fuel k0 n) k0 x
def nm64_1 : Norm := ⟨[0, 2, 3, 4], padK 2 [some (0, 0), some (1, 0)]⟩
def an64_1 : AN := (.seq (.seq .leaf (.cond .leaf (.norm ⟨[2, 3], padK 2 [some (0, 0), some (1, 0)]⟩ .leaf))) (.seq (.block (.seq .leaf (.seq (.seq .leaf (.cond (.fin ⟨[0, 2, 3, 4, 5], padK 2 [some (0, 0), some (1, 0)]⟩ .leaf) (.fin ⟨[0, 2, 3, 4, 5], padK 2 [some (0, 0), some (1, 0)]⟩ .leaf))) (.hole ⟨[0, 2, 3, 4, 5], padK 2 [some (0, 0), some (1, 0)]⟩ 0)))) .leaf))
def al64_1 : AN := .loop nm64_1 an64_1
noncomputable def d64_1 : Code := bodyAt Try.f64 [1, 1, 0, 1, 0, 0]
theorem e64_1 (fuel : Nat) {R : Type} (F : St → Option R) (k : AExit → St → Option R) : ∀ x : (ByteArray × Int × (Int × Int) × (Int × Int)), runK R T (fns64 fuel) fuel [] (subsOf [sub64_0 fuel R]) (partOf d64_1 an64_1) (fr64_1.st [0, 2, 3, 4] x) (backTo R [] nm64_1 F k) = s64_1 fuel (fun x => F (fr64_1.st [0, 2, 3, 4] x)) (fun y => k (.exit 0) (fx64_1.st [2, 3] y)) x := by
  rintro ⟨x2, x3, x4, x5⟩
  kernel_rfl
theorem u64_1 (fuel : Nat) {R : Type} (k : AExit → St → Option R) (x : (ByteArray × Int × (Int × Int) × (Int × Int))) : runK R T (fns64 fuel) fuel [] (subsOf [sub64_0 fuel R]) (partOf c64_1 al64_1) (fr64_1.st [0, 2, 3, 4] x) k = l64_1 fuel (fun y => k (.exit 0) (fx64_1.st [2, 3] y)) fuel x :=
  loop_eq (mk := fr64_1.st [0, 2, 3, 4]) (s := fun F x => s64_1 fuel F (fun y => k (.exit 0) (fx64_1.st [2, 3] y)) x) (l := fun n x => l64_1 fuel (fun y => k (.exit 0) (fx64_1.st [2, 3] y)) n x) (d := d64_1) (by kernel_rfl) (fun G x => by
    revert x
    rintro ⟨x2, x3, x4, x5⟩
    kernel_rfl) (fun F x => e64_1 fuel F k x) (fun _ => rfl) (fun _ _ => rfl) x
noncomputable def sub64_1 (fuel : Nat) (R : Type) : Sub R := Sub.of [0, 2, 3, 4] c64_1 fr64_1 fun x k => l64_1 fuel (fun y => k (.exit 0) (fx64_1.st [2, 3] y)) fuel x
theorem subOk64_1 (fuel : Nat) (R : Type) : SubOk P [] 33 (sub64_1 fuel R) :=
  subOk_part (fns := (fns64 fuel)) (fuel := fuel) (subs := (subsOf [sub64_0 fuel R])) (an := al64_1) T_ok (fnsOk64 fuel) mixed (subsOk_cons (subOk64_0 fuel R) subsOk_nil) (by kernel_rfl) (by kernel_rfl) fun _ _ _ _ h => Sub.of_run (fun (x : (ByteArray × Int × (Int × Int) × (Int × Int))) k => u64_1 fuel k x) h
def an64 : AN := (.seq (.region [(0, { touch := [2], base := 2, ro := false })]) (.seq (.region [(0, { touch := [3], base := 3, ro := false })]) (.seq (.seq .leaf (.block (.hole ⟨[0, 2, 3, 4], padK 2 [some (2, 0), some (3, 0)]⟩ 1))) (.seq (.region [(0, { touch := [1] }), (1, { touch := [0], ro := false })]) (.norm ⟨[2], padK 3 [some (0, 0)]⟩ (.ret []))))))
def p64 (fuel : Nat) : ByteArray → Option (Int × Int) := fun x1 => (l64_1 fuel (fun (x19, x20) => (some x20)) fuel (x1, (0 : Int), ((0 : Int), (0 : Int)), ((0 : Int), (0 : Int))))
def F64 (fuel : Nat) : Fun := funOfA fi64 al64 (p64 fuel)
theorem run64 (fuel : Nat) : ∀ y : ByteArray, runF (Int × Int) T (fns64 fuel) fuel (subsOf [sub64_0 fuel (Int × Int), sub64_1 fuel (Int × Int)]) (defOf Try.f64 an64 4 [] []) (fi64.vs y) (fi64.os y) (altsDec al64) = p64 fuel y := by
  rintro x1
  kernel_rfl
theorem ok64 (fuel : Nat) : FunOk P 64 (funOfA fi64 al64 (p64 fuel)) :=
  funOfA_ok (subs := (subsOf [sub64_0 fuel (Int × Int), sub64_1 fuel (Int × Int)])) (an := an64) (room := 4) (ks := []) (g0 := []) (fuel := fuel) T_ok (fnsOk64 fuel) mixed (fn := Try.f64) (by kernel_rfl) (by kernel_rfl) (subsOk_cons (subOk64_0 fuel _) (subsOk_cons (subOk64_1 fuel _) subsOk_nil)) (by kernel_rfl) (fun _ => ⟨by kernel_rfl, by kernel_rfl⟩) (run64 fuel)

-- f63: tontine/tontineref01.Bucket
def fns63 (fuel : Nat) : Fns := fnsOf []
theorem fnsOk63 (fuel : Nat) : FnsOk P (fns63 fuel) := fnsOk_nil
def fi63 : Fr := ⟨[.d false (.pair (.int .u64) (.int .u64))], [], 0⟩
def al63 : List (Tm × List To) := [(.d true (.int .i64), [])]
def an63 : AN := (.seq (.region [(0, { touch := [0], ro := false })]) (.seq (.region [(0, { touch := [0] }), (1, { touch := [0] })]) (.norm ⟨[2], padK 1 []⟩ (.ret []))))
def p63 (fuel : Nat) : (Int × Int) → Option Int := fun x1 => let v2 := (IntKind.wrap .i64 (IntKind.wrap .u64 (Int.tdiv x1.1 (288230376151711744 : Int)))); (some v2)
def F63 (fuel : Nat) : Fun := funOfA fi63 al63 (p63 fuel)
theorem run63 (fuel : Nat) : ∀ y : (Int × Int), runF Int T (fns63 fuel) fuel (subsOf []) (defOf Try.f63 an63 1 [] []) (fi63.vs y) (fi63.os y) (altsDec al63) = p63 fuel y := by
  rintro x1
  kernel_rfl
theorem ok63 (fuel : Nat) : FunOk P 63 (funOfA fi63 al63 (p63 fuel)) :=
  funOfA_ok (subs := (subsOf [])) (an := an63) (room := 1) (ks := []) (g0 := []) (fuel := fuel) T_ok (fnsOk63 fuel) mixed (fn := Try.f63) (by kernel_rfl) (by kernel_rfl) subsOk_nil (by kernel_rfl) (fun _ => ⟨by kernel_rfl, by kernel_rfl⟩) (run63 fuel)

-- f34: tontine/tontineref15.Entries
def fns34 (fuel : Nat) : Fns := fnsOf [(61, F61 fuel), (62, F62 fuel), (64, F64 fuel), (63, F63 fuel)]
theorem fnsOk34 (fuel : Nat) : FnsOk P (fns34 fuel) := (fnsOk_cons (ok61 fuel) (fnsOk_cons (ok62 fuel) (fnsOk_cons (ok64 fuel) (fnsOk_cons (ok63 fuel) fnsOk_nil))))
def fi34 : Fr := ⟨[.d false (.int .i64), .d true (.slice (.pair (.str) (.str)))], [], 0⟩
def al34 : List (Tm × List To) := [(.d true (.bool), [])]
def fx34_0 : Fr := ⟨[.d true (.bool)], [], 0⟩
def fx34_1 : Fr := ⟨[], [], 0⟩
def fr34_0 : Fr := ⟨[.d true (.int .i64), .d true (.slice (.pair (.str) (.str))), .d true (.int .i64)], [], 0⟩
noncomputable def c34_0 : Code := bodyAt Try.f34 [1, 1, 0, 1, 0]
def s34_0 (fuel : Nat) {R : Type} (F : (Int × (List (ByteArray × ByteArray)) × Int) → Option R) (k0 : Bool → Option R) (k1 : Unit → Option R) : (Int × (List (ByteArray × ByteArray)) × Int) → Option R := fun (x3, x4, x5) => (bif (decide (x5 < ((List.length x4 : Nat) : Int))) then (if 0 ≤ x5 then (match (x4)[Int.toNat x5]? with | some y6 => (match p61 fuel y6.1 with | some z7 => (if 0 ≤ x5 then (match (x4)[Int.toNat x5]? with | some y8 => (match p62 fuel y8.2 with | some z9 => (bif (!z7) then (k0 false) else (bif (!z9) then (k0 false) else (if 0 ≤ x5 then (match (x4)[Int.toNat x5]? with | some y10 => (match p64 fuel y10.1 with | some z11 => (match p63 fuel z11 with | some z12 => (bif (!decide (z12 = x3)) then (k0 false) else (bif (decide ((0 : Int) < x5)) then (if 0 ≤ (IntKind.wrap .i64 (x5 - (1 : Int))) then (match (x4)[Int.toNat (IntKind.wrap .i64 (x5 - (1 : Int)))]? with | some y13 => (if 0 ≤ x5 then (match (x4)[Int.toNat x5]? with | some y14 => (bif (!strLess y13.1 y14.1) then (k0 false) else (F (x3, x4, (IntKind.wrap .i64 (x5 + (1 : Int)))))) | none => none) else none) | none => none) else none) else (F (x3, x4, (IntKind.wrap .i64 (x5 + (1 : Int))))))) | none => none) | none => none) | none => none) else none))) | none => none) | none => none) else none) | none => none) | none => none) else none) else (k1 ()))
def l34_0 (fuel : Nat) {R : Type} (k0 : Bool → Option R) (k1 : Unit → Option R) : Nat → (Int × (List (ByteArray × ByteArray)) × Int) → Option R
  | 0, _ => none
  | n + 1, x => s34_0 fuel (l34_0 fuel k0 k1 n) k0 k1 x
def nm34_0 : Norm := ⟨[0, 1, 5], padK 0 []⟩
def an34_0 : AN := (.seq (.seq .leaf (.cond .leaf (.norm ⟨[], padK 0 []⟩ .leaf))) (.seq (.block (.seq .leaf (.seq .leaf (.seq .leaf (.cond (.seq .leaf (.norm ⟨[4], padK 0 []⟩ (.ret []))) .leaf))))) .leaf))
def al34_0 : AN := .loop nm34_0 an34_0
noncomputable def d34_0 : Code := bodyAt Try.f34 [1, 1, 0, 1, 0, 0]
theorem e34_0 (fuel : Nat) {R : Type} (F : St → Option R) (k : AExit → St → Option R) : ∀ x : (Int × (List (ByteArray × ByteArray)) × Int), runK R T (fns34 fuel) fuel [] (subsOf []) (partOf d34_0 an34_0) (fr34_0.st [0, 1, 5] x) (backTo R [] nm34_0 F k) = s34_0 fuel (fun x => F (fr34_0.st [0, 1, 5] x)) (fun y => k (.ret []) (fx34_0.st [4] y)) (fun y => k (.exit 0) (fx34_1.st [] y)) x := by
  rintro ⟨x3, x4, x5⟩
  kernel_rfl
theorem u34_0 (fuel : Nat) {R : Type} (k : AExit → St → Option R) (x : (Int × (List (ByteArray × ByteArray)) × Int)) : runK R T (fns34 fuel) fuel [] (subsOf []) (partOf c34_0 al34_0) (fr34_0.st [0, 1, 5] x) k = l34_0 fuel (fun y => k (.ret []) (fx34_0.st [4] y)) (fun y => k (.exit 0) (fx34_1.st [] y)) fuel x :=
  loop_eq (mk := fr34_0.st [0, 1, 5]) (s := fun F x => s34_0 fuel F (fun y => k (.ret []) (fx34_0.st [4] y)) (fun y => k (.exit 0) (fx34_1.st [] y)) x) (l := fun n x => l34_0 fuel (fun y => k (.ret []) (fx34_0.st [4] y)) (fun y => k (.exit 0) (fx34_1.st [] y)) n x) (d := d34_0) (by kernel_rfl) (fun G x => by
    revert x
    rintro ⟨x3, x4, x5⟩
    kernel_rfl) (fun F x => e34_0 fuel F k x) (fun _ => rfl) (fun _ _ => rfl) x
noncomputable def sub34_0 (fuel : Nat) (R : Type) : Sub R := Sub.of [0, 1, 5] c34_0 fr34_0 fun x k => l34_0 fuel (fun y => k (.ret []) (fx34_0.st [4] y)) (fun y => k (.exit 0) (fx34_1.st [] y)) fuel x
theorem subOk34_0 (fuel : Nat) (R : Type) : SubOk P [] 64 (sub34_0 fuel R) :=
  subOk_part (fns := (fns34 fuel)) (fuel := fuel) (subs := (subsOf [])) (an := al34_0) T_ok (fnsOk34 fuel) mixed subsOk_nil (by kernel_rfl) (by kernel_rfl) fun _ _ _ _ h => Sub.of_run (fun (x : (Int × (List (ByteArray × ByteArray)) × Int)) k => u34_0 fuel k x) h
def an34 : AN := (.seq .leaf (.seq (.seq .leaf (.cond (.seq .leaf (.norm ⟨[4], padK 0 []⟩ (.ret []))) .leaf)) (.seq (.seq .leaf (.block (.hole ⟨[0, 1, 5], padK 0 []⟩ 0))) (.seq .leaf (.norm ⟨[4], padK 0 []⟩ (.ret []))))))
def p34 (fuel : Nat) : (Int × (List (ByteArray × ByteArray))) → Option Bool := fun (x1, x2) => (bif (decide ((8 : Int) < ((List.length x2 : Nat) : Int))) then (some false) else (l34_0 fuel (fun x15 => (some x15)) (fun _ => (some true)) fuel (x1, x2, (0 : Int))))
def F34 (fuel : Nat) : Fun := funOfA fi34 al34 (p34 fuel)
theorem run34 (fuel : Nat) : ∀ y : (Int × (List (ByteArray × ByteArray))), runF Bool T (fns34 fuel) fuel (subsOf [sub34_0 fuel Bool]) (defOf Try.f34 an34 0 [] []) (fi34.vs y) (fi34.os y) (altsDec al34) = p34 fuel y := by
  rintro ⟨x1, x2⟩
  kernel_rfl
theorem ok34 (fuel : Nat) : FunOk P 34 (funOfA fi34 al34 (p34 fuel)) :=
  funOfA_ok (subs := (subsOf [sub34_0 fuel Bool])) (an := an34) (room := 0) (ks := []) (g0 := []) (fuel := fuel) T_ok (fnsOk34 fuel) mixed (fn := Try.f34) (by kernel_rfl) (by kernel_rfl) (subsOk_cons (subOk34_0 fuel _) subsOk_nil) (by kernel_rfl) (fun _ => ⟨by kernel_rfl, by kernel_rfl⟩) (run34 fuel)

-- f15: tontine/tontineref15.Right
def fns15 (fuel : Nat) : Fns := fnsOf [(34, F34 fuel)]
theorem fnsOk15 (fuel : Nat) : FnsOk P (fns15 fuel) := (fnsOk_cons (ok34 fuel) fnsOk_nil)
def fi15 : Fr := ⟨[.d true (.pair (.int .i64) (.pair (.int .u32) (.pair (.bool) (.pair (.slice (.pair (.str) (.str))) (.arr 4 (.int .u32))))))], [], 0⟩
def al15 : List (Tm × List To) := [(.d true (.bool), [])]
def fx15_0 : Fr := ⟨[.c (.ptr 0 0 []), .d true (.int .i64)], [.box (.d true (.pair (.int .i64) (.pair (.int .u32) (.pair (.bool) (.pair (.slice (.pair (.str) (.str))) (.arr 4 (.int .u32)))))))], 1⟩
def fr15_0 : Fr := ⟨[.c (.ptr 0 0 []), .d true (.int .i64), .d true (.int .i64)], [.box (.d true (.pair (.int .i64) (.pair (.int .u32) (.pair (.bool) (.pair (.slice (.pair (.str) (.str))) (.arr 4 (.int .u32)))))))], 1⟩
noncomputable def c15_0 : Code := bodyAt Try.f15 [1, 1, 0, 1, 0]
def s15_0 (fuel : Nat) {R : Type} (F : (Int × Int × (Int × (Int × (Bool × ((List (ByteArray × ByteArray)) × (List Int)))))) → Option R) (k0 : (Int × (Int × (Int × (Bool × ((List (ByteArray × ByteArray)) × (List Int)))))) → Option R) : (Int × Int × (Int × (Int × (Bool × ((List (ByteArray × ByteArray)) × (List Int)))))) → Option R := fun (x2, x3, x4) => (bif (decide (x3 < (4 : Int))) then (if 0 ≤ x3 ∧ x3 < ((4 : Nat) : Int) then (match (x4.2.2.2.2)[(Int.toNat x3)]? with | some y5 => (bif (!decide (y5 = (0 : Int))) then (F ((IntKind.wrap .i64 (x2 + (1 : Int))), (IntKind.wrap .i64 (x3 + (1 : Int))), x4)) else (F (x2, (IntKind.wrap .i64 (x3 + (1 : Int))), x4))) | none => none) else none) else (k0 (x2, x4)))
def l15_0 (fuel : Nat) {R : Type} (k0 : (Int × (Int × (Int × (Bool × ((List (ByteArray × ByteArray)) × (List Int)))))) → Option R) : Nat → (Int × Int × (Int × (Int × (Bool × ((List (ByteArray × ByteArray)) × (List Int)))))) → Option R
  | 0, _ => none
  | n + 1, x => s15_0 fuel (l15_0 fuel k0 n) k0 x
def nm15_0 : Norm := ⟨[1, 3, 4], padK 1 [some (0, 0)]⟩
def an15_0 : AN := (.seq (.seq .leaf (.cond .leaf (.norm ⟨[1, 3], padK 1 [some (0, 0)]⟩ .leaf))) (.seq (.block (.seq (.region [(1, { touch := [0] }), (2, { touch := [0] }), (3, { touch := [0] })]) (.cond (.fin ⟨[1, 3, 4], padK 1 [some (0, 0)]⟩ .leaf) (.fin ⟨[1, 3, 4], padK 1 [some (0, 0)]⟩ .leaf)))) .leaf))
def al15_0 : AN := .loop nm15_0 an15_0
noncomputable def d15_0 : Code := bodyAt Try.f15 [1, 1, 0, 1, 0, 0]
theorem e15_0 (fuel : Nat) {R : Type} (F : St → Option R) (k : AExit → St → Option R) : ∀ x : (Int × Int × (Int × (Int × (Bool × ((List (ByteArray × ByteArray)) × (List Int)))))), runK R T (fns15 fuel) fuel [] (subsOf []) (partOf d15_0 an15_0) (fr15_0.st [1, 3, 4] x) (backTo R [] nm15_0 F k) = s15_0 fuel (fun x => F (fr15_0.st [1, 3, 4] x)) (fun y => k (.exit 0) (fx15_0.st [1, 3] y)) x := by
  rintro ⟨x2, x3, x4⟩
  kernel_rfl
theorem u15_0 (fuel : Nat) {R : Type} (k : AExit → St → Option R) (x : (Int × Int × (Int × (Int × (Bool × ((List (ByteArray × ByteArray)) × (List Int))))))) : runK R T (fns15 fuel) fuel [] (subsOf []) (partOf c15_0 al15_0) (fr15_0.st [1, 3, 4] x) k = l15_0 fuel (fun y => k (.exit 0) (fx15_0.st [1, 3] y)) fuel x :=
  loop_eq (mk := fr15_0.st [1, 3, 4]) (s := fun F x => s15_0 fuel F (fun y => k (.exit 0) (fx15_0.st [1, 3] y)) x) (l := fun n x => l15_0 fuel (fun y => k (.exit 0) (fx15_0.st [1, 3] y)) n x) (d := d15_0) (by kernel_rfl) (fun G x => by
    revert x
    rintro ⟨x2, x3, x4⟩
    kernel_rfl) (fun F x => e15_0 fuel F k x) (fun _ => rfl) (fun _ _ => rfl) x
noncomputable def sub15_0 (fuel : Nat) (R : Type) : Sub R := Sub.of [1, 3, 4] c15_0 fr15_0 fun x k => l15_0 fuel (fun y => k (.exit 0) (fx15_0.st [1, 3] y)) fuel x
theorem subOk15_0 (fuel : Nat) (R : Type) : SubOk P [] 57 (sub15_0 fuel R) :=
  subOk_part (fns := (fns15 fuel)) (fuel := fuel) (subs := (subsOf [])) (an := al15_0) T_ok (fnsOk15 fuel) mixed subsOk_nil (by kernel_rfl) (by kernel_rfl) fun _ _ _ _ h => Sub.of_run (fun (x : (Int × Int × (Int × (Int × (Bool × ((List (ByteArray × ByteArray)) × (List Int))))))) k => u15_0 fuel k x) h
def an15 : AN := (.seq (.region [(0, { touch := [1], base := 1, ro := false })]) (.seq .leaf (.seq (.seq .leaf (.block (.hole ⟨[1, 3, 4], padK 1 [some (1, 0)]⟩ 0))) (.seq (.region [(0, { touch := [0] }), (1, { touch := [0] }), (2, { touch := [0] }), (3, { touch := [0] })]) (.seq (.region [(0, { touch := [0] }), (1, { touch := [0] }), (4, { touch := [0] }), (5, { touch := [0] }), (9, { touch := [0] }), (10, { touch := [0] }), (18, { touch := [0] }), (19, { touch := [0] }), (24, { touch := [0] }), (25, { touch := [0] }), (28, { touch := [0] }), (29, { touch := [0] })]) (.norm ⟨[2], padK 2 []⟩ (.ret [])))))))
def p15 (fuel : Nat) : (Int × (Int × (Bool × ((List (ByteArray × ByteArray)) × (List Int))))) → Option Bool := fun x1 => (l15_0 fuel (fun (x6, x7) => (match p34 fuel (x7.1, x7.2.2.2.1) with | some z8 => (bif (decide ((0 : Int) ≤ x7.1)) then (bif (decide (x7.1 < (64 : Int))) then (bif (decide (x7.2.1 < (2147483647 : Int))) then (bif (decide ((3 : Int) ≤ x6)) then (bif x7.2.2.1 then (bif z8 then (some true) else (bif (!x7.2.2.1) then (some (decide (((List.length x7.2.2.2.1 : Nat) : Int) = (0 : Int)))) else (some false))) else (bif (!x7.2.2.1) then (some (decide (((List.length x7.2.2.2.1 : Nat) : Int) = (0 : Int)))) else (some false))) else (some false)) else (some false)) else (some false)) else (some false)) | none => none)) fuel ((0 : Int), (0 : Int), x1))
def F15 (fuel : Nat) : Fun := funOfA fi15 al15 (p15 fuel)
theorem run15 (fuel : Nat) : ∀ y : (Int × (Int × (Bool × ((List (ByteArray × ByteArray)) × (List Int))))), runF Bool T (fns15 fuel) fuel (subsOf [sub15_0 fuel Bool]) (defOf Try.f15 an15 2 [] []) (fi15.vs y) (fi15.os y) (altsDec al15) = p15 fuel y := by
  rintro x1
  kernel_rfl
theorem ok15 (fuel : Nat) : FunOk P 15 (funOfA fi15 al15 (p15 fuel)) :=
  funOfA_ok (subs := (subsOf [sub15_0 fuel Bool])) (an := an15) (room := 2) (ks := []) (g0 := []) (fuel := fuel) T_ok (fnsOk15 fuel) mixed (fn := Try.f15) (by kernel_rfl) (by kernel_rfl) (subsOk_cons (subOk15_0 fuel _) subsOk_nil) (by kernel_rfl) (fun _ => ⟨by kernel_rfl, by kernel_rfl⟩) (run15 fuel)

-- f3: tontine/tontinelaw15.StoreRights
noncomputable def fns3 (fuel : Nat) : Fns := fnsOf [(13, F13 fuel), (14, F14 fuel), (15, F15 fuel)]
theorem fnsOk3 (fuel : Nat) : FnsOk P (fns3 fuel) := (fnsOk_cons (ok13 fuel) (fnsOk_cons (ok14 fuel) (fnsOk_cons (ok15 fuel) fnsOk_nil)))
def fi3 : Fr := ⟨[.d true (.pair (.int .i64) (.pair (.int .u32) (.pair (.bool) (.pair (.slice (.pair (.str) (.str))) (.arr 4 (.int .u32))))))], [], 0⟩
def al3 : List (Tm × List To) := [(.d true (.bool), [])]
def an3 : AN := (.seq (.region [(0, { touch := [0], ro := false })]) (.seq (.region [(2, { touch := [0] }), (4, { touch := [0] })]) (.norm ⟨[2], padK 1 []⟩ (.ret []))))
noncomputable def p3 (fuel : Nat) : (Int × (Int × (Bool × ((List (ByteArray × ByteArray)) × (List Int))))) → Option Bool := fun x1 => (match p13 fuel () with | some z2 => (bif z2 then (match p14 fuel x1 with | some z3 => (match p15 fuel x1 with | some z4 => (some (z3 == z4)) | none => none) | none => none) else (some false)) | none => none)
noncomputable def F3 (fuel : Nat) : Fun := funOfA fi3 al3 (p3 fuel)
theorem run3 (fuel : Nat) : ∀ y : (Int × (Int × (Bool × ((List (ByteArray × ByteArray)) × (List Int))))), runF Bool T (fns3 fuel) fuel (subsOf []) (defOf Try.f3 an3 1 [] []) (fi3.vs y) (fi3.os y) (altsDec al3) = p3 fuel y := by
  rintro x1
  kernel_rfl
theorem ok3 (fuel : Nat) : FunOk P 3 (funOfA fi3 al3 (p3 fuel)) :=
  funOfA_ok (subs := (subsOf [])) (an := an3) (room := 1) (ks := []) (g0 := []) (fuel := fuel) T_ok (fnsOk3 fuel) mixed (fn := Try.f3) (by kernel_rfl) (by kernel_rfl) subsOk_nil (by kernel_rfl) (fun _ => ⟨by kernel_rfl, by kernel_rfl⟩) (run3 fuel)

end Go.Am.Ytkfmnkpajjnpoaa
