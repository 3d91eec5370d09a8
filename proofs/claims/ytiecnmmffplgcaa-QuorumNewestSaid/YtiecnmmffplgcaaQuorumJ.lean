/- Three hear the newest (QuorumNewest). -/
import Derived.Test.YtiecnmmffplgcaaQuorumG
namespace Go.Am.Ytiecnmmffplgcaa

def dig (i : Nat) : ByteArray := ByteArray.extract (⟨#[48, 49, 50, 51]⟩ : ByteArray) i (i + 1)
def verAt (vs : List Int) (k : Int) : Int := vs.getD k.toNat 0
def ans (vs : List Int) (k : Int) : An := (1, (1, (verAt vs k, [((⟨#[107]⟩ : ByteArray), dig k.toNat)])))
def said4 (vs : List Int) (P : Int → Bool) (k : Int) : Option An := if (0 ≤ k ∧ k < 4) ∧ P k = true then some (ans vs k) else none

theorem verAt_get {vs : List Int} (h : vs.length = 4) {i : Nat} (hi : i < 4) : vs[i]? = some (verAt vs i) := by
  unfold verAt
  rw [Int.toNat_natCast, List.getD_eq_getElem?_getD, List.getElem?_eq_getElem (by omega)]; rfl

theorem say {vs : List Int} (gv : ∀ k, 0 ≤ verAt vs k) {m : List (Int × An)} {bs : List Nat} {clk : Nat} (o : Ok m bs clk) {P : Int → Bool} (hh : hd m = said4 vs P) {i : Nat} (hi : i < 4) (hP : P i = false) :
    ∃ m' bs' clk', Ok m' bs' clk' ∧ hd m' = said4 vs (fun k => P k || decide (k = i)) ∧ p10 FUEL ((i : Int), ((1 : Int), ((1 : Int), (verAt vs i, [((⟨#[107]⟩ : ByteArray), dig i)]))), 0, 1, m, bs, clk) = some (0, 0, 1, m', bs', clk') := by
  have ga : goodA (ans vs i) := ⟨gv i, by simp [ans]⟩
  obtain ⟨m', bs', clk', e1, o', h'⟩ := add_run o 0 1 i ga
  have hnone : hd m i = none := by rw [hh]; unfold said4; rw [if_neg (by rw [hP]; simp)]
  have z0 : addE (hd m) 1 i (ans vs i) = 0 := addE_zero.2 ⟨by omega, by omega, by simp [ans], rfl, hnone⟩
  rw [addH_put (r := 1) ⟨by omega, by omega, by simp [ans], rfl, hnone⟩, hh] at h'
  rw [z0] at e1
  refine ⟨m', bs', clk', o', ?_, e1⟩
  rw [h']
  funext k
  unfold put said4
  by_cases e : k = i
  · rw [if_pos e, e, if_pos ⟨by omega, by simp⟩]
  · rw [if_neg e]
    have : decide (k = (i : Int)) = false := decide_eq_false e
    simp only [this, Bool.or_false]

/-- A turn's saying, as both loops print it. -/
theorem say_a {vs : List Int} (hv : vs.length = 4) (gv : ∀ k, 0 ≤ verAt vs k) {m : List (Int × An)} {bs : List Nat} {clk : Nat} (o : Ok m bs clk) {P : Int → Bool} (hh : hd m = said4 vs P) {i : Nat} (hi : i < 4) (hP : P i = false)
    (out k : Int) (or : List Int) {H : List Bool} (hH : H.length = 4) {R : Type} (K : (Int × Int × List Int × List Int × Int × Int × List (Int × An) × List Nat × Nat × List Bool) → Option R) :
    ∃ m' bs' clk', Ok m' bs' clk' ∧ hd m' = said4 vs (fun k => P k || decide (k = i)) ∧ j3_0 FUEL K (out, k, (i : Int), true, vs, or, 0, 1, m, bs, clk, H) = K (out, k, vs, or, 0, 1, m', bs', clk', H.set i true) := by
  obtain ⟨m', bs', clk', o', h', e⟩ := say gv o hh hi hP
  refine ⟨m', bs', clk', o', h', ?_⟩
  have hci : (0 : Int) ≤ i ∧ (i : Int) < ((4 : Nat) : Int) := by omega
  unfold j3_0
  simp only [cond_true]
  rw [if_pos hci, Int.toNat_natCast, List.getElem?_eq_getElem (show i < H.length by omega)]
  simp only
  rw [if_pos hci, verAt_get hv hi]
  simp only
  rw [wrapNext i (by omega), Int.toNat_natCast]
  have hs : ByteArray.size (⟨#[48, 49, 50, 51]⟩ : ByteArray) = 4 := rfl
  rw [if_pos (by rw [hs]; omega), if_pos (by omega)]
  have e' : p10 FUEL ((i : Int), ((1 : Int), ((1 : Int), (verAt vs i, [((⟨#[107]⟩ : ByteArray), ByteArray.extract (⟨#[48, 49, 50, 51]⟩ : ByteArray) i (i + 1))]))), 0, 1, m, bs, clk) = some (0, 0, 1, m', bs', clk') := e
  rw [e']
theorem say_b {vs : List Int} (hv : vs.length = 4) (gv : ∀ k, 0 ≤ verAt vs k) {m : List (Int × An)} {bs : List Nat} {clk : Nat} (o : Ok m bs clk) {P : Int → Bool} (hh : hd m = said4 vs P) {i : Nat} (hi : i < 4) (hP : P i = false)
    (out : Int) (H : List Bool) {R : Type} (K : (Int × Int × List Int × Int × Int × List (Int × An) × List Nat × Nat × List Bool) → Option R) :
    ∃ m' bs' clk', Ok m' bs' clk' ∧ hd m' = said4 vs (fun k => P k || decide (k = i)) ∧ j3_3 FUEL K (out, (i : Int), true, vs, 0, 1, m, bs, clk, H) = K (out, (i : Int), vs, 0, 1, m', bs', clk', H) := by
  obtain ⟨m', bs', clk', o', h', e⟩ := say gv o hh hi hP
  refine ⟨m', bs', clk', o', h', ?_⟩
  have hci : (0 : Int) ≤ i ∧ (i : Int) < ((4 : Nat) : Int) := by omega
  unfold j3_3
  simp only [cond_true]
  rw [if_pos hci, Int.toNat_natCast, verAt_get hv hi]
  simp only
  rw [wrapNext i (by omega), Int.toNat_natCast]
  have hs : ByteArray.size (⟨#[48, 49, 50, 51]⟩ : ByteArray) = 4 := rfl
  rw [if_pos (by rw [hs]; omega), if_pos (by omega)]
  have e' : p10 FUEL ((i : Int), ((1 : Int), ((1 : Int), (verAt vs i, [((⟨#[107]⟩ : ByteArray), ByteArray.extract (⟨#[48, 49, 50, 51]⟩ : ByteArray) i (i + 1))]))), 0, 1, m, bs, clk) = some (0, 0, 1, m', bs', clk') := e
  rw [e']

def hAt (H : List Bool) (k : Int) : Bool := H.getD k.toNat false
theorem hAt_get {H : List Bool} (h : H.length = 4) {i : Nat} (hi : i < 4) : H[i]? = some (hAt H i) := by
  unfold hAt
  rw [Int.toNat_natCast, List.getD_eq_getElem?_getD, List.getElem?_eq_getElem (by omega)]; rfl
theorem hAt_set {vs : List Int} {H : List Bool} (h : H.length = 4) {i : Nat} (hi : i < 4) : said4 vs (hAt (H.set i true)) = said4 vs (fun k => hAt H k || decide (k = i)) := by
  funext k
  unfold said4
  by_cases hk : 0 ≤ k ∧ k < 4
  · obtain ⟨j, rfl⟩ : ∃ j : Nat, k = j := ⟨k.toNat, by omega⟩
    have : hAt (H.set i true) j = (hAt H j || decide ((j : Int) = i)) := by
      unfold hAt
      rw [Int.toNat_natCast, List.getD_eq_getElem?_getD, List.getD_eq_getElem?_getD, List.getElem?_set]
      by_cases e : i = j
      · subst e
        rw [if_pos rfl, if_pos (by omega)]; simp
      · rw [if_neg e, decide_eq_false (by omega), Bool.or_false]
    rw [this]
  · rw [if_neg (fun c => hk c.1), if_neg (fun c => hk c.1)]

/-- One turn of the first loop, with the index made right. -/
theorem turn_a {vs : List Int} (hv : vs.length = 4) (gv : ∀ k, 0 ≤ verAt vs k) {out : Nat} {m : List (Int × An)} {bs : List Nat} {clk : Nat} (o : Ok m bs clk) {H : List Bool} (hH : H.length = 4) (hh : hd m = said4 vs (hAt H)) (hout : hAt H out = false)
    (k z : Int) (hz : 0 ≤ z) (or : List Int) {R : Type} (K : (Int × Int × List Int × List Int × Int × Int × List (Int × An) × List Nat × Nat × List Bool) → Option R) :
    ∃ m' bs' clk' H', Ok m' bs' clk' ∧ H'.length = 4 ∧ hd m' = said4 vs (hAt H') ∧ hAt H' out = false ∧ j3_1 FUEL K ((out : Int), k, z, vs, or, 0, 1, m, bs, clk, H) = K ((out : Int), k, vs, or, 0, 1, m', bs', clk', H') := by
  unfold j3_1
  simp only
  rw [tmod_pos hz]
  obtain ⟨i, hi⟩ : ∃ i : Nat, z % 4 = i := ⟨(z % 4).toNat, by omega⟩
  have hi4 : i < 4 := by omega
  rw [hi]
  by_cases e : (i : Int) = out
  · rw [decide_eq_true e]
    exact ⟨m, bs, clk, H, o, hH, hh, hout, rfl⟩
  · rw [decide_eq_false e]
    simp only [Bool.not_false, cond_true]
    rw [if_pos (by omega), Int.toNat_natCast, hAt_get hH hi4]
    cases hq : hAt H i with
    | true => exact ⟨m, bs, clk, H, o, hH, hh, hout, rfl⟩
    | false =>
      obtain ⟨m', bs', clk', o', h', e1⟩ := say_a hv gv o hh hi4 hq (out : Int) k or hH K
      refine ⟨m', bs', clk', H.set i true, o', by rw [List.length_set]; exact hH, by rw [h', hAt_set hH hi4], ?_, e1⟩
      unfold hAt at hout ⊢
      rw [Int.toNat_natCast, List.getD_eq_getElem?_getD] at hout ⊢
      rw [List.getElem?_set, if_neg (by omega)]
      exact hout

theorem first_loop {vs : List Int} (hv : vs.length = 4) (gv : ∀ k, 0 ≤ verAt vs k) {out : Nat} {or : List Int} (hor : or.length = 4) (wor : ∀ y ∈ or, -9223372036854775808 ≤ y ∧ y < 9223372036854775808) {R : Type}
    (K : (Int × List Int × Int × Int × List (Int × An) × List Nat × Nat × List Bool) → Option R) :
    ∀ (k i n : Nat) (m : List (Int × An)) (bs : List Nat) (clk : Nat) (H : List Bool), i + k = 4 → k < n → Ok m bs clk → H.length = 4 → hd m = said4 vs (hAt H) → hAt H out = false →
      ∃ m' bs' clk' H', Ok m' bs' clk' ∧ H'.length = 4 ∧ hd m' = said4 vs (hAt H') ∧ hAt H' out = false ∧ l3_2 FUEL K n ((out : Int), (i : Int), vs, or, 0, 1, m, bs, clk, H) = K ((out : Int), vs, 0, 1, m', bs', clk', H') := by
  intro k
  induction k with
  | zero =>
    intro i n m bs clk H hi hn o hH hh hout
    obtain ⟨n, rfl⟩ : ∃ q, n = q + 1 := ⟨n - 1, by omega⟩
    obtain rfl : i = 4 := by omega
    exact ⟨m, bs, clk, H, o, hH, hh, hout, rfl⟩
  | succ k ih =>
    intro i n m bs clk H hi hn o hH hh hout
    obtain ⟨n, rfl⟩ : ∃ q, n = q + 1 := ⟨n - 1, by omega⟩
    have hlt : i < 4 := by omega
    have hy := wor (or[i]'(by omega)) (List.getElem_mem _)
    generalize hyy : or[i]'(by omega) = y at hy
    have enter : ∀ F, s3_2 FUEL F K ((out : Int), (i : Int), vs, or, 0, 1, m, bs, clk, H) = (bif decide (y < 0) then j3_1 FUEL (fun (x75, x76, x77, x78, x79, x80, x81, x82, x83, x84) => (F (x75, (IntKind.wrap .i64 (x76 + (1 : Int))), x77, x78, x79, x80, x81, x82, x83, x84))) ((out : Int), (i : Int), (IntKind.wrap .i64 (0 - (IntKind.wrap .i64 (y + (1 : Int))))), vs, or, 0, 1, m, bs, clk, H)
        else j3_1 FUEL (fun (x85, x86, x87, x88, x89, x90, x91, x92, x93, x94) => (F (x85, (IntKind.wrap .i64 (x86 + (1 : Int))), x87, x88, x89, x90, x91, x92, x93, x94))) ((out : Int), (i : Int), y, vs, or, 0, 1, m, bs, clk, H)) := by
      intro F
      refine (condT (decide_eq_true (show ((i : Nat) : Int) < 4 by omega))).trans ?_
      rw [if_pos (by omega), Int.toNat_natCast, List.getElem?_eq_getElem (show i < or.length by omega), hyy]
    have go : ∀ z : Int, 0 ≤ z → ∃ m' bs' clk' H', Ok m' bs' clk' ∧ H'.length = 4 ∧ hd m' = said4 vs (hAt H') ∧ hAt H' out = false ∧ j3_1 FUEL (fun (x75, x76, x77, x78, x79, x80, x81, x82, x83, x84) => (l3_2 FUEL K n (x75, (IntKind.wrap .i64 (x76 + (1 : Int))), x77, x78, x79, x80, x81, x82, x83, x84))) ((out : Int), (i : Int), z, vs, or, 0, 1, m, bs, clk, H) = K ((out : Int), vs, 0, 1, m', bs', clk', H') := by
      intro z hz
      obtain ⟨m1, b1, c1, H1, q1, q2, q3, q4, q5⟩ := turn_a hv gv o hH hh hout i z hz or (fun (x75, x76, x77, x78, x79, x80, x81, x82, x83, x84) => (l3_2 FUEL K n (x75, (IntKind.wrap .i64 (x76 + (1 : Int))), x77, x78, x79, x80, x81, x82, x83, x84)))
      obtain ⟨m', bs', clk', H', r1, r2, r3, r4, r5⟩ := ih (i + 1) n m1 b1 c1 H1 (by omega) (by omega) q1 q2 q3 q4
      refine ⟨m', bs', clk', H', r1, r2, r3, r4, q5.trans ?_⟩
      simp only [wrapNext i (by omega)]
      exact r5
    by_cases hneg : y < 0
    · have w1 : IntKind.wrap .i64 (y + 1) = y + 1 := wrapI (by omega) (by omega)
      have w2 : IntKind.wrap .i64 (0 - (y + 1)) = 0 - (y + 1) := wrapI (by omega) (by omega)
      obtain ⟨m', bs', clk', H', r1, r2, r3, r4, r5⟩ := go (0 - (y + 1)) (by omega)
      refine ⟨m', bs', clk', H', r1, r2, r3, r4, (enter _).trans ((condT (decide_eq_true hneg)).trans ?_)⟩
      rw [w1, w2]
      exact r5
    · obtain ⟨m', bs', clk', H', r1, r2, r3, r4, r5⟩ := go y (by omega)
      exact ⟨m', bs', clk', H', r1, r2, r3, r4, (enter _).trans ((condF (decide_eq_false hneg)).trans r5)⟩

/-- Whom the second loop has come to. -/
def cameTo (H : List Bool) (out i : Nat) (k : Int) : Bool := hAt H k || (decide (k < i) && !decide (k = out))

theorem second_loop {vs : List Int} (hv : vs.length = 4) (gv : ∀ k, 0 ≤ verAt vs k) {out : Nat} {H : List Bool} (hH : H.length = 4) (hout : hAt H out = false) {R : Type}
    (K : (Int × List Int × Int × Int × List (Int × An) × List Nat × Nat) → Option R) :
    ∀ (k i n : Nat) (m : List (Int × An)) (bs : List Nat) (clk : Nat), i + k = 4 → k < n → Ok m bs clk → hd m = said4 vs (cameTo H out i) →
      ∃ m' bs' clk', Ok m' bs' clk' ∧ hd m' = said4 vs (cameTo H out 4) ∧ l3_4 FUEL K n ((out : Int), (i : Int), vs, 0, 1, m, bs, clk, H) = K ((out : Int), vs, 0, 1, m', bs', clk') := by
  intro k
  induction k with
  | zero =>
    intro i n m bs clk hi hn o hh
    obtain ⟨n, rfl⟩ : ∃ q, n = q + 1 := ⟨n - 1, by omega⟩
    obtain rfl : i = 4 := by omega
    exact ⟨m, bs, clk, o, hh, rfl⟩
  | succ k ih =>
    intro i n m bs clk hi hn o hh
    obtain ⟨n, rfl⟩ : ∃ q, n = q + 1 := ⟨n - 1, by omega⟩
    have hlt : i < 4 := by omega
    -- who is heard behind this turn
    have next : ∀ (b : Bool), b = (!decide ((i : Int) = out) && !hAt H i) → ∃ m1 b1 c1, Ok m1 b1 c1 ∧ hd m1 = said4 vs (cameTo H out (i + 1)) ∧
        ∀ (J : (Int × Int × List Int × Int × Int × List (Int × An) × List Nat × Nat × List Bool) → Option R), j3_3 FUEL J ((out : Int), (i : Int), b, vs, 0, 1, m, bs, clk, H) = J ((out : Int), (i : Int), vs, 0, 1, m1, b1, c1, H) := by
      intro b hb
      have upd : ∀ k : Int, cameTo H out (i + 1) k = (cameTo H out i k || (decide (k = i) && !decide (k = out))) := by
        intro k
        unfold cameTo
        rw [Bool.or_assoc]
        congr 1
        by_cases e1 : k = i
        · subst e1
          rw [decide_eq_true (show (i : Int) < ((i + 1 : Nat) : Int) by omega), decide_eq_false (show ¬ (i : Int) < i by omega)]
          simp
        · rw [decide_eq_false e1]
          by_cases e2 : k < i
          · rw [decide_eq_true e2, decide_eq_true (show k < ((i + 1 : Nat) : Int) by omega)]; simp
          · rw [decide_eq_false e2, decide_eq_false (show ¬ k < ((i + 1 : Nat) : Int) by omega)]; simp
      cases b with
      | false =>
        refine ⟨m, bs, clk, o, ?_, fun J => rfl⟩
        rw [hh]
        funext k
        unfold said4
        rw [upd]
        have hno : (decide (k = (i : Int)) && !decide (k = (out : Int))) = true → hAt H k = true := by
          intro h
          rw [Bool.and_eq_true, decide_eq_true_iff] at h
          have h1 := h.1
          subst h1
          rw [h.2, Bool.true_and] at hb
          cases hq : hAt H i with
          | true => rfl
          | false => rw [hq] at hb; cases hb
        cases hq : (decide (k = (i : Int)) && !decide (k = (out : Int))) with
        | false => rw [Bool.or_false]
        | true =>
          have : cameTo H out i k = true := by unfold cameTo; rw [hno hq]; rfl
          rw [this]; rfl
      | true =>
        have hb' := hb.symm
        rw [Bool.and_eq_true] at hb'
        have hi1 : (i : Int) ≠ out := fun e => by rw [decide_eq_true e] at hb'; cases hb'.1
        have hi2 : hAt H i = false := by
          cases hq : hAt H i with
          | false => rfl
          | true => rw [hq] at hb'; cases hb'.2
        have hP : cameTo H out i i = false := by
          unfold cameTo
          rw [hi2, decide_eq_false (show ¬ (i : Int) < i by omega)]; rfl
        obtain ⟨m1, b1, c1, o1, h1, e1⟩ := say gv o hh hlt hP
        refine ⟨m1, b1, c1, o1, ?_, fun J => ?_⟩
        · rw [h1]
          have hq : ∀ k : Int, decide (k = i) = (decide (k = i) && !decide (k = out)) := fun k => by
            by_cases e2 : k = i
            · subst e2; simp [hi1]
            · simp [e2]
          have : (fun k : Int => cameTo H out i k || decide (k = i)) = cameTo H out (i + 1) := by
            funext k
            rw [upd, ← hq]
          rw [this]
        · have hci : (0 : Int) ≤ i ∧ (i : Int) < ((4 : Nat) : Int) := by omega
          unfold j3_3
          simp only [cond_true]
          rw [if_pos hci, Int.toNat_natCast, verAt_get hv hlt]
          simp only
          rw [wrapNext i (by omega), Int.toNat_natCast]
          have hs : ByteArray.size (⟨#[48, 49, 50, 51]⟩ : ByteArray) = 4 := rfl
          rw [if_pos (by rw [hs]; omega), if_pos (by omega)]
          have e' : p10 FUEL ((i : Int), ((1 : Int), ((1 : Int), (verAt vs i, [((⟨#[107]⟩ : ByteArray), ByteArray.extract (⟨#[48, 49, 50, 51]⟩ : ByteArray) i (i + 1))]))), 0, 1, m, bs, clk) = some (0, 0, 1, m1, b1, c1) := e1
          rw [e']
    obtain ⟨m1, b1, c1, o1, h1, e1⟩ := next (!decide ((i : Int) = out) && !hAt H i) rfl
    obtain ⟨m', bs', clk', r1, r2, r3⟩ := ih (i + 1) n m1 b1 c1 (by omega) (by omega) o1 h1
    refine ⟨m', bs', clk', r1, r2, ?_⟩
    refine (condT (decide_eq_true (show ((i : Nat) : Int) < 4 by omega))).trans ?_
    by_cases e : (i : Int) = out
    · have hb : (!decide ((i : Int) = out) && !hAt H i) = false := by rw [decide_eq_true e]; rfl
      rw [hb] at e1
      refine (condF (show (!decide ((i : Int) = out)) = false by rw [decide_eq_true e]; rfl)).trans ?_
      rw [e1]
      simp only [wrapNext i (by omega)]
      exact r3
    · have hb : (!decide ((i : Int) = out) && !hAt H i) = !hAt H i := by rw [decide_eq_false e]; rfl
      rw [hb] at e1
      refine (condT (show (!decide ((i : Int) = out)) = true by rw [decide_eq_false e]; rfl)).trans ?_
      rw [if_pos (by omega), Int.toNat_natCast, hAt_get hH hlt]
      simp only
      rw [e1]
      simp only [wrapNext i (by omega)]
      exact r3
end Go.Am.Ytiecnmmffplgcaa
