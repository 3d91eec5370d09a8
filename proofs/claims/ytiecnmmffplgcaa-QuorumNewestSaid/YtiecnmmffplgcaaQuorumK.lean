/- Three hear the newest (QuorumNewest): the law. -/
import Derived.Test.YtiecnmmffplgcaaQuorumJ
namespace Go.Am.Ytiecnmmffplgcaa

noncomputable def K3a (fuel : Nat) (k0 : Bool → Option Bool) : (Int × List Int × Int × Int × List (Int × An) × List Nat × Nat) → Option Bool := fun (x144, x145, x146, x147, x148, x149, x150) => (match p11 fuel (x146, x147, x148, x149, x150) with | some z151 => (bif (!decide (z151.2.2.2.2.1 = (0 : Int))) then (k0 false) else let v152 := (!decide (((List.length z151.2.2.2.2.2.2.2.2.2.2 : Nat) : Int) = (1 : Int))); (bif v152 then (k0 false) else (if 0 ≤ (0 : Int) ∧ (0 : Int) < ((List.length z151.2.2.2.2.2.2.2.2.2.2 : Nat) : Int) then (match (z151.2.2.2.2.2.2.2.2.2.2)[(Int.toNat (0 : Int))]? with | some y153 => (bif (!decide (((ByteArray.size y153.2 : Nat) : Int) = (1 : Int))) then (k0 false) else (if 0 ≤ (0 : Int) ∧ (0 : Int) < ((List.length z151.2.2.2.2.2.2.2.2.2.2 : Nat) : Int) then (match (z151.2.2.2.2.2.2.2.2.2.2)[(Int.toNat (0 : Int))]? with | some y154 => (if 0 ≤ (0 : Int) ∧ (0 : Int) < ((ByteArray.size y154.2 : Nat) : Int) then let v155 := (IntKind.wrap .i64 ((IntKind.wrap .i64 (byteAt y154.2 (Int.toNat (0 : Int)))) - (48 : Int))); (bif (decide (v155 < (0 : Int))) then (k0 false) else (bif (decide ((3 : Int) < v155)) then (k0 false) else (bif (decide (v155 = x144)) then (k0 false) else (if 0 ≤ v155 ∧ v155 < ((4 : Nat) : Int) then (match (x145)[(Int.toNat v155)]? with | some y156 => (bif (!decide (y156 = z151.2.1)) then (k0 false) else (l3_6 fuel (fun x181 => (k0 x181)) (fun _ => (k0 true)) fuel ((0 : Int), x145, z151.1, z151.2.1, z151.2.2.1, z151.2.2.2.1))) | none => none) else none)))) else none) | none => none) else none)) | none => none) else none))) | none => none)
noncomputable def K3 (fuel : Nat) (k0 : Bool → Option Bool) : (Int × List Int × Int × Int × List (Int × An) × List Nat × Nat × List Bool) → Option Bool := fun (x95, x96, x97, x98, x99, x100, x101, x102) => (l3_4 fuel (K3a fuel k0) fuel (x95, (0 : Int), x96, x97, x98, x99, x100, x101, x102))
theorem j3_7_eq (fuel : Nat) (k0 : Bool → Option Bool) : j3_7 fuel k0 = fun (x8, x9, x10, x11, x12, x13, x14, x15) => (l3_2 fuel (K3 fuel k0) fuel ((Int.tmod x8 (4 : Int)), (0 : Int), x9, x10, x11, x12, x13, x14, x15, [false, false, false, false])) := by kernel_rfl

def cnt (vs : List Int) (i : Int) : Int := foldI (fun k (s : Int) => if verAt vs i ≤ verAt vs (k : Int) then s + 1 else s) 4 0 0

theorem count_run {R : Type} {vs : List Int} (hv : vs.length = 4) {i : Nat} (hi : i < 4) (a b : Int) (c : Bool) (d : List Int) (K : (Int × Int × List Int × Int × Int × Bool × List Int) → Option R) :
    l3_5 FUEL K FUEL ((i : Int), 0, 0, vs, a, b, c, d) = K ((i : Int), cnt vs i, vs, a, b, c, d) := by
  have hci : (0 : Int) ≤ i ∧ (i : Int) < ((4 : Nat) : Int) := by omega
  have key := for_loop (S := Int) (R := R) (L := fun n y => l3_5 FUEL K n y) (step := fun F => s3_5 FUEL F K) (fun n x => rfl)
    (fun k s => ((i : Int), s, (k : Int), vs, a, b, c, d)) 4 (fun k s => 0 ≤ s ∧ s ≤ k) (fun k s => .inr (if verAt vs i ≤ verAt vs (k : Int) then s + 1 else s)) (fun s => K ((i : Int), s, vs, a, b, c, d))
    (fun F k s hk hs => by
      have hck : (0 : Int) ≤ k ∧ (k : Int) < ((4 : Nat) : Int) := by omega
      refine (condT (decide_eq_true (show ((k : Nat) : Int) < 4 by omega))).trans ?_
      rw [if_pos hck, Int.toNat_natCast, verAt_get hv hk]
      simp only
      rw [if_pos hci, Int.toNat_natCast, verAt_get hv hi]
      simp only
      by_cases h : verAt vs i ≤ verAt vs k
      · rw [decide_eq_true h, if_pos h]
        simp only [cond_true, wrapNext k (by omega)]
        rw [wrapI (by omega) (by omega)]
      · rw [decide_eq_false h, if_neg h]
        simp only [cond_false, wrapNext k (by omega)])
    (fun F s _ => rfl)
    (fun k s s' hk hs e => by
      simp only [Sum.inr.injEq] at e
      subst e
      split
      · exact ⟨by omega, by omega⟩
      · exact ⟨hs.1, by omega⟩) 4 0 0 FUEL rfl (by unfold FUEL; decide) ⟨Int.le_refl _, Int.le_refl _⟩
  rw [forI_fold] at key
  exact key

theorem greatest_run {vs : List Int} (hv : vs.length = 4) (a t : Int) (c : Bool) (d : List Int) (ht : ∀ i : Nat, i < 4 → 3 ≤ cnt vs i → verAt vs i ≤ t) (K0 : Bool → Option Bool) (K1 : Unit → Option Bool) :
    l3_6 FUEL K0 K1 FUEL (0, vs, a, t, c, d) = K1 () := by
  have key := for_loop (S := Unit) (R := Bool) (L := fun n y => l3_6 FUEL K0 K1 n y) (step := fun F => s3_6 FUEL F K0 K1) (fun n x => rfl)
    (fun i _ => ((i : Int), vs, a, t, c, d)) 4 (fun _ _ => True) (fun _ _ => .inr ()) (fun _ => K1 ())
    (fun F i s hi _ => by
      have hci : (0 : Int) ≤ i ∧ (i : Int) < ((4 : Nat) : Int) := by omega
      refine (condT (decide_eq_true (show ((i : Nat) : Int) < 4 by omega))).trans ?_
      rw [count_run hv hi]
      simp only
      by_cases h : 3 ≤ cnt vs i
      · rw [decide_eq_true h]
        simp only [cond_true]
        rw [if_pos hci, Int.toNat_natCast, verAt_get hv hi]
        simp only
        rw [decide_eq_false (show ¬ t < verAt vs i by have := ht i hi h; omega)]
        simp only [cond_false, wrapNext i (by omega)]
      · rw [decide_eq_false h]
        simp only [cond_false, wrapNext i (by omega)])
    (fun F s _ => rfl) (fun _ _ _ _ _ _ => trivial) 4 0 () FUEL rfl (by unfold FUEL; decide) trivial
  rw [forI_fold] at key
  exact key

/-- All but one are heard. -/
def allBut (vs : List Int) (out : Nat) : Int → Option An := said4 vs fun k => !decide (k = out)

theorem came_all {vs : List Int} {H : List Bool} {out : Nat} (hout : hAt H out = false) : said4 vs (cameTo H out 4) = allBut vs out := by
  funext k
  unfold allBut said4
  by_cases hk : 0 ≤ k ∧ k < 4
  · have : cameTo H out 4 k = !decide (k = out) := by
      unfold cameTo
      rw [decide_eq_true (show k < ((4 : Nat) : Int) by omega), Bool.true_and]
      by_cases e : k = out
      · rw [e, hout, decide_eq_true rfl]; rfl
      · rw [decide_eq_false e]; simp
    rw [this]
  · rw [if_neg (fun c => hk c.1), if_neg (fun c => hk c.1)]

theorem allBut_count (vs : List Int) {out : Nat} (ho : out < 4) : count (allBut vs out) = 3 := by
  have : out = 0 ∨ out = 1 ∨ out = 2 ∨ out = 3 := by omega
  rcases this with rfl | rfl | rfl | rfl <;> rfl

theorem allBut_at {vs : List Int} {out : Nat} {k : Int} {a : An} (h : allBut vs out k = some a) : 0 ≤ k ∧ k < 4 ∧ k ≠ out ∧ a = ans vs k := by
  unfold allBut said4 at h
  split at h
  · rename_i c
    cases h
    refine ⟨c.1.1, c.1.2, fun e => ?_, rfl⟩
    have h2 : (!decide (k = (out : Int))) = true := c.2
    rw [decide_eq_true e] at h2; cases h2
  · cases h
theorem allBut_of {vs : List Int} {out : Nat} {k : Int} (h : 0 ≤ k ∧ k < 4) (hne : k ≠ out) : allBut vs out k = some (ans vs k) := by
  unfold allBut said4
  rw [if_pos ⟨h, show (!decide (k = (out : Int))) = true by rw [decide_eq_false hne]; rfl⟩]

theorem dig_is {j : Nat} (h : j < 4) : (dig j).size = 1 ∧ byteAt (dig j) 0 = 48 + (j : Int) := by
  have : j = 0 ∨ j = 1 ∨ j = 2 ∨ j = 3 := by omega
  rcases this with rfl | rfl | rfl | rfl <;> exact ⟨by decide, by decide⟩

theorem top_great {vs : List Int} {out : Nat} (ho : out < 4) {i : Nat} (h : 3 ≤ cnt vs i) : verAt vs i ≤ top (allBut vs out) := by
  have ge : ∀ k : Nat, k < 4 → k ≠ out → verAt vs k ≤ top (allBut vs out) := fun k hk hne =>
    top_ge (allBut vs out) (k := (k : Int)) (by simp only [ks4, List.mem_cons, List.not_mem_nil, or_false]; omega) (allBut_of ⟨by omega, by omega⟩ (by omega))
  have g0 := ge 0 (by omega)
  have g1 := ge 1 (by omega)
  have g2 := ge 2 (by omega)
  have g3 := ge 3 (by omega)
  unfold cnt at h
  simp only [foldI] at h
  rw [show ((0 + 1 : Nat) : Int) = ((1 : Nat) : Int) from rfl, show ((0 + 1 + 1 : Nat) : Int) = ((2 : Nat) : Int) from rfl, show ((0 + 1 + 1 + 1 : Nat) : Int) = ((3 : Nat) : Int) from rfl] at h
  generalize verAt vs ((0 : Nat) : Int) = v0 at *
  generalize verAt vs ((1 : Nat) : Int) = v1 at *
  generalize verAt vs ((2 : Nat) : Int) = v2 at *
  generalize verAt vs ((3 : Nat) : Int) = v3 at *
  generalize verAt vs (i : Int) = v at *
  generalize top (allBut vs out) = t at *
  have : out = 0 ∨ out = 1 ∨ out = 2 ∨ out = 3 := by omega
  refine Classical.byContradiction fun hc => ?_
  rcases this with rfl | rfl | rfl | rfl <;> simp at g0 g1 g2 g3 <;> (repeat' split at h) <;> omega

/-- What comes out of the reading. -/
theorem newest_end {vs : List Int} {out : Nat} (ho : out < 4) {m : List (Int × An)} {bs : List Nat} {clk : Nat} (o : Ok m bs clk) (hh : hd m = allBut vs out) :
    ∃ (q : List Int) (j : Nat), j < 4 ∧ j ≠ out ∧ p11 FUEL (0, 1, m, bs, clk) = some (0, verAt vs j, false, q, 0, 0, 1, m, bs, clk, [((⟨#[107]⟩ : ByteArray), dig j)]) ∧ verAt vs j = top (allBut vs out) := by
  have hl : m.length = 3 := by rw [o.len, hh, allBut_count vs ho]
  obtain ⟨k, l, a, h1, h2, h3, h4, h5⟩ := first_there o (by omega)
  have e := result_run o (by omega) 0 1
  have hdata : dataOf (hd m) = a.2.2.2 := by unfold dataOf; rw [h1]; simp only; rw [h2]
  rw [hdata, ← h3] at e
  rw [hh] at h2 h3
  obtain ⟨a1, a2, a3, rfl⟩ := allBut_at h2
  obtain ⟨j, rfl⟩ : ∃ j : Nat, k = j := ⟨k.toNat, by omega⟩
  exact ⟨_, j, by omega, by omega, e, h3⟩

theorem newest_law (f : Nat) (vs or : List Int) (out : Nat) (hv : vs.length = 4)
    (E0 : ∀ K : _ → Option Bool, ∃ m bs clk H, Ok m bs clk ∧ hd m = said4 vs (hAt H) ∧ H.length = 4 ∧ hAt H out = false ∧ l3_2 f K f ((out : Int), 0, vs, or, 0, 1, [], [], 0, [false, false, false, false]) = K ((out : Int), vs, 0, 1, m, bs, clk, H))
    (E1 : ∀ m bs clk H (K : _ → Option Bool), Ok m bs clk → hd m = said4 vs (hAt H) → H.length = 4 → hAt H out = false → ∃ m' bs' clk', Ok m' bs' clk' ∧ hd m' = allBut vs out ∧ l3_4 f K f ((out : Int), 0, vs, 0, 1, m, bs, clk, H) = K ((out : Int), vs, 0, 1, m', bs', clk'))
    (E2 : ∀ m bs clk, Ok m bs clk → hd m = allBut vs out → ∃ (q : List Int) (j : Nat), j < 4 ∧ j ≠ out ∧ p11 f (0, 1, m, bs, clk) = some (0, verAt vs j, false, q, 0, 0, 1, m, bs, clk, [((⟨#[107]⟩ : ByteArray), dig j)]) ∧ verAt vs j = top (allBut vs out))
    (E3 : ∀ (a t : Int) (c : Bool) (d : List Int) (K0 : Bool → Option Bool) (K1 : Unit → Option Bool), t = top (allBut vs out) → l3_6 f K0 K1 f (0, vs, a, t, c, d) = K1 ())
    (z : Int) (hz : Int.tmod z 4 = out) (k0 : Bool → Option Bool) : j3_7 f k0 (z, vs, or, 0, 1, [], [], 0) = k0 true := by
  rw [j3_7_eq]
  simp only
  rw [hz]
  obtain ⟨m, bs, clk, H, o, hh, hH, hout, e⟩ := E0 (K3 f k0)
  rw [e]
  unfold K3
  simp only
  obtain ⟨m', bs', clk', o', h', e'⟩ := E1 m bs clk H (K3a f k0) o hh hH hout
  rw [e']
  unfold K3a
  simp only
  obtain ⟨q, j, hj, hne, e2, e3⟩ := E2 m' bs' clk' o' h'
  obtain ⟨d1, d2⟩ := dig_is hj
  rw [e2]
  simp only [decide_true, Bool.not_true, cond_false, List.length_singleton]
  rw [show (decide (((1 : Nat) : Int) = 1)) = true from rfl]
  simp only [Bool.not_true, cond_false]
  rw [if_pos (by omega)]
  simp only [show Int.toNat (0 : Int) = 0 from rfl, List.getElem?_cons_zero, d1, d2]
  rw [show (decide (((1 : Nat) : Int) = 1)) = true from rfl]
  simp only [Bool.not_true, cond_false]
  rw [if_pos (by omega), if_pos (by omega)]
  have w1 : IntKind.wrap .i64 (48 + (j : Int)) = 48 + j := wrapI (by omega) (by omega)
  have w2 : IntKind.wrap .i64 (48 + (j : Int) - 48) = j := by rw [wrapI (by omega) (by omega)]; omega
  rw [w1, w2, decide_eq_false (show ¬ (j : Int) < 0 by omega), decide_eq_false (show ¬ (3 : Int) < j by omega), decide_eq_false (show ¬ (j : Int) = out by omega)]
  simp only [cond_false]
  rw [if_pos (by omega), Int.toNat_natCast, verAt_get hv hj]
  simp only [decide_true, Bool.not_true, cond_false]
  rw [E3 _ _ _ _ _ _ e3]

theorem newest_head (f : Nat) (x0 x1 : List Int) (x2 : Int) (h8 : p8 f (0, 1) = some (.inr (0, 0, 1, [], [], 0))) (h9 : p9 f () = some true) : p3 f (x0, x1, x2) = (bif decide (x2 < 0) then j3_7 f (fun x182 => some x182) (IntKind.wrap .i64 (0 - IntKind.wrap .i64 (x2 + 1)), x0, x1, 0, 1, [], [], 0) else j3_7 f (fun x183 => some x183) (x2, x0, x1, 0, 1, [], [], 0)) := by
  unfold p3
  simp only [h8, h9, Bool.not_true, cond_false, decide_true]

theorem newest_first {vs : List Int} (hv : vs.length = 4) (gv : ∀ k, 0 ≤ verAt vs k) {or : List Int} (hor : or.length = 4) (wor : ∀ y ∈ or, -9223372036854775808 ≤ y ∧ y < 9223372036854775808) {out : Nat} (ho : out < 4) (K : _ → Option Bool) :
    ∃ m bs clk H, Ok m bs clk ∧ hd m = said4 vs (hAt H) ∧ H.length = 4 ∧ hAt H out = false ∧ l3_2 FUEL K FUEL ((out : Int), 0, vs, or, 0, 1, [], [], 0, [false, false, false, false]) = K ((out : Int), vs, 0, 1, m, bs, clk, H) := by
  have h0 : hd [] = said4 vs (hAt [false, false, false, false]) := by
    funext k
    unfold said4
    rw [if_neg]
    · rfl
    · rintro ⟨h1, h2⟩
      have : k.toNat = 0 ∨ k.toNat = 1 ∨ k.toNat = 2 ∨ k.toNat = 3 := by omega
      unfold hAt at h2
      rcases this with e | e | e | e <;> rw [e] at h2 <;> cases h2
  have h1 : hAt [false, false, false, false] out = false := by
    have : out = 0 ∨ out = 1 ∨ out = 2 ∨ out = 3 := by omega
    rcases this with rfl | rfl | rfl | rfl <;> rfl
  obtain ⟨m, bs, clk, H, q1, q2, q3, q4, q5⟩ := first_loop (out := out) hv gv hor wor K 4 0 FUEL [] [] 0 [false, false, false, false] rfl (by unfold FUEL; decide) Ok.nil rfl h0 h1
  rw [show ((0 : Nat) : Int) = 0 from rfl] at q5
  exact ⟨m, bs, clk, H, q1, q3, q2, q4, q5⟩

theorem newest_second {vs : List Int} (hv : vs.length = 4) (gv : ∀ k, 0 ≤ verAt vs k) {out : Nat} {m : List (Int × An)} {bs : List Nat} {clk : Nat} {H : List Bool} (K : _ → Option Bool) (o : Ok m bs clk) (hh : hd m = said4 vs (hAt H)) (hH : H.length = 4) (hout : hAt H out = false) :
    ∃ m' bs' clk', Ok m' bs' clk' ∧ hd m' = allBut vs out ∧ l3_4 FUEL K FUEL ((out : Int), 0, vs, 0, 1, m, bs, clk, H) = K ((out : Int), vs, 0, 1, m', bs', clk') := by
  have h0 : hd m = said4 vs (cameTo H out 0) := by
    rw [hh]
    funext k
    unfold said4
    by_cases hk : 0 ≤ k ∧ k < 4
    · have : cameTo H out 0 k = hAt H k := by
        unfold cameTo
        rw [decide_eq_false (show ¬ k < ((0 : Nat) : Int) by omega)]; simp
      rw [this]
    · rw [if_neg (fun c => hk c.1), if_neg (fun c => hk c.1)]
  obtain ⟨m', bs', clk', q1, q2, q3⟩ := second_loop (out := out) hv gv hH hout K 4 0 FUEL m bs clk rfl (by unfold FUEL; decide) o h0
  rw [show ((0 : Nat) : Int) = 0 from rfl] at q3
  exact ⟨m', bs', clk', q1, q2.trans (came_all hout), q3⟩

theorem newest_all {vs : List Int} (hv : vs.length = 4) (gv : ∀ k, 0 ≤ verAt vs k) {or : List Int} (hor : or.length = 4) (wor : ∀ y ∈ or, -9223372036854775808 ≤ y ∧ y < 9223372036854775808) (z : Int) (hz : 0 ≤ z) (k0 : Bool → Option Bool) :
    j3_7 FUEL k0 (z, vs, or, 0, 1, [], [], 0) = k0 true := by
  obtain ⟨out, ho⟩ : ∃ out : Nat, z % 4 = out := ⟨(z % 4).toNat, by omega⟩
  have ho4 : out < 4 := by omega
  exact newest_law FUEL vs or out hv (fun K => newest_first hv gv hor wor ho4 K) (fun m bs clk H K o hh hH hout => newest_second hv gv K o hh hH hout) (fun m bs clk o hh => newest_end ho4 o hh)
    (fun a t c d K0 K1 ht => greatest_run hv a t c d (fun i _ h3 => by rw [ht]; exact top_great ho4 h3) K0 K1) z (by rw [tmod_pos hz, ho]) k0

theorem quorumNewest (x0 : List Int) (w0 : Ty.wr (.arr 4 (.int .u32)) x0) (x1 : List Int) (w1 : Ty.wr (.arr 4 (.int .i64)) x1) (x2 : Int) (w2 : Ty.wr (.int .i64) x2) : p3 FUEL (x0, x1, x2) = some true := by
  have gv : ∀ k, 0 ≤ verAt x0 k := fun k => by
    unfold verAt
    rw [List.getD_eq_getElem?_getD]
    cases h : x0[k.toNat]? with
    | none => exact Int.le_refl _
    | some y => exact (wf_u32 (Ty.wr.wf (.int .u32) (w0.2 y (List.mem_of_getElem? h)))).1
  have wor : ∀ y ∈ x1, -9223372036854775808 ≤ y ∧ y < 9223372036854775808 := fun y hy => wf_i64 (Ty.wr.wf (.int .i64) (w1.2 y hy))
  rw [newest_head FUEL x0 x1 x2 (new_run (by decide)) alive_run]
  have wf2 := wf_i64 (Ty.wr.wf (.int .i64) w2)
  by_cases hneg : x2 < 0
  · rw [decide_eq_true hneg]
    have e1 : IntKind.wrap .i64 (x2 + 1) = x2 + 1 := wrapI (by omega) (by omega)
    have e2 : IntKind.wrap .i64 (0 - (x2 + 1)) = 0 - (x2 + 1) := wrapI (by omega) (by omega)
    rw [e1, e2, cond_true]
    rw [newest_all w0.1 gv w1.1 wor (0 - (x2 + 1)) (by omega)]
  · rw [decide_eq_false hneg, cond_false]
    rw [newest_all w0.1 gv w1.1 wor x2 (by omega)]
end Go.Am.Ytiecnmmffplgcaa
