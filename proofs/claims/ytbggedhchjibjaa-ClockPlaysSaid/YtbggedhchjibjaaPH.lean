/- Plain law of the printed functions of the clock: the clock answers as the document's (ClockPlays). -/
import Derived.Test.YtbggedhchjibjaaPG
import Derived.Test.YtbggedhchjibjaaAmZI
namespace Go.Am.Ytbggedhchjibjaa
theorem awake_run : p7 FUEL () = some true := by kernel_rfl
/-- An act of a script. -/
abbrev OP := Int × (Int × Int)

theorem pass_both {r mi : Int} (r0 : 900 ≤ r) (r1 : r ≤ 1100) (m0 : 0 ≤ mi) (m1 : mi ≤ 1099511627776999) (n s : Int) (h : List TM) (a : List (Int × Int)) (b : List Nat) (c : Nat) (L : List (Int × Int)) :
    ∃ (e mi' : Int), p11 FUEL (n, r, mi, s, h, a, b, c) = some (e, r, mi', s, h, a, b, c) ∧ p24 FUEL (n, r, mi, L) = some (e, r, mi', L) ∧ 0 ≤ mi' ∧ mi' ≤ 1099511627776999 := by
  by_cases n0 : n < 0
  · exact ⟨1, mi, by simp only [p11]; rw [decide_eq_true n0]; rfl, by simp only [p24]; rw [decide_eq_true n0]; rfl, m0, m1⟩
  have hr0 : ¬ r = 0 := by omega
  have e24 : ∀ (B : Bool), decide (1099511627776999 - mi < n * r) = B → p24 FUEL (n, r, mi, L) = (bif B then some (61, r, mi, L) else some (0, r, IntKind.wrap .i64 (mi + IntKind.wrap .i64 (n * r)), L)) := by
    intro B hB
    simp only [p24]
    rw [decide_eq_false n0, cond_false, if_neg hr0, wrapI (n := 1099511627776999 - mi) (by omega) (by omega), tdiv_pos (by omega)]
    have hq : (1099511627776999 - mi) / r ≤ 1099511627776999 - mi := Int.ediv_le_self _ (by omega)
    have hq0 : 0 ≤ (1099511627776999 - mi) / r := Int.ediv_nonneg (by omega) (by omega)
    rw [wrapI (n := (1099511627776999 - mi) / r) (by omega) (by omega)]
    have hiff := Int.ediv_lt_iff_lt_mul (a := 1099511627776999 - mi) (b := n) (c := r) (by omega)
    have : decide ((1099511627776999 - mi) / r < n) = B := by
      rw [← hB]
      by_cases x : (1099511627776999 - mi) / r < n
      · rw [decide_eq_true x, decide_eq_true (hiff.1 x)]
      · rw [decide_eq_false x, decide_eq_false (fun y => x (hiff.2 y))]
    rw [this]
  by_cases n1 : 2199023255552 < n
  · have hm : 2199023255552 * 900 ≤ n * r := Int.mul_le_mul (by omega) r0 (by omega) (by omega)
    have e := e24 true (decide_eq_true (by omega))
    exact ⟨61, mi, by simp only [p11]; rw [decide_eq_false n0, decide_eq_true n1]; rfl, e, m0, m1⟩
  · have p0 : 0 ≤ n * r := Int.mul_nonneg (by omega) (by omega)
    have p1 : n * r ≤ 2199023255552 * 1100 := Int.mul_le_mul (by omega) r1 (by omega) (by omega)
    have e := e24
    have e11 : p11 FUEL (n, r, mi, s, h, a, b, c) = bif decide (1099511627776 < (mi + n * r) / 1000) then some (61, r, mi, s, h, a, b, c) else some (0, r, mi + n * r, s, h, a, b, c) := by
      simp only [p11]
      generalize n * r = P at p0 p1
      rw [decide_eq_false n0, decide_eq_false n1, wrapI (n := P) (by omega) (by omega), wrapI (n := mi + P) (by omega) (by omega), tdiv_pos (by omega), wrapI (n := (mi + P) / 1000) (by omega) (by omega)]
      rfl
    by_cases x : 1099511627776999 - mi < n * r
    · have e := e24 true (decide_eq_true x)
      exact ⟨61, mi, by rw [e11, decide_eq_true (by omega)]; rfl, e, m0, m1⟩
    · have e := e24 false (decide_eq_false x)
      rw [wrapI (n := n * r) (by omega) (by omega), wrapI (n := mi + n * r) (by omega) (by omega)] at e
      exact ⟨0, mi + n * r, by rw [e11, decide_eq_false (by omega)]; rfl, e, by omega, by omega⟩

theorem turn_run (n r mi s : Int) (h : List TM) (a : List (Int × Int)) (b : List Nat) (c : Nat) : p20 FUEL (n, r, mi, s, h, a, b, c) = (bif decide (900 ≤ n) && decide (n ≤ 1100) then some (0, n, mi, s, h, a, b, c) else some (1, r, mi, s, h, a, b, c)) := by
  simp only [p20, p22]
  cases decide (900 ≤ n) <;> cases decide (n ≤ 1100) <;> rfl

theorem now_ref {mi : Int} (m0 : 0 ≤ mi) (m1 : mi ≤ 1099511627776999) (r : Int) (L : List (Int × Int)) : p19 FUEL (r, mi, L) = some (mi / 1000, r, mi, L) := by
  simp only [p19]
  rw [tdiv_pos m0, wrapI (by omega) (by omega)]

theorem spoil_run {R : Type} (K : _ → Option R) (z : Bool) (r mi s : Int) (h : List TM) (a : List (Int × Int)) (b : List Nat) (c : Nat) (r' mi' : Int) (L : List (Int × Int)) (out : List Int) (ho : out.length ≤ 256) :
    ∃ out' : List Int, out'.length ≤ 256 ∧ l16_2 FUEL K FUEL (z, 0, r, mi, s, h, a, b, c, r', mi', L, out) = K (z, r, mi, s, h, a, b, c, r', mi', L, out') := by
  have key := for_loop (S := List Int) (L := fun n y => l16_2 FUEL K n y) (step := fun F => s16_2 FUEL F K) (fun n x => rfl)
    (fun i q => (z, (i : Int), r, mi, s, h, a, b, c, r', mi', L, q)) out.length (fun _ q => q.length = out.length) (fun i q => .inr (List.set q i 99)) (fun q => K (z, r, mi, s, h, a, b, c, r', mi', L, q))
    (fun F i q hi hs => by
      refine (condT (decide_eq_true (show (i : Int) < ((q.length : Nat) : Int) by omega))).trans ?_
      simp only [if_pos (show (0 : Int) ≤ (i : Int) ∧ (i : Int) < ((q.length : Nat) : Int) by omega), Int.toNat_natCast, List.getElem?_eq_getElem (show i < q.length by omega), wrapNext i (by omega)])
    (fun F q hs => condF (decide_eq_false (by omega))) (fun i q q' _ hs he => by
      have he := Sum.inr.inj he
      rw [← he, List.length_set]; exact hs) out.length 0 out FUEL (Nat.zero_add _) (by have := big; omega) rfl
  rw [forI_fold] at key
  refine ⟨_, ?_, key⟩
  have : ∀ (k i : Nat) (q : List Int), (foldI (fun i q => List.set q i 99) k i q).length = q.length := by
    intro k
    induction k with
    | zero => intro i q; rfl
    | succ k ih => intro i q; unfold foldI; rw [ih, List.length_set]
  rw [this]; exact ho

theorem step_head (fu : Nat) (o : OP) {r mi s : Int} (r0 : 900 ≤ r) (r1 : r ≤ 1100) (m0 : 0 ≤ mi) (m1 : mi ≤ 1099511627776999) {h : List TM} {m : MM} {L' : List TM} (R : Rl s h m L')
    (PS : ∃ (e mi' : Int), p11 fu (o.2.2, r, mi, s, h, m.1, m.2.1, m.2.2) = some (e, r, mi', s, h, m.1, m.2.1, m.2.2) ∧ p24 fu (o.2.2, r, mi, L'.map strip) = some (e, r, mi', L'.map strip) ∧ 0 ≤ mi' ∧ mi' ≤ 1099511627776999)
    (ht : p20 fu (o.2.2, r, mi, s, h, m.1, m.2.1, m.2.2) = (bif decide (900 ≤ o.2.2) && decide (o.2.2 ≤ 1100) then some (0, o.2.2, mi, s, h, m.1, m.2.1, m.2.2) else some (1, r, mi, s, h, m.1, m.2.1, m.2.2)))
    (SB : ∀ due : Int, ∃ (e s' : Int) (h' : List TM) (m' : MM) (L2 : List TM), p12 fu (o.2.1, due, r, mi, s, h, m.1, m.2.1, m.2.2) = some (e, r, mi, s', h', m'.1, m'.2.1, m'.2.2) ∧ p25 fu (o.2.1, due, r, mi, L'.map strip) = some (e, r, mi, L2.map strip) ∧ Rl s' h' m' L2 ∧ s' ≤ s + 1)
    (hn : p19 fu (r, mi, L'.map strip) = some (mi / 1000, r, mi, L'.map strip))
    (SP : ∃ (b : Bool) (h' : List TM) (m' : MM) (L2 : List TM), p21 fu (o.2.1, r, mi, s, h, m.1, m.2.1, m.2.2) = some (b, r, mi, s, h', m'.1, m'.2.1, m'.2.2) ∧ p26 fu (o.2.1, r, mi, L'.map strip) = some (b, r, mi, L2.map strip) ∧ Rl s h' m' L2)
    (DU : ∃ (out : List Int) (h' : List TM) (m' : MM) (L2 : List TM), p13 fu (r, mi, s, h, m.1, m.2.1, m.2.2) = some (r, mi, s, h', m'.1, m'.2.1, m'.2.2, out) ∧ p28 fu (r, mi, L'.map strip) = some (r, mi, L2.map strip, out) ∧ Rl s h' m' L2 ∧ out.length ≤ 256)
    (SM : ∀ l : List Int, l.length ≤ 256 → p27 fu (l, l) = some true)
    (SO : ∀ (K : _ → Option (Bool × Int × Int × Int × List TM × List (Int × Int) × List Nat × Nat × Int × Int × List (Int × Int))) (h : List TM) (a : List (Int × Int)) (b : List Nat) (c : Nat) (L : List (Int × Int)) (out : List Int), out.length ≤ 256 → ∃ out' : List Int, out'.length ≤ 256 ∧ l16_2 fu K fu (true, 0, r, mi, s, h, a, b, c, r, mi, L, out) = K (true, r, mi, s, h, a, b, c, r, mi, L, out')) :
    ∃ (r2 mi2 s2 : Int) (h2 : List TM) (m2 : MM) (L2 : List TM), p16 fu (o, r, mi, s, h, m.1, m.2.1, m.2.2, r, mi, L'.map strip) = some (true, r2, mi2, s2, h2, m2.1, m2.2.1, m2.2.2, r2, mi2, L2.map strip) ∧ 900 ≤ r2 ∧ r2 ≤ 1100 ∧ 0 ≤ mi2 ∧ mi2 ≤ 1099511627776999 ∧ Rl s2 h2 m2 L2 ∧ s2 ≤ s + 1 := by
  have sets : ∀ (due : Int), ∃ (s2 : Int) (h2 : List TM) (m2 : MM) (L2 : List TM), (∀ (R' : Type) (k0 : _ → Option R'), j16_1 fu k0 (due, r, mi, s, h, m.1, m.2.1, m.2.2, r, mi, L'.map strip, o) = k0 (true, r, mi, s2, h2, m2.1, m2.2.1, m2.2.2, r, mi, L2.map strip)) ∧ Rl s2 h2 m2 L2 ∧ s2 ≤ s + 1 := by
    intro due
    obtain ⟨e, s', h', m', L2, e1, e2, e3, e4⟩ := SB due
    exact ⟨s', h', m', L2, fun R' k0 => by simp only [j16_1, e1, e2, decide_true], e3, e4⟩
  by_cases k1 : o.1 = 1
  · obtain ⟨e, mi', e1, e2, e3, e4⟩ := PS
    refine ⟨r, mi', s, h, m, L', ?_, r0, r1, e3, e4, R, by omega⟩
    simp only [p16]
    rw [decide_eq_true k1]
    simp only [cond_true, e1, e2, decide_true]
  by_cases k2 : o.1 = 2
  · by_cases a : o.2.2 < 900
    · refine ⟨r, mi, s, h, m, L', ?_, r0, r1, m0, m1, R, by omega⟩
      simp only [p16, ht]
      rw [decide_eq_false k1, decide_eq_true k2, decide_eq_true a, decide_eq_false (show ¬ 900 ≤ o.2.2 by omega)]; rfl
    · by_cases b : 1100 < o.2.2
      · refine ⟨r, mi, s, h, m, L', ?_, r0, r1, m0, m1, R, by omega⟩
        simp only [p16, ht]
        rw [decide_eq_false k1, decide_eq_true k2, decide_eq_false a, decide_eq_true b, decide_eq_true (show 900 ≤ o.2.2 by omega), decide_eq_false (show ¬ o.2.2 ≤ 1100 by omega)]; rfl
      · refine ⟨o.2.2, mi, s, h, m, L', ?_, by omega, by omega, m0, m1, R, by omega⟩
        simp only [p16, ht]
        rw [decide_eq_false k1, decide_eq_true k2, decide_eq_false a, decide_eq_false b, decide_eq_true (show 900 ≤ o.2.2 by omega), decide_eq_true (show o.2.2 ≤ 1100 by omega)]; rfl
  by_cases k3 : o.1 = 3
  · obtain ⟨s2, h2, m2, L2, e1, e2, e3⟩ := sets o.2.2
    refine ⟨r, mi, s2, h2, m2, L2, ?_, r0, r1, m0, m1, e2, e3⟩
    simp only [p16, j16_3, j16_0, e1]
    rw [decide_eq_false k1, decide_eq_false k2, decide_eq_true k3, decide_eq_false (show ¬ o.1 = 4 by omega)]; rfl
  by_cases k4 : o.1 = 4
  · by_cases hd : o.2.2 < 2199023255552
    · obtain ⟨s2, h2, m2, L2, e1, e2, e3⟩ := sets (IntKind.wrap .i64 (o.2.2 + mi / 1000))
      refine ⟨r, mi, s2, h2, m2, L2, ?_, r0, r1, m0, m1, e2, e3⟩
      simp only [p16, j16_3, j16_0, hn, e1]
      rw [decide_eq_false k1, decide_eq_false k2, decide_eq_false k3, decide_eq_true k4, decide_eq_true hd]; rfl
    · obtain ⟨s2, h2, m2, L2, e1, e2, e3⟩ := sets o.2.2
      refine ⟨r, mi, s2, h2, m2, L2, ?_, r0, r1, m0, m1, e2, e3⟩
      simp only [p16, j16_3, j16_0, hn, e1]
      rw [decide_eq_false k1, decide_eq_false k2, decide_eq_false k3, decide_eq_true k4, decide_eq_false hd]; rfl
  by_cases k5 : o.1 = 5
  · obtain ⟨b, h2, m2, L2, e1, e2, e3⟩ := SP
    refine ⟨r, mi, s, h2, m2, L2, ?_, r0, r1, m0, m1, e3, by omega⟩
    simp only [p16, j16_3, e1, e2]
    rw [decide_eq_false k1, decide_eq_false k2, decide_eq_false k3, decide_eq_false k4, decide_eq_true k5]
    simp only [cond_false, cond_true, beq_self_eq_true]
  by_cases k6 : o.1 = 6
  · obtain ⟨out, h2, m2, L2, e1, e2, e3, e4⟩ := DU
    refine ⟨r, mi, s, h2, m2, L2, ?_, r0, r1, m0, m1, e3, by omega⟩
    obtain ⟨out', q1, q2⟩ := SO (fun (x121, x122, x123, x124, x125, x126, x127, x128, x129, x130, x131, x132) => (if (List.length x132 + List.length [(99 : Int), (99 : Int)]) * 8 ≤ 140737488355328 then (some (x121, x122, x123, x124, x125, x126, x127, x128, x129, x130, x131)) else none)) h2 m2.1 m2.2.1 m2.2.2 (L2.map strip) out e4
    simp only [p16, j16_3, e1, e2, SM out e4]
    rw [decide_eq_false k1, decide_eq_false k2, decide_eq_false k3, decide_eq_false k4, decide_eq_false k5, decide_eq_true k6]
    refine Eq.trans q2 ?_
    simp only
    rw [if_pos (by simp; omega)]
  · refine ⟨r, mi, s, h, m, L', ?_, r0, r1, m0, m1, R, by omega⟩
    simp only [p16, j16_3]
    rw [decide_eq_false k1, decide_eq_false k2, decide_eq_false k3, decide_eq_false k4, decide_eq_false k5, decide_eq_false k6]; rfl

theorem step_run (o : OP) {r mi s : Int} (r0 : 900 ≤ r) (r1 : r ≤ 1100) (m0 : 0 ≤ mi) (m1 : mi ≤ 1099511627776999) {h : List TM} {m : MM} {L' : List TM} (R : Rl s h m L') (s1 : s ≤ 100000) :
    ∃ (r2 mi2 s2 : Int) (h2 : List TM) (m2 : MM) (L2 : List TM), p16 FUEL (o, r, mi, s, h, m.1, m.2.1, m.2.2, r, mi, L'.map strip) = some (true, r2, mi2, s2, h2, m2.1, m2.2.1, m2.2.2, r2, mi2, L2.map strip) ∧ 900 ≤ r2 ∧ r2 ≤ 1100 ∧ 0 ≤ mi2 ∧ mi2 ≤ 1099511627776999 ∧ Rl s2 h2 m2 L2 ∧ s2 ≤ s + 1 :=
  step_head FUEL o r0 r1 m0 m1 R (pass_both r0 r1 m0 m1 o.2.2 s h m.1 m.2.1 m.2.2 (L'.map strip)) (turn_run o.2.2 r mi s h m.1 m.2.1 m.2.2) (fun due => set_both R (by omega) o.2.1 due r mi) (now_ref m0 m1 r (L'.map strip)) (stop_both R o.2.1 r mi r mi) (due_both R r mi r m0 (by omega)) same_run
    (fun K h a b c L out ho => spoil_run K true r mi s h a b c r mi L out ho)

theorem plays_head {K0 : Bool → Option Bool} {K1 : Unit → Option Bool} (hK : K1 () = some true) (fu : Nat) (script : List OP)
    (ST : ∀ (o : OP) (r mi s : Int) (h : List TM) (m : MM) (L' : List TM), 900 ≤ r → r ≤ 1100 → 0 ≤ mi → mi ≤ 1099511627776999 → Rl s h m L' → s ≤ 100000 →
      ∃ (r2 mi2 s2 : Int) (h2 : List TM) (m2 : MM) (L2 : List TM), p16 fu (o, r, mi, s, h, m.1, m.2.1, m.2.2, r, mi, L'.map strip) = some (true, r2, mi2, s2, h2, m2.1, m2.2.1, m2.2.2, r2, mi2, L2.map strip) ∧ 900 ≤ r2 ∧ r2 ≤ 1100 ∧ 0 ≤ mi2 ∧ mi2 ≤ 1099511627776999 ∧ Rl s2 h2 m2 L2 ∧ s2 ≤ s + 1)
    (NX : ∀ (r mi s : Int) (h : List TM) (m : MM) (L' : List TM), Rl s h m L' → ∃ (v : Int) (b : Bool), p17 fu (r, mi, s, h, m.1, m.2.1, m.2.2) = some (v, b, r, mi, s, h, m.1, m.2.1, m.2.2) ∧ p18 fu (r, mi, L'.map strip) = some (v, b, r, mi, L'.map strip))
    (N1 : ∀ (r mi s : Int) (h : List TM) (m : MM), 0 ≤ mi → mi ≤ 1099511627776999 → p10 fu (r, mi, s, h, m.1, m.2.1, m.2.2) = some (mi / 1000, r, mi, s, h, m.1, m.2.1, m.2.2))
    (N2 : ∀ (r mi : Int) (L : List (Int × Int)), 0 ≤ mi → mi ≤ 1099511627776999 → p19 fu (r, mi, L) = some (mi / 1000, r, mi, L))
    (CT : ∀ (r mi s : Int) (h : List TM) (m : MM), p14 fu (r, mi, s, h, m.1, m.2.1, m.2.2) = some (((h.length : Nat) : Int), r, mi, s, h, m.1, m.2.1, m.2.2)) :
    ∀ (n i : Nat) (r mi s : Int) (h : List TM) (m : MM) (L' : List TM), 600 - i < n → i ≤ 600 → 900 ≤ r → r ≤ 1100 → 0 ≤ mi → mi ≤ 1099511627776999 → Rl s h m L' → s ≤ i →
    l5_6 fu K0 K1 n (script, (i : Int), r, mi, s, h, m.1, m.2.1, m.2.2, r, mi, L'.map strip) = some true := by
  intro n
  induction n with
  | zero => intro i r mi s h m L' a; omega
  | succ n ih =>
    intro i r mi s h m L' hn hi r0 r1 m0 m1 R hs
    show s5_6 fu (l5_6 fu K0 K1 n) K0 K1 _ = _
    simp only [s5_6]
    by_cases e : i < script.length
    · by_cases g : i < 600
      · obtain ⟨r2, mi2, s2, h2, m2, L2, e1, e2, e3, e4, e5, e6, e7⟩ := ST script[i] r mi s h m L' r0 r1 m0 m1 R (by omega)
        obtain ⟨v, b, x1, x2⟩ := NX r2 mi2 s2 h2 m2 L2 e6
        have hlen : (((L2.map strip).length : Nat) : Int) = ((h2.length : Nat) : Int) := by rw [List.length_map, e6.len]
        rw [decide_eq_true (show (i : Int) < ((script.length : Nat) : Int) by omega), decide_eq_true (show (i : Int) < 600 by omega)]
        simp only [cond_true, if_pos (Int.natCast_nonneg i), Int.toNat_natCast, List.getElem?_eq_getElem e, e1, x1, x2, N1 r2 mi2 s2 h2 m2 e4 e5, N2 r2 mi2 _ e4 e5, CT, hlen, decide_true, Bool.not_true, cond_false, beq_self_eq_true, wrapNext i (by omega)]
        exact ih (i + 1) r2 mi2 s2 h2 m2 L2 (by omega) (by omega) e2 e3 e4 e5 e6 (by omega)
      · rw [decide_eq_true (show (i : Int) < ((script.length : Nat) : Int) by omega), decide_eq_false (show ¬ (i : Int) < 600 by omega)]
        exact hK
    · rw [decide_eq_false (show ¬ (i : Int) < ((script.length : Nat) : Int) by omega)]
      exact hK

theorem plays_loop {K0 : Bool → Option Bool} {K1 : Unit → Option Bool} (hK : K1 () = some true) (script : List OP) (r mi : Int) (r0 : 900 ≤ r) (r1 : r ≤ 1100) (m0 : 0 ≤ mi) (m1 : mi ≤ 1099511627776999) :
    l5_6 FUEL K0 K1 FUEL (script, 0, r, mi, 0, [], [], [], 0, r, mi, []) = some true := by
  have R0 : Rl 0 [] ([], [], 0) [] := by
    refine ⟨⟨(by intro j _ hj; simp at hj), ⟨⟨whole_nil, List.nodup_nil⟩, fun id v => ?_⟩⟩, List.Perm.refl _, by simp, List.Pairwise.nil, (by intro t ht; cases ht), Int.le_refl _⟩
    constructor
    · intro e; cases e
    · rintro ⟨i, hi, _⟩; simp at hi
  exact plays_head hK FUEL script (fun o r mi s h m L' a b c d R e => step_run o a b c d R e) (fun r mi s h m L' R => next_both R r mi r mi) (fun r mi s h m a b => now_run r mi s h m a (by omega)) (fun r mi L a b => now_ref a b r L) (fun r mi s h m => rfl)
    FUEL 0 r mi 0 [] ([], [], 0) [] (by have := big; omega) (by omega) r0 r1 m0 m1 R0 (Int.le_refl _)

theorem plays (x0 : Int) (_ : Ty.wr (.int .i64) x0) (x1 : Int) (_ : Ty.wr (.int .i64) x1) (x2 : List OP) (_ : Ty.wr (.slice (.pair (.int .i64) (.pair (.int .u64) (.int .i64)))) x2) : p5 FUEL (x0, x1, x2) = some true := by
  have bad : (x0 < 900 ∨ 1100 < x0 ∨ x1 < 0 ∨ 1099511627776 < x1) → p9 FUEL (x0, x1) = some (.inl 1) ∧ p15 FUEL (x0, x1) = some (.inl false) := by
    intro hb
    simp only [p9, p15, p22]
    by_cases a : x0 < 900
    · rw [decide_eq_true a, decide_eq_false (show ¬ 900 ≤ x0 by omega)]; exact ⟨rfl, rfl⟩
    · rw [decide_eq_false a, decide_eq_true (show 900 ≤ x0 by omega)]
      by_cases b : 1100 < x0
      · rw [decide_eq_true b, decide_eq_false (show ¬ x0 ≤ 1100 by omega)]; exact ⟨rfl, rfl⟩
      · rw [decide_eq_false b, decide_eq_true (show x0 ≤ 1100 by omega)]
        by_cases c : x1 < 0
        · rw [decide_eq_true c]; exact ⟨rfl, rfl⟩
        · rw [decide_eq_false c, decide_eq_true (show 1099511627776 < x1 by omega)]; exact ⟨rfl, rfl⟩
  by_cases hb : x0 < 900 ∨ 1100 < x0 ∨ x1 < 0 ∨ 1099511627776 < x1
  · obtain ⟨e1, e2⟩ := bad hb
    simp only [p5, awake_run, e1, e2]
    rfl
  · have e1 : p9 FUEL (x0, x1) = some (.inr (0, x0, 1000 * x1, 0, [], [], [], 0)) := by
      simp only [p9, p22]
      rw [decide_eq_true (show 900 ≤ x0 by omega), decide_eq_true (show x0 ≤ 1100 by omega), decide_eq_false (show ¬ x1 < 0 by omega), decide_eq_false (show ¬ (1099511627776 : Int) < x1 by omega), wrapI (n := 1000 * x1) (by omega) (by omega)]
      rfl
    have e2 : p15 FUEL (x0, x1) = some (.inr (true, x0, 1000 * x1, [])) := by
      simp only [p15]
      rw [decide_eq_false (show ¬ x0 < 900 by omega), decide_eq_false (show ¬ (1100 : Int) < x0 by omega), decide_eq_false (show ¬ x1 < 0 by omega), decide_eq_false (show ¬ (1099511627776 : Int) < x1 by omega), wrapI (n := 1000 * x1) (by omega) (by omega)]
      rfl
    have e3 := plays_loop (K0 := fun x83 => some x83) (K1 := fun _ => some true) rfl x2 x0 (1000 * x1) (by omega) (by omega) (by omega) (by omega)
    simp only [p5, awake_run, e1, e2, j5_7, decide_true, Bool.not_true, cond_false]
    exact e3
end Go.Am.Ytbggedhchjibjaa
