/- Plain laws of the printed functions of the store: the law of a recovery (StoreRecovered). -/
import Derived.Test.YtkfmnkpajjnpoaaStoreQ
namespace Go.Am.Ytkfmnkpajjnpoaa

theorem fence_check {R : Type} {K0 : Bool → Option R} {K1 : _ → Option R} (r i : Nat) (hi : i < 4) (cs : List CC) (hcs : cs.length = 4) (hx : (at_ cs i).2.2.2.2.2.1.length = 4) (s inc ver : Int) (f : List Int) (hf : f.length = 4) (d : List En) (ls : List LK) (vs : List (Int × Int)) (k : Known r i (at_ cs i) ver f ls) :
    l10_7 FUEL K0 K1 FUEL ((r : Int), (i : Int), 0, cs, s, inc, ver, f, d, ls, vs) = K1 ((r : Int), (i : Int), cs, s, inc, ver, f, d, ls, vs) := by
  have kk := for_loop (S := Unit) (L := fun n y => l10_7 FUEL K0 K1 n y) (step := fun F => s10_7 FUEL F K0 K1) (fun n x => rfl)
    (fun j _ => ((r : Int), (i : Int), (j : Int), cs, s, inc, ver, f, d, ls, vs)) 4 (fun _ _ => True) (fun _ _ => .inr ()) (fun _ => K1 ((r : Int), (i : Int), cs, s, inc, ver, f, d, ls, vs))
    (fun G j _ hj _ => by
      have e1 : f[j]? = some (f.getD j 0) := by rw [List.getD_eq_getElem?_getD, List.getElem?_eq_getElem (by omega)]; rfl
      have e2 : (at_ cs i).2.2.2.2.2.1[j]? = some ((at_ cs i).2.2.2.2.2.1.getD j 0) := by rw [List.getD_eq_getElem?_getD, List.getElem?_eq_getElem (by omega)]; rfl
      refine (condT (decide_eq_true (show (j : Int) < 4 by omega))).trans ?_
      simp only [if_pos (show (0 : Int) ≤ (j : Int) ∧ (j : Int) < ((4 : Nat) : Int) by omega), if_pos (show (0 : Int) ≤ (i : Int) ∧ (i : Int) < ((4 : Nat) : Int) by omega), Int.toNat_natCast, at_some hcs hi, e1, e2, wrapNext j (by omega)]
      by_cases h1 : (j : Int) = (r : Int)
      · rw [decide_eq_true h1]; rfl
      · rw [decide_eq_false h1]
        by_cases h2 : (j : Int) = (i : Int)
        · rw [decide_eq_true h2]; rfl
        · have h3 := k.fences j hj h1 h2
          rw [decide_eq_false h2, decide_eq_false (Int.not_lt.2 h3)]; rfl)
    (fun G _ _ => rfl) (fun _ _ _ _ _ _ => trivial) 4 0 () FUEL rfl (by have := big; omega) trivial
  rw [forI_fold] at kk
  exact kk

theorem find_check {R : Type} {K : _ → Option R} (r i : Nat) (hi : i < 4) (a : Nat) (cs : List CC) (hcs : cs.length = 4) (l : LK) (hl : (at_ cs i).2.2.2.2.1[a]? = some l) (s inc ver : Int) (f : List Int) (d : List En) (ls : List LK) (hls : ls.length ≤ 3145728) (vs : List (Int × Int)) :
    l10_8 FUEL K FUEL ((r : Int), (i : Int), (a : Int), false, 0, cs, s, inc, ver, f, d, ls, vs) = K ((r : Int), (i : Int), (a : Int), ls.any (fun y => decide (y.1 = l.1)), cs, s, inc, ver, f, d, ls, vs) := by
  have kk := list_loop (R := R) (L := fun n y => l10_8 FUEL K n y) (step := fun F => s10_8 FUEL F K) (fun n x => rfl) ls
    (fun b (w : Bool) => ((r : Int), (i : Int), (a : Int), w, (b : Int), cs, s, inc, ver, f, d, ls, vs)) (fun _ => True) (fun w y => .inr (w || decide (y.1 = l.1))) (fun w => K ((r : Int), (i : Int), (a : Int), w, cs, s, inc, ver, f, d, ls, vs))
    (fun G b w hb _ => by
      refine (condT (decide_eq_true (show (b : Int) < ((ls.length : Nat) : Int) by omega))).trans ?_
      simp only [if_pos (show (0 : Int) ≤ (b : Int) ∧ (b : Int) < ((ls.length : Nat) : Int) by omega), if_pos (show (0 : Int) ≤ (i : Int) ∧ (i : Int) < ((4 : Nat) : Int) by omega), if_pos (show (0 : Int) ≤ (a : Int) by omega), Int.toNat_natCast, at_some hcs hi, hl, List.getElem?_eq_getElem hb, wrapNext b (by omega)]
      cases w with
      | true => rw [Bool.true_or]; rfl
      | false => rw [Bool.false_or]; rfl)
    (fun G w _ => condF (decide_eq_false (Int.lt_irrefl _))) (fun _ _ _ _ _ _ => trivial) false trivial FUEL (by have := big; omega)
  rw [forL_fold] at kk
  refine kk.trans ?_
  have : ∀ (L : List LK) (b : Bool), L.foldl (fun w y => w || decide (y.1 = l.1)) b = (b || L.any (fun y => decide (y.1 = l.1))) := by
    intro L
    induction L with
    | nil => intro b; simp
    | cons v L ih => intro b; rw [List.foldl_cons, ih, List.any_cons, Bool.or_assoc]
  rw [this, Bool.false_or]

theorem lock_check {R : Type} {K0 : Bool → Option R} {K1 : _ → Option R} (r i : Nat) (hi : i < 4) (cs : List CC) (hcs : cs.length = 4) (hx : (at_ cs i).2.2.2.2.1.length ≤ 1048576) (s inc ver : Int) (f : List Int) (d : List En) (ls : List LK) (hls : ls.length ≤ 3145728) (vs : List (Int × Int)) (k : Known r i (at_ cs i) ver f ls) :
    l10_9 FUEL K0 K1 FUEL ((r : Int), (i : Int), 0, cs, s, inc, ver, f, d, ls, vs) = K1 ((r : Int), (i : Int), cs, s, inc, ver, f, d, ls, vs) := by
  have kk := for_loop (S := Unit) (L := fun n y => l10_9 FUEL K0 K1 n y) (step := fun F => s10_9 FUEL F K0 K1) (fun n x => rfl)
    (fun a _ => ((r : Int), (i : Int), (a : Int), cs, s, inc, ver, f, d, ls, vs)) (at_ cs i).2.2.2.2.1.length (fun _ _ => True) (fun _ _ => .inr ()) (fun _ => K1 ((r : Int), (i : Int), cs, s, inc, ver, f, d, ls, vs))
    (fun G a _ ha _ => by
      have hl := List.getElem?_eq_getElem ha
      show s10_9 FUEL G K0 K1 _ = _
      simp only [s10_9, if_pos (show (0 : Int) ≤ (i : Int) ∧ (i : Int) < ((4 : Nat) : Int) by omega), Int.toNat_natCast, at_some hcs hi]
      rw [decide_eq_true (show (a : Int) < (((at_ cs i).2.2.2.2.1.length : Nat) : Int) by omega), cond_true, find_check r i hi a cs hcs _ hl s inc ver f d ls hls vs]
      obtain ⟨y, hy, hyl⟩ := k.locks _ (List.getElem_mem ha)
      have : ls.any (fun y => decide (y.1 = ((at_ cs i).2.2.2.2.1[a]).1)) = true := List.any_eq_true.2 ⟨y, hy, decide_eq_true hyl⟩
      simp only [this, Bool.not_true, cond_false, wrapNext a (by omega)])
    (fun G _ _ => by
      show s10_9 FUEL G K0 K1 _ = _
      simp only [s10_9, if_pos (show (0 : Int) ≤ (i : Int) ∧ (i : Int) < ((4 : Nat) : Int) by omega), Int.toNat_natCast, at_some hcs hi]
      rw [decide_eq_false (Int.lt_irrefl _)]; rfl)
    (fun _ _ _ _ _ _ => trivial) (at_ cs i).2.2.2.2.1.length 0 () FUEL (Nat.zero_add _) (by have := big; omega) trivial
  rw [forI_fold] at kk
  exact kk

theorem known_head {R : Type} {K0 : Bool → Option R} {K1 : Unit → Option R} (fu : Nat) (hfu : 4 < fu) (r : Nat) (cs : List CC) (hcs : cs.length = 4) (s inc ver : Int) (f : List Int) (hf : f.length = 4) (d : List En) (ls : List LK) (vs : List (Int × Int)) (k : ∀ c : Nat, c < 4 → c ≠ r → Known r c (at_ cs c) ver f ls)
    (A : ∀ (i : Nat), i < 4 → i ≠ r → ∀ (K : _ → Option R), l10_7 fu K0 K fu ((r : Int), (i : Int), 0, cs, s, inc, ver, f, d, ls, vs) = K ((r : Int), (i : Int), cs, s, inc, ver, f, d, ls, vs))
    (B : ∀ (i : Nat), i < 4 → i ≠ r → ∀ (K : _ → Option R), l10_9 fu K0 K fu ((r : Int), (i : Int), 0, cs, s, inc, ver, f, d, ls, vs) = K ((r : Int), (i : Int), cs, s, inc, ver, f, d, ls, vs)) :
    l10_10 fu K0 K1 fu ((r : Int), 0, cs, s, inc, ver, f, d, ls, vs) = K1 () := by
  have kk := for_loop (S := Unit) (L := fun n y => l10_10 fu K0 K1 n y) (step := fun F => s10_10 fu F K0 K1) (fun n x => rfl)
    (fun i _ => ((r : Int), (i : Int), cs, s, inc, ver, f, d, ls, vs)) 4 (fun _ _ => True) (fun _ _ => .inr ()) (fun _ => K1 ())
    (fun G i _ hi _ => by
      refine (condT (decide_eq_true (show (i : Int) < 4 by omega))).trans ?_
      by_cases h1 : (i : Int) = (r : Int)
      · refine (condT (decide_eq_true h1)).trans ?_
        show G _ = G _
        rw [wrapNext i (by omega)]
      · have hne : i ≠ r := fun e => h1 (by rw [e])
        have kn := k i hi hne
        have e1 : f[i]? = some (f.getD i 0) := by rw [List.getD_eq_getElem?_getD, List.getElem?_eq_getElem (by omega)]; rfl
        refine (condF (decide_eq_false h1)).trans ?_
        have n1 : decide (ver < (at_ cs i).2.2.1) = false := decide_eq_false (Int.not_lt.2 kn.ver)
        have n2 : decide (f.getD i 0 < (at_ cs i).2.1) = false := decide_eq_false (Int.not_lt.2 kn.inc)
        simp only [if_pos (show (0 : Int) ≤ (i : Int) ∧ (i : Int) < ((4 : Nat) : Int) by omega), Int.toNat_natCast, at_some hcs hi, e1, n1, n2, cond_false, A i hi hne, B i hi hne, wrapNext i (by omega)])
    (fun G _ _ => rfl) (fun _ _ _ _ _ _ => trivial) 4 0 () fu rfl hfu trivial
  rw [forI_fold] at kk
  exact kk

theorem known_check {R : Type} {K0 : Bool → Option R} {K1 : Unit → Option R} (r : Nat) (cs : List CC) (hcs : cs.length = 4) (ok : ∀ x ∈ cs, CcOk x) (s inc ver : Int) (f : List Int) (hf : f.length = 4) (d : List En) (ls : List LK) (hls : ls.length ≤ 3145728) (vs : List (Int × Int)) (k : ∀ c : Nat, c < 4 → c ≠ r → Known r c (at_ cs c) ver f ls) :
    l10_10 FUEL K0 K1 FUEL ((r : Int), 0, cs, s, inc, ver, f, d, ls, vs) = K1 () :=
  known_head FUEL (by have := big; omega) r cs hcs s inc ver f hf d ls vs k
    (fun i hi hne _ => fence_check r i hi cs hcs (ok _ (at_mem hcs hi)).fences s inc ver f hf d ls vs (k i hi hne))
    (fun i hi hne _ => lock_check r i hi cs hcs (ok _ (at_mem hcs hi)).locks s inc ver f d ls hls vs (k i hi hne))

theorem open_other (r : Nat) (hr : r < 4) (inc : Int) : p17 FUEL (5, (r : Int), inc, false) = some (if inc = 0 then .inl 1 else .inr (0, (5, (r : Int)), 1, inc, 0, [0, 0, 0, 0], [], [], [])) := by
  simp only [p17, p35, j17_0, p36]
  rw [decide_eq_true (show (0 : Int) ≤ (r : Int) by omega), decide_eq_true (show (r : Int) < 4 by omega)]
  by_cases h : inc = 0
  · rw [decide_eq_true h, if_pos h]; rfl
  · rw [decide_eq_false h, if_neg h]; rfl

theorem extract_other (r : Nat) (s inc ver : Int) (f : List Int) (d : List En) (ls : List LK) (vs : List (Int × Int)) (h : Fits d ls vs) :
    p23b FUEL (5, (r : Int), (5, (r : Int)), s, inc, ver, f, d, ls, vs) = some (s, inc, ver, f, 0, (5, (r : Int)), s, inc, ver, f, d, ls, vs, d, ls, vs) := by
  simp only [p23b, p47b, eqKey, decide_true, cond_true, Bool.not_true, cond_false, copied_run s inc ver f d ls vs h]

theorem recovered_at (n : Int) (h0 : 0 ≤ n) (inc : Int) (cs : List CC) (hcs : cs.length = 4) (ok : ∀ x ∈ cs, CcOk x) : j10_12 FUEL (fun x => some x) (n, inc, cs) = some true := by
  obtain ⟨r, hn, hr⟩ : ∃ r : Nat, Int.tmod n 4 = (r : Int) ∧ r < 4 := by
    have e : Int.tmod n 4 = n % 4 := Int.tmod_eq_emod_of_nonneg h0
    exact ⟨Int.toNat (n % 4), by rw [e]; omega, by omega⟩
  simp only [j10_12, p16, alive_run, hn, Bool.not_true, cond_false, open_other r hr]
  by_cases hi : inc = 0
  · simp only [if_pos hi, p29b, p23c, p47c]
    subst hi; rfl
  · simp only [if_neg hi]
    rcases recover_run r hr cs hcs ok inc with e | ⟨g, hg, hk, e⟩
    · rw [e]
      simp only
      rw [extract_other r 1 inc 0 [0, 0, 0, 0] [] [] [] ⟨by decide, by decide, (by intro l hl; cases hl), by decide⟩]
      simp only [j10_6]
      rw [decide_eq_false hi]; rfl
    · rw [e]
      simp only
      have hm := hg.marks.few
      simp only at hm
      rw [extract_other r 2 inc g.1 g.2.2.1 g.2.1 g.2.2.2.1 [] ⟨by have := hg.data; omega, by omega, fun l hl => by have := hg.marks.each l hl; omega, by decide⟩]
      simp only [j10_6, j10_11, decide_true, Bool.not_true, cond_false]
      have hlen : decide (((List.length ([] : List (Int × Int)) : Nat) : Int) = 0) = true := rfl
      rw [known_check r cs hcs ok 2 inc g.1 g.2.2.1 hg.fences g.2.1 g.2.2.2.1 hm [] hk]; rfl

theorem storeRecovered (x0 : List CC) (w0 : Ty.few 1048576 (.arr 4 CCT) x0) (x1 : Int) (w1 : Ty.few 1048576 (.int .i64) x1) (x2 : Int) (_w2 : Ty.few 1048576 (.int .u32) x2) : p10 FUEL (x0, x1, x2) = some true := by
  have hx := wf_i64 (Ty.few.wf (.int .i64) w1)
  have ok : ∀ x ∈ x0, CcOk x := fun x hx => cc_ok (w0.2 x hx)
  simp only [p10]
  by_cases h : x1 < 0
  · rw [decide_eq_true h, cond_true, wrapI (n := x1 + 1) (by omega) (by omega), wrapI (by omega) (by omega)]
    exact recovered_at _ (by omega) x2 x0 w0.1 ok
  · rw [decide_eq_false h, cond_false]
    exact recovered_at _ (by omega) x2 x0 w0.1 ok
end Go.Am.Ytkfmnkpajjnpoaa
