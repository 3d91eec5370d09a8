/- Plain laws of the printed functions of the store: what three know, the fourth comes to know (StoreRecovered). -/
import Derived.Test.YtkfmnkpajjnpoaaStoreN
namespace Go.Am.Ytkfmnkpajjnpoaa
abbrev nilC : CC := (0, (0, (0, ([], ([], ([], []))))))
/-- The replica i's copy. -/
abbrev at_ (cs : List CC) (i : Nat) : CC := cs.getD i nilC
theorem at_some {cs : List CC} (h : cs.length = 4) {i : Nat} (hi : i < 4) : cs[i]? = some (at_ cs i) := by
  unfold at_; rw [List.getD_eq_getElem?_getD, List.getElem?_eq_getElem (by omega)]; rfl
theorem at_mem {cs : List CC} (h : cs.length = 4) {i : Nat} (hi : i < 4) : at_ cs i ∈ cs := List.mem_of_getElem? (at_some h hi)

/-- What a copy says is known. -/
structure Known (r : Nat) (c : Nat) (x : CC) (V : Int) (F : List Int) (LS : List LK) : Prop where
  ver : x.2.2.1 ≤ V
  inc : x.2.1 ≤ F.getD c 0
  fences : ∀ q : Nat, q < 4 → (q : Int) ≠ (r : Int) → (q : Int) ≠ (c : Int) → x.2.2.2.2.2.1.getD q 0 ≤ F.getD q 0
  locks : ∀ l ∈ x.2.2.2.2.1, ∃ y ∈ LS, y.1 = l.1

def gone (r : Nat) (cs : List CC) (g : GG) (c : Int) : GG := gstep r (Int.toNat c) (at_ cs (Int.toNat c)) g
def gall (r : Nat) (cs : List CC) (fr : List Int) (g : GG) : GG := fr.foldl (gone r cs) g

theorem gall_good (r : Nat) (cs : List CC) (hcs : cs.length = 4) (ok : ∀ x ∈ cs, CcOk x) : ∀ (fr : List Int) (n : Nat) (g : GG), Good n g → n + fr.length * 1048576 ≤ 3145728 → (∀ c ∈ fr, 0 ≤ c ∧ c < 4) →
    Good (n + fr.length * 1048576) (gall r cs fr g) ∧ g.1 ≤ (gall r cs fr g).1 ∧ (∀ q, g.2.2.1.getD q 0 ≤ (gall r cs fr g).2.2.1.getD q 0) ∧ (∀ y ∈ g.2.2.2.1, y ∈ (gall r cs fr g).2.2.2.1) ∧
      ∀ c ∈ fr, Known r (Int.toNat c) (at_ cs (Int.toNat c)) (gall r cs fr g).1 (gall r cs fr g).2.2.1 (gall r cs fr g).2.2.2.1
  | [], n, g, h, _, _ => ⟨by rw [List.length_nil, Nat.zero_mul]; exact h, Int.le_refl _, fun _ => Int.le_refl _, fun _ h => h, (by intro c h; cases h)⟩
  | a :: fr, n, g, h, hn, hfr => by
    rw [List.length_cons] at hn
    have ha := hfr a (by simp)
    have hac : Int.toNat a < 4 := by omega
    obtain ⟨s1, s2, s3, s4, s5, s6, s7, s8⟩ := h.step r hac (ok _ (at_mem hcs hac)) (by omega)
    obtain ⟨k1, k2, k3, k4, k5⟩ := gall_good r cs hcs ok fr (n + 1048576) _ s1 (by omega) (fun c hc => hfr c (by simp [hc]))
    have e : gall r cs (a :: fr) g = gall r cs fr (gstep r (Int.toNat a) (at_ cs (Int.toNat a)) g) := rfl
    rw [e]
    refine ⟨by rw [List.length_cons, show n + (fr.length + 1) * 1048576 = n + 1048576 + fr.length * 1048576 by omega]; exact k1, Int.le_trans s2 k2, fun q => Int.le_trans (s4 q) (k3 q), fun y hy => k4 y (s8 y hy), fun c hc => ?_⟩
    rcases List.mem_cons.1 hc with e | hc
    · subst e
      refine ⟨Int.le_trans s3 k2, Int.le_trans s5 (k3 _), fun q h1 h2 h3 => Int.le_trans (s6 q h1 h2 h3) (k3 q), fun l hl => ?_⟩
      obtain ⟨y, hy, hyl⟩ := s7 l hl
      exact ⟨y, k4 y hy, hyl⟩
    · exact k5 c hc

theorem all_merge {R : Type} {K : _ → Option R} (r : Nat) (cs : List CC) (hcs : cs.length = 4) (ok : ∀ x ∈ cs, CcOk x) (fr : List Int) (hfr : ∀ c ∈ fr, 0 ≤ c ∧ c < 4) (hl : fr.length ≤ 3) (key : Int × Int) (s inc ver : Int) (f : List Int) (d : List En) (ls : List LK) (vs : List (Int × Int)) (two inc2 : Int) (g : GG) (hg : Good 0 g) :
    l29c_6 FUEL K FUEL ((r : Int), ((fr.length : Nat) : Int), 0, key, s, inc, ver, f, d, ls, vs, cs, two, inc2, g.1, g.2.1, g.2.2.1, g.2.2.2.1, g.2.2.2.2.1, g.2.2.2.2.2.1, g.2.2.2.2.2.2, fr) =
      K (key, s, inc, ver, f, d, ls, vs, two, inc2, (gall r cs fr g).1, (gall r cs fr g).2.1, (gall r cs fr g).2.2.1, (gall r cs fr g).2.2.2.1) := by
  have kk := for_loop (S := GG) (L := fun n y => l29c_6 FUEL K n y) (step := fun F => s29c_6 FUEL F K) (fun n x => rfl)
    (fun i g => ((r : Int), ((fr.length : Nat) : Int), (i : Int), key, s, inc, ver, f, d, ls, vs, cs, two, inc2, g.1, g.2.1, g.2.2.1, g.2.2.2.1, g.2.2.2.2.1, g.2.2.2.2.2.1, g.2.2.2.2.2.2, fr)) fr.length (fun i g => Good (i * 1048576) g)
    (fun i g => .inr (gone r cs g (fr.getD i 0))) (fun g => K (key, s, inc, ver, f, d, ls, vs, two, inc2, g.1, g.2.1, g.2.2.1, g.2.2.2.1))
    (fun G i g hi hgi => by
      have e : fr.getD i 0 = fr[i] := by rw [List.getD_eq_getElem?_getD, List.getElem?_eq_getElem hi]; rfl
      have hc := hfr _ (List.getElem_mem hi)
      obtain ⟨c, hc'⟩ := Int.eq_ofNat_of_zero_le hc.1
      rw [hc'] at hc
      have hc4 : c < 4 := by omega
      refine (condT (decide_eq_true (show (i : Int) < ((fr.length : Nat) : Int) by omega))).trans ?_
      rw [if_pos (show (0 : Int) ≤ (i : Int) ∧ (i : Int) < ((fr.length : Nat) : Int) by omega), Int.toNat_natCast, List.getElem?_eq_getElem hi]
      simp only [gone, e, hc', Int.toNat_natCast, if_pos (show (0 : Int) ≤ (c : Int) ∧ (c : Int) < ((4 : Nat) : Int) by omega), at_some hcs hc4]
      have run := fun (V : Int) (D : List En) => copy_merge (R := R) (K := fun (x394, x395, x396, x397, x398, x399, x400, x401, x402, x403, x404, x405, x406, x407, x408, x409, x410, x411, x412, x413, x414, x415) => (G (x394, x395, (IntKind.wrap .i64 (x396 + (1 : Int))), x397, x398, x399, x400, x401, x402, x403, x404, x405, x406, x407, x408, x409, x410, x411, x412, x413, x414, x415))) (r : Int) c hc4 ((fr.length : Nat) : Int) (i : Int) key s inc ver f d ls vs cs (at_ cs c) (at_some hcs hc4) (ok _ (at_mem hcs hc4)) two inc2 V D g.2.2.1 hgi.fences g.2.2.2.1 g.2.2.2.2 fr (i * 1048576) (by omega) hgi.marks g.1 g.2.1
      by_cases hv : g.1 < (at_ cs c).2.2.1
      · rw [decide_eq_true hv]
        simp only [cond_true]
        rw [run _ _ (by rw [decide_eq_true hv]; rfl) (by rw [decide_eq_true hv]; rfl)]
        simp only [wrapNext i (by omega)]
      · rw [decide_eq_false hv]
        simp only [cond_false]
        rw [run _ _ (by rw [decide_eq_false hv]; rfl) (by rw [decide_eq_false hv]; rfl)]
        simp only [wrapNext i (by omega)])
    (fun G g _ => condF (decide_eq_false (Int.lt_irrefl _)))
    (fun i g g' hi hgi hs => by
      have e : fr.getD i 0 = fr[i] := by rw [List.getD_eq_getElem?_getD, List.getElem?_eq_getElem hi]; rfl
      have hc := hfr _ (List.getElem_mem hi)
      rw [e] at hs
      have hs := Sum.inr.inj hs
      rw [← hs]
      have hst := (hgi.step r (show Int.toNat fr[i] < 4 by omega) (ok _ (at_mem hcs (show Int.toNat fr[i] < 4 by omega))) (show i * 1048576 ≤ 3145728 by omega)).1
      have e2 : i * 1048576 + 1048576 = (i + 1) * 1048576 := by omega
      rw [e2] at hst
      exact hst) fr.length 0 g FUEL (Nat.zero_add _) (by have := big; omega) (by rw [Nat.zero_mul]; exact hg)
  rw [forI_fold, foldI_list fr (gone r cs) _ fr.length 0 g (by omega)] at kk
  exact kk

theorem forI_either {S R : Type} {f : Nat → S → Option R ⊕ S} {fin : S → Option R} {a : Option R} {g : Nat → S → S} (h : ∀ i s, f i s = .inl a ∨ f i s = .inr (g i s)) : ∀ (k i : Nat) (s : S), forI f fin k i s = a ∨ forI f fin k i s = fin (foldI g k i s)
  | 0, _, _ => .inr rfl
  | k + 1, i, s => by
    unfold forI foldI
    rcases h i s with e | e
    · rw [e]; exact .inl rfl
    · rw [e]; exact forI_either h k (i + 1) (g i s)

/-- The others. -/
def others (r : Nat) : List Int := foldI (fun i s => if (i : Int) = (r : Int) then s else s ++ [(i : Int)]) 4 0 []
theorem others_eq {r : Nat} (h : r < 4) : (others r).length = 3 ∧ (∀ c ∈ others r, 0 ≤ c ∧ c < 4) ∧ ∀ c : Nat, c < 4 → c ≠ r → (c : Int) ∈ others r := by
  match r, h with
  | 0, _ => exact ⟨rfl, by decide, by intro c h1 h2; rcases (show c = 1 ∨ c = 2 ∨ c = 3 by omega) with rfl | rfl | rfl <;> decide⟩
  | 1, _ => exact ⟨rfl, by decide, by intro c h1 h2; rcases (show c = 0 ∨ c = 2 ∨ c = 3 by omega) with rfl | rfl | rfl <;> decide⟩
  | 2, _ => exact ⟨rfl, by decide, by intro c h1 h2; rcases (show c = 0 ∨ c = 1 ∨ c = 3 by omega) with rfl | rfl | rfl <;> decide⟩
  | 3, _ => exact ⟨rfl, by decide, by intro c h1 h2; rcases (show c = 0 ∨ c = 1 ∨ c = 2 by omega) with rfl | rfl | rfl <;> decide⟩

theorem from_run {R : Type} {K0 K1 : _ → Option R} (r : Nat) (cs : List CC) (hcs : cs.length = 4) (key : Int × Int) (s inc ver : Int) (f : List Int) (d : List En) (ls : List LK) (vs : List (Int × Int)) :
    l29c_0 FUEL K0 K1 FUEL ((r : Int), cs, 0, key, s, inc, ver, f, d, ls, vs, cs, []) = K0 (155, key, s, inc, ver, f, d, ls, vs) ∨
    l29c_0 FUEL K0 K1 FUEL ((r : Int), cs, 0, key, s, inc, ver, f, d, ls, vs, cs, []) = K1 ((r : Int), key, s, inc, ver, f, d, ls, vs, cs, others r) := by
  have kk := for_loop (S := List Int) (L := fun n y => l29c_0 FUEL K0 K1 n y) (step := fun F => s29c_0 FUEL F K0 K1) (fun n x => rfl)
    (fun i q => ((r : Int), cs, (i : Int), key, s, inc, ver, f, d, ls, vs, cs, q)) 4 (fun i q => q.length ≤ i)
    (fun i q => if (i : Int) = (r : Int) then .inr q else if (at_ cs i).1 = 2 ∧ (at_ cs i).2.1 ≠ 0 then .inr (q ++ [(i : Int)]) else .inl (K0 (155, key, s, inc, ver, f, d, ls, vs)))
    (fun q => K1 ((r : Int), key, s, inc, ver, f, d, ls, vs, cs, q))
    (fun G i q hi hq => by
      refine (condT (decide_eq_true (show (i : Int) < 4 by omega))).trans ?_
      simp only [if_pos (show (0 : Int) ≤ (i : Int) ∧ (i : Int) < ((4 : Nat) : Int) by omega), Int.toNat_natCast, at_some hcs hi, wrapNext i (by omega)]
      by_cases h1 : (i : Int) = (r : Int)
      · rw [decide_eq_true h1, if_pos h1]; rfl
      · rw [decide_eq_false h1, if_neg h1]
        by_cases h2 : (at_ cs i).1 = 2
        · by_cases h3 : (at_ cs i).2.1 = 0
          · rw [decide_eq_true h2, decide_eq_true h3, if_neg (show ¬ ((at_ cs i).1 = 2 ∧ (at_ cs i).2.1 ≠ 0) from fun x => x.2 h3)]; rfl
          · rw [decide_eq_true h2, decide_eq_false h3, if_pos (show (at_ cs i).1 = 2 ∧ (at_ cs i).2.1 ≠ 0 from ⟨h2, h3⟩), if_pos (show (q.length + List.length [(i : Int)]) * 8 ≤ 140737488355328 by simp; omega)]; rfl
        · rw [decide_eq_false h2, if_neg (show ¬ ((at_ cs i).1 = 2 ∧ (at_ cs i).2.1 ≠ 0) from fun x => h2 x.1)]; rfl)
    (fun G q _ => rfl)
    (fun i q q' hi hq hs => by
      split at hs
      · injection hs with hs; rw [← hs]; omega
      · split at hs
        · injection hs with hs; rw [← hs]; simp; omega
        · cases hs) 4 0 [] FUEL rfl (by have := big; omega) (Nat.le_refl _)
  have := forI_either (f := fun (i : Nat) (q : List Int) => if (i : Int) = (r : Int) then Sum.inr q else if (at_ cs i).1 = 2 ∧ (at_ cs i).2.1 ≠ 0 then .inr (q ++ [(i : Int)]) else .inl (K0 (155, key, s, inc, ver, f, d, ls, vs))) (fin := fun q => K1 ((r : Int), key, s, inc, ver, f, d, ls, vs, cs, q)) (a := K0 (155, key, s, inc, ver, f, d, ls, vs))
    (g := fun i s => if (i : Int) = (r : Int) then s else s ++ [(i : Int)]) (fun i q => by
      split
      · exact .inr rfl
      · split
        · exact .inr rfl
        · exact .inl rfl) 4 0 []
  rcases this with e | e
  · exact .inl (kk.trans e)
  · exact .inr (kk.trans e)

theorem recover_run (r : Nat) (hr : r < 4) (cs : List CC) (hcs : cs.length = 4) (ok : ∀ x ∈ cs, CcOk x) (inc : Int) :
    p29c FUEL (5, (r : Int), cs, (5, (r : Int)), 1, inc, 0, [0, 0, 0, 0], [], [], []) = some (155, (5, (r : Int)), 1, inc, 0, [0, 0, 0, 0], [], [], []) ∨
    ∃ g : GG, Good 3145728 g ∧ (∀ c : Nat, c < 4 → c ≠ r → Known r c (at_ cs c) g.1 g.2.2.1 g.2.2.2.1) ∧
      p29c FUEL (5, (r : Int), cs, (5, (r : Int)), 1, inc, 0, [0, 0, 0, 0], [], [], []) = some (0, (5, (r : Int)), 2, inc, g.1, g.2.2.1, g.2.1, g.2.2.2.1, []) := by
  obtain ⟨o1, o2, o3⟩ := others_eq hr
  simp only [p29c, p47b, eqKey, decide_true, cond_true, Bool.not_true, cond_false]
  rcases from_run (R := Int × (Int × Int) × Int × Int × Int × List Int × List En × List LK × List (Int × Int)) (K0 := fun (x28, x29, x30, x31, x32, x33, x34, x35, x36) => some (x28, x29, x30, x31, x32, x33, x34, x35, x36)) (K1 := _) r cs hcs (5, (r : Int)) 1 inc 0 [0, 0, 0, 0] [] [] [] with e | e
  · rw [e]; exact .inl rfl
  · right
    rw [e]
    simp only
    obtain ⟨c, hc⟩ : ∃ c : Nat, (others r)[0]? = some (c : Int) ∧ c < 4 := by
      have h0 : 0 < (others r).length := by omega
      have := o2 _ (List.getElem_mem h0)
      obtain ⟨c, hc⟩ := Int.eq_ofNat_of_zero_le this.1
      exact ⟨c, by rw [List.getElem?_eq_getElem h0, hc], by omega⟩
    have okc := ok _ (at_mem hcs hc.2)
    have hc4 : (0 : Int) ≤ (c : Int) ∧ (c : Int) < ((4 : Nat) : Int) := by omega
    have hg : Good 0 ((at_ cs c).2.2.1, (at_ cs c).2.2.2.1, [0, 0, 0, 0], [], ([], [], 0)) :=
      ⟨okc.data, rfl, ⟨Nat.le_refl _, (by intro l hl; cases hl), fun t => ⟨Int.le_refl _, Int.le_refl _⟩, fun t ht => absurd rfl ht⟩⟩
    have run := all_merge (R := Int × (Int × Int) × Int × Int × Int × List Int × List En × List LK × List (Int × Int)) (K := fun (x416, x417, x418, x419, x420, x421, x422, x423, x424, x425, x426, x427, x428, x429) => (match p48 FUEL (x424, (x425, (x426, (x427, (x429, (x428, ([] : List (Int × Int)))))))) with | some z430 => (some ((0 : Int), x416, z430.1, z430.2.1, z430.2.2.1, z430.2.2.2.1, z430.2.2.2.2.1, z430.2.2.2.2.2.1, z430.2.2.2.2.2.2)) | none => none)) r cs hcs ok (others r) o2 (by omega) (5, (r : Int)) 1 inc 0 [0, 0, 0, 0] [] [] [] 2 inc _ hg
    obtain ⟨k1, k2, k3, k4, k5⟩ := gall_good r cs hcs ok (others r) 0 _ hg (by omega) o2
    have hlen : (0 : Int) ≤ 0 ∧ (0 : Int) < ((List.length (others r) : Nat) : Int) := by omega
    simp only [if_pos hlen, show Int.toNat 0 = 0 from rfl, hc.1, if_pos hc4, Int.toNat_natCast, at_some hcs hc.2]
    refine ⟨_, by rw [o1] at k1; exact k1, fun c' h1 h2 => ?_, ?_⟩
    · have := k5 (c' : Int) (o3 c' h1 h2)
      rw [Int.toNat_natCast] at this
      exact this
    · refine run.trans ?_
      simp only
      rw [copied_run 2 inc _ _ _ _ _ ⟨by have := k1.data; omega, by have := k1.marks.few; simp only at this; omega, fun l hl => by have := k1.marks.each l hl; omega, by simp⟩]
end Go.Am.Ytkfmnkpajjnpoaa
