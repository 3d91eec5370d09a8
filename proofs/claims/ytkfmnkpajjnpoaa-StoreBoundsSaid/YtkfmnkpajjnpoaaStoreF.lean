/- Plain laws of the printed functions of the store: a replica's memory is bounded (StoreBounds). -/
import Derived.Test.YtkfmnkpajjnpoaaStoreC
import Derived.Test.YtkfmnkpajjnpoaaWalkBounds
import Derived.Test.YtkfmnkpajjnpoaaAmZH
namespace Go.Am.Ytkfmnkpajjnpoaa

/-- A lock of a transaction on the bucket 0, without entries. -/
def lk (tx : Int) (w : Bool) : LK := (tx, ([0, 1, 2], (0, (0, (w, ([], [1, 1, 1, 1]))))))
/-- The vote on the k-th. -/
def vk (k : Nat) : Int := if k < 16 then 1 else 2
def Vs (B : Int) (n : Nat) : List (Int × Int) := (List.range n).map fun (k : Nat) => (B + k + 1, vk k)
def Ls (B : Int) (n : Nat) : List LK := (List.range n).map fun (k : Nat) => lk (B + k + 1) false

theorem Vs_find (B : Int) (j : Nat) : ∀ n : Nat, (Vs B n).find? (fun x => decide (x.1 = B + j + 1)) = if j < n then some (B + j + 1, vk j) else none
  | 0 => rfl
  | n + 1 => by
    unfold Vs
    rw [List.range_succ, List.map_append, List.find?_append]
    have ih := Vs_find B j n
    unfold Vs at ih
    rw [ih]
    by_cases h : j < n
    · rw [if_pos h, if_pos (by omega)]; rfl
    · rw [if_neg h]
      by_cases e : j = n
      · subst e
        rw [if_pos (by omega)]
        simp
      · rw [if_neg (by omega)]
        simp only [Option.none_or, List.map_cons, List.map_nil, List.find?_cons, List.find?_nil]
        rw [decide_eq_false (by omega)]
theorem Vs_voted (B : Int) (j n : Nat) : voted (Vs B n) (B + j + 1) = if j < n then vk j else 0 := by
  unfold voted
  rw [Vs_find]
  by_cases h : j < n
  · rw [if_pos h, if_pos h]
  · rw [if_neg h, if_neg h]
theorem Vs_len (B : Int) (n : Nat) : (Vs B n).length = n := by simp [Vs]
theorem Ls_len (B : Int) (n : Nat) : (Ls B n).length = n := by simp [Ls]
theorem Ls_odds (B : Int) (n : Nat) : odds (Ls B n) false = false := by
  unfold odds Ls
  rw [List.any_eq_false]
  intro x hx
  obtain ⟨k, _, rfl⟩ := List.mem_map.1 hx
  simp [lk]
theorem Vs_snoc (B : Int) (n : Nat) : Vs B n ++ [(B + n + 1, vk n)] = Vs B (n + 1) := by
  unfold Vs; rw [List.range_succ, List.map_append]; rfl
theorem Ls_snoc (B : Int) (n : Nat) : Ls B n ++ [lk (B + n + 1) false] = Ls B (n + 1) := by
  unfold Ls; rw [List.range_succ, List.map_append]; rfl

theorem lk_refused (tx : Int) (w : Bool) (h : tx ≠ 0) : refused (lk tx w) 2 = 0 := by
  unfold refused
  rw [if_neg (show ¬ (lk tx w).1 = 0 from h)]
  cases w <;> rfl

/-- The i-th asking. -/
theorem vote_step (B : Int) (h0 : 0 ≤ B) (i : Nat) : voteS (lk (B + i + 1) false) 2 1 0 [0, 0, 0, 0] (Ls B (min i 16)) (Vs B (min i 64)) =
    (if i < 64 then vk i else 0, if i < 64 then 0 else 154, Ls B (min (i + 1) 16), Vs B (min (i + 1) 64)) := by
  have hv : voted (Vs B (min i 64)) (B + i + 1) = 0 := by rw [Vs_voted, if_neg (by omega)]
  unfold voteS
  rw [lk_refused _ _ (by omega), if_neg (by decide), if_neg (fun c => c rfl), show (lk (B + i + 1) false).1 = B + i + 1 from rfl, hv, if_neg (by decide), Vs_len]
  by_cases h : i < 64
  · rw [if_pos (by omega), if_pos h, if_pos h, show min i 64 = i by omega, show min (i + 1) 64 = i + 1 by omega, ← Vs_snoc]
    have hb : bad (lk (B + i + 1) false) 0 [0, 0, 0, 0] (Ls B (min i 16)) = decide (16 ≤ i) := by
      unfold bad
      rw [show (lk (B + i + 1) false).2.2.2.2.1 = false from rfl, Ls_odds, Ls_len, show decide ((lk (B + i + 1) false).2.2.2.1 < 0) = false from rfl, show stale 0 [0, 0, 0, 0] (lk (B + i + 1) false).2.2.2.2.2.2 = false from rfl]
      simp only [Bool.or_false, Bool.false_or]
      by_cases g : 16 ≤ i
      · rw [decide_eq_true g, decide_eq_true (by omega)]
      · rw [decide_eq_false g, decide_eq_false (by omega)]
    rw [hb]
    by_cases g : 16 ≤ i
    · rw [decide_eq_true g, cond_true, show vk i = 2 by unfold vk; rw [if_neg (by omega)], show min i 16 = min (i + 1) 16 by omega]
    · rw [decide_eq_false g, cond_false, show vk i = 1 by unfold vk; rw [if_pos (by omega)], show min i 16 = i by omega, show min (i + 1) 16 = i + 1 by omega, ← Ls_snoc]
  · rw [if_neg (by omega), if_neg h, if_neg h, show min i 16 = min (i + 1) 16 by omega, show min i 64 = min (i + 1) 64 by omega]

theorem p21_run (tx : Int) (w : Bool) : p21 FUEL (tx, 0, w, [1, 1, 1, 1]) = some (lk tx w) := rfl
theorem lk_ok (tx : Int) (w : Bool) : LkOk (lk tx w) := ⟨rfl, by show ([] : List En).length < _; decide⟩
theorem nums {B : Int} (h0 : 0 ≤ B) (h1 : B < 1152921504606846976) {i : Nat} (h : i < 1000) : IntKind.wrap .u64 (IntKind.wrap .u64 (B + IntKind.wrap .u64 ((i : Nat) : Int)) + 1) = B + i + 1 := by
  rw [wrapU (n := i) (by omega), wrapU' (n := B + i) (by omega) (by omega), wrapU' (by omega) (by omega)]

theorem bounds_loop (B m : Int) (h0 : 0 ≤ B) (h1 : B < 1152921504606846976) (K0 : Bool → Option Bool) (K1 : (Int × Int × (Int × Int) × Int × Int × Int × List Int × List En × List LK × List (Int × Int)) → Option Bool) :
    l5_1 FUEL K0 K1 FUEL (B, m, 0, (0, 0), 2, 1, 0, [0, 0, 0, 0], [], [], []) = K1 (B, m, (0, 0), 2, 1, 0, [0, 0, 0, 0], [], Ls B 16, Vs B 64) := by
  have key := for_loop (S := Unit) (L := fun n y => l5_1 FUEL K0 K1 n y) (step := fun F => s5_1 FUEL F K0 K1) (fun n x => rfl)
    (fun i _ => (B, m, (i : Int), ((0, 0) : Int × Int), 2, 1, 0, [0, 0, 0, 0], [], Ls B (min i 16), Vs B (min i 64))) 70 (fun _ _ => True) (fun _ _ => .inr ()) (fun _ => K1 (B, m, (0, 0), 2, 1, 0, [0, 0, 0, 0], [], Ls B 16, Vs B 64))
    (fun F i _ hi _ => by
      refine (condT (decide_eq_true (show ((i : Nat) : Int) < 70 by omega))).trans ?_
      simp only [nums h0 h1 (show i < 1000 by omega), p21_run]
      rw [vote_run _ (lk_ok _ _) 2 1 0 _ rfl [] _ (by rw [Ls_len]; omega) _ (by rw [Vs_len]; omega), vote_step B h0 i]
      simp only [j5_0, wrapNext i (by omega)]
      by_cases h64 : i < 64
      · rw [decide_eq_false (show ¬ (64 : Int) ≤ ((i : Nat) : Int) by omega), if_pos h64, if_pos h64]
        by_cases h16 : 16 ≤ i
        · rw [decide_eq_true (show (16 : Int) ≤ ((i : Nat) : Int) by omega), show vk i = 2 by unfold vk; rw [if_neg (by omega)]]; rfl
        · rw [decide_eq_false (show ¬ (16 : Int) ≤ ((i : Nat) : Int) by omega), show vk i = 1 by unfold vk; rw [if_pos (by omega)]]; rfl
      · rw [decide_eq_true (show (64 : Int) ≤ ((i : Nat) : Int) by omega), if_neg h64, if_neg h64, decide_eq_true (show (16 : Int) ≤ ((i : Nat) : Int) by omega)]; rfl)
    (fun F _ _ => rfl) (fun _ _ _ _ _ _ => trivial) 70 0 () FUEL rfl (by have := big; omega) trivial
  rw [forI_fold] at key
  exact key

theorem bounds_end (f : Nat) (B m x : Int) (h0 : 0 ≤ B) (h1 : B < 1152921504606846976) (hm : 0 ≤ m) (hx : Int.tmod x 1152921504606846976 = B)
    (E : ∀ (K0 : Bool → Option Bool) K1, l5_1 f K0 K1 f (B, m, 0, (0, 0), 2, 1, 0, [0, 0, 0, 0], [], [], []) = K1 (B, m, (0, 0), 2, 1, 0, [0, 0, 0, 0], [], Ls B 16, Vs B 64))
    (V : ∀ l : LK, LkOk l → p22b f (0, l, (0, 0), 2, 1, 0, [0, 0, 0, 0], [], Ls B 16, Vs B 64) = some ((voteS l 2 1 0 [0, 0, 0, 0] (Ls B 16) (Vs B 64)).1, (voteS l 2 1 0 [0, 0, 0, 0] (Ls B 16) (Vs B 64)).2.1, (0, 0), 2, 1, 0, [0, 0, 0, 0], [], (voteS l 2 1 0 [0, 0, 0, 0] (Ls B 16) (Vs B 64)).2.2.1, (voteS l 2 1 0 [0, 0, 0, 0] (Ls B 16) (Vs B 64)).2.2.2))
    (P : ∀ tx w, p21 f (tx, 0, w, [1, 1, 1, 1]) = some (lk tx w)) :
    j5_3 f (fun x => some x) (x, m, (0, 0), 2, 1, 0, [0, 0, 0, 0], [], [], []) = some true := by
  simp only [j5_3]
  rw [hx, E]
  simp only
  obtain ⟨k, hk⟩ : ∃ k : Nat, m % 64 = k := ⟨(m % 64).toNat, by omega⟩
  have hk64 : k < 64 := by omega
  rw [tmod_pos hm, hk, wrapU (n := k) (by omega), wrapU' (n := B + k) (by omega) (by omega), wrapU' (by omega) (by omega), P]
  simp only
  rw [V _ (lk_ok _ _)]
  have e : voteS (lk (B + k + 1) true) 2 1 0 [0, 0, 0, 0] (Ls B 16) (Vs B 64) = (vk k, 0, Ls B 16, Vs B 64) := by
    unfold voteS
    rw [lk_refused _ _ (by omega), if_neg (by decide), if_neg (fun c => c rfl), show (lk (B + k + 1) true).1 = B + k + 1 from rfl, Vs_voted, if_pos hk64, if_pos (by unfold vk; split <;> decide)]
  rw [e]
  simp only [j5_2]
  by_cases h16 : 16 ≤ k
  · rw [decide_eq_true (show (16 : Int) ≤ ((k : Nat) : Int) by omega), show vk k = 2 by unfold vk; rw [if_neg (by omega)]]; rfl
  · rw [decide_eq_false (show ¬ (16 : Int) ≤ ((k : Nat) : Int) by omega), show vk k = 1 by unfold vk; rw [if_pos (by omega)]]; rfl

theorem bounds_head (f : Nat) (x0 x1 : Int) (hx : -9223372036854775808 ≤ x1 ∧ x1 < 9223372036854775808) (A : p13 f () = some true) (O : p17 f (0, 0, 1, true) = some (.inr (0, (0, 0), 2, 1, 0, [0, 0, 0, 0], [], [], [])))
    (E : ∀ m, 0 ≤ m → j5_3 f (fun x => some x) (x0, m, (0, 0), 2, 1, 0, [0, 0, 0, 0], [], [], []) = some true) : p5 f (x0, x1) = some true := by
  simp only [p5, p16, A, O]
  by_cases h : x1 < 0
  · rw [decide_eq_true h, wrapI (n := x1 + 1) (by omega) (by omega), wrapI (by omega) (by omega)]
    exact E _ (by omega)
  · rw [decide_eq_false h]
    exact E _ (by omega)

theorem storeBounds (x0 : Int) (w0 : Ty.wr (.int .u64) x0) (x1 : Int) (w1 : Ty.wr (.int .i64) x1) : p5 FUEL (x0, x1) = some true := by
  have h0 := wf_u64 (Ty.wr.wf (.int .u64) w0)
  have h1 := wf_i64 (Ty.wr.wf (.int .i64) w1)
  have hB : Int.tmod x0 1152921504606846976 = x0 % 1152921504606846976 := tmod_pos h0.1
  refine bounds_head FUEL x0 x1 h1 alive_run (open_run 1 (by decide)) fun m hm => ?_
  exact bounds_end FUEL (x0 % 1152921504606846976) m x0 (by omega) (by omega) hm hB (fun K0 K1 => bounds_loop _ m (by omega) (by omega) K0 K1)
    (fun l hl => vote_run l hl 2 1 0 _ rfl [] _ (by rw [Ls_len]; omega) _ (by rw [Vs_len]; omega)) p21_run
end Go.Am.Ytkfmnkpajjnpoaa
