/- The reader of a bucket, told plainly: its map of answers as a function; top, which, Add, Result. -/
import Derived.Test.YtiecnmmffplgcaaWalk2
import Derived.Test.YtiecnmmffplgcaaAmZH
namespace Go.Am.Ytiecnmmffplgcaa

theorem condT {α : Type} {c : Bool} {x y : α} (h : c = true) : (bif c then x else y) = x := by rw [h]; rfl
theorem condF {α : Type} {c : Bool} {x y : α} (h : c = false) : (bif c then x else y) = y := by rw [h]; rfl

abbrev LE := List (ByteArray × ByteArray)
abbrev An := Int × (Int × (Int × LE))
abbrev KT : Ty := .int .i64
abbrev VT : Ty := .pair (.int .u32) (.pair (.int .u32) (.pair (.int .u32) (.slice (.pair .str .str))))
theorem same (k k' : KT.den) : Ty.eqB KT k k' = decide (k = k') := rfl

def goodA (a : An) : Prop := 0 ≤ a.2.2.1 ∧ a.2.2.2.length * 32 ≤ 140737488355328

structure Ok (m : List (Int × An)) (bs : List Nat) (clk : Nat) : Prop where
  whole : Whole (K := KT) (V := VT) (m, bs, clk)
  keys : (m.map (·.1)).Nodup
  among : ∀ e ∈ m, e.1 = 0 ∨ e.1 = 1 ∨ e.1 = 2 ∨ e.1 = 3
  good : ∀ e ∈ m, goodA e.2

theorem Ok.nil : Ok [] [] 0 := ⟨whole_nil, List.nodup_nil, fun _ h => (by cases h), fun _ h => (by cases h)⟩

/-- What has been heard. -/
def hd (m : List (Int × An)) (k : Int) : Option An := mfind KT VT k m

def ks4 : List Int := [0, 1, 2, 3]

theorem Ok.perm {m : List (Int × An)} {bs : List Nat} {clk : Nat} (h : Ok m bs clk) : m.Perm (ks4.filterMap fun k => (hd m k).map fun v => (k, v)) :=
  perm_keys (K := KT) (V := VT) same m ks4 h.keys (by decide) fun e he => by
    have := h.among e he
    simp only [ks4, List.mem_cons, List.not_mem_nil, or_false]
    exact this

def topF (v : Int) (e : Int × An) : Int := if v < e.2.2.2.1 then e.2.2.2.1 else v
def top (h : Int → Option An) : Int := ks4.foldl (fun v k => match h k with | some a => topF v (k, a) | none => v) 0

theorem topF_comm (a b : Int × An) (s : Int) : topF (topF s a) b = topF (topF s b) a := by
  unfold topF
  repeat' split
  all_goals omega

theorem foldl_keys {S : Type} (g : S → Int × An → S) (h : Int → Option An) : ∀ (ks : List Int) (s : S), (ks.filterMap fun k => (h k).map fun v => (k, v)).foldl g s = ks.foldl (fun v k => match h k with | some a => g v (k, a) | none => v) s
  | [], s => rfl
  | k :: ks, s => by
    rw [List.filterMap_cons, List.foldl_cons]
    cases hk : h k with
    | none => exact foldl_keys g h ks s
    | some a => exact foldl_keys g h ks (g s (k, a))

theorem entP_at {R A : Type} {m : List A} {bs seen : List Nat} {b : Nat} {e : A} {k : A → Option R} (h : mstamp m bs b = some e) : entP m bs (b :: seen) k = k e := by
  show (match mstamp m bs b with | some e => k e | none => none) = _
  rw [h]

theorem top_run {m : List (Int × An)} {bs : List Nat} {clk : Nat} (o : Ok m bs clk) (b r : Int) : p22 FUEL (b, r, m, bs, clk) = some (top (hd m), b, r, m, bs, clk) := by
  have hlen : m.length ≤ 4 := by
    have := o.perm.length_eq
    rw [this]
    exact Nat.le_trans (List.length_filterMap_le _ _) (by decide)
  have hg : (Nat.beq clk clk && allLt clk bs) = true := by rw [Nat.beq_refl, allLt_of o.whole.below]; rfl
  have key := range_all (S := Int) (R := Int × Int × Int × List (Int × An) × List Nat × Nat) m bs o.whole.len o.whole.nodup (fun _ => True) topF (fun _ _ _ _ => trivial) (fun a _ b _ s => topF_comm a b s)
    (fun n v seen => l22_1 FUEL (fun (x54, x55, x56, x57, x58, x59) => (some (x54, x55, x56, x57, x58, x59))) n (v, b, r, m, bs, clk, clk, seen)) (fun v => some (v, b, r, m, bs, clk))
    (fun n s seen _ => ⟨_, condT hg, fun b' e h1 h2 => by
      show (bif Nat.beq clk clk then entP m bs (b' :: seen) _ else none) = _
      exact (condT (Nat.beq_refl clk)).trans ((entP_at (seen := seen) h1).trans rfl)⟩) 0 trivial FUEL (Nat.lt_of_le_of_lt hlen (by unfold FUEL; decide))
  refine Eq.trans key ?_
  rw [o.perm.foldl_eq' (fun a _ b _ s => topF_comm a b s) 0, foldl_keys]; rfl

/-! ### which -/
def whichOf (p : Int → Bool) : List Int := ks4.filter p
theorem ks4_filter (p : Int → Bool) : foldI (fun i (s : List Int) => bif p (i : Int) then s ++ [(i : Int)] else s) 4 0 [] = whichOf p := by
  simp only [foldI, whichOf, ks4, List.filter]
  have e0 : ((0 : Nat) : Int) = 0 := rfl
  have e1 : ((0 + 1 : Nat) : Int) = 1 := rfl
  have e2 : ((0 + 1 + 1 : Nat) : Int) = 2 := rfl
  have e3 : ((0 + 1 + 1 + 1 : Nat) : Int) = 3 := rfl
  rw [e0, e1, e2, e3]
  cases p 0 <;> cases p 1 <;> cases p 2 <;> cases p 3 <;> rfl

def gap (h : Int → Option An) (k : Int) : Bool := (h k).isNone
def firstly (h : Int → Option An) (v : Int) (k : Int) : Bool := match h k with | some a => decide (a.2.2.1 = v) | none => false
def behind (h : Int → Option An) (v : Int) (k : Int) : Bool := match h k with | some a => decide (a.2.2.1 < v) | none => false

theorem gap_run (m : List (Int × An)) (bs : List Nat) (clk : Nat) (b r : Int) : p23b FUEL (b, r, m, bs, clk) = some (b, r, m, bs, clk, whichOf (gap (hd m))) := by
  have key := for_loop (S := List Int) (R := Int × Int × List (Int × An) × List Nat × Nat × List Int) (L := fun n x => l23b_0 FUEL (fun (x16, x17, x18, x19, x20, x21) => (some (x16, x17, x18, x19, x20, x21))) n x)
    (step := fun F => s23b_0 FUEL F (fun (x16, x17, x18, x19, x20, x21) => (some (x16, x17, x18, x19, x20, x21)))) (fun n x => rfl)
    (fun i s => ((i : Int), b, r, m, bs, clk, s)) 4 (fun i s => s.length ≤ i) (fun i s => .inr (bif gap (hd m) (i : Int) then s ++ [(i : Int)] else s)) (fun s => some (b, r, m, bs, clk, s))
    (fun F i s hi hs => by
      refine (condT (decide_eq_true (show ((i : Nat) : Int) < 4 by omega))).trans ?_
      simp only [p25, gap, hd, wrapNext i (by omega)]
      cases mfind KT VT (i : Int) m with
      | some a => rfl
      | none =>
        simp only [Option.isSome_none, Bool.not_false, cond_true, Option.isNone_none, List.length_singleton]
        rw [if_pos (by omega)])
    (fun F s hs => rfl)
    (fun i s s' hi hs h => by
      simp only [Sum.inr.injEq] at h
      subst h
      cases gap (hd m) (i : Int)
      · exact Nat.le_succ_of_le hs
      · simp; omega) 4 0 [] FUEL rfl (by unfold FUEL; decide) (Nat.le_refl 0)
  rw [forI_fold, ks4_filter] at key
  exact key
theorem behind_run (m : List (Int × An)) (bs : List Nat) (clk : Nat) (b r : Int) (v : Int) : p23c FUEL (b, r, m, bs, clk, v) = some (b, r, m, bs, clk, v, whichOf (behind (hd m) v)) := by
  have key := for_loop (S := List Int) (R := Int × Int × List (Int × An) × List Nat × Nat × Int × List Int) (L := fun n x => l23c_0 FUEL (fun (x18, x19, x20, x21, x22, x23, x24) => (some (x18, x19, x20, x21, x22, x23, x24))) n x)
    (step := fun F => s23c_0 FUEL F (fun (x18, x19, x20, x21, x22, x23, x24) => (some (x18, x19, x20, x21, x22, x23, x24)))) (fun n x => rfl)
    (fun i s => ((i : Int), b, r, m, bs, clk, v, s)) 4 (fun i s => s.length ≤ i) (fun i s => .inr (bif behind (hd m) v (i : Int) then s ++ [(i : Int)] else s)) (fun s => some (b, r, m, bs, clk, v, s))
    (fun F i s hi hs => by
      refine (condT (decide_eq_true (show ((i : Nat) : Int) < 4 by omega))).trans ?_
      simp only [p27, behind, hd, wrapNext i (by omega)]
      cases mfind KT VT (i : Int) m with
      | none => rfl
      | some a =>
        simp only [Option.isSome_some, cond_true, Option.getD_some]
        cases decide (a.2.2.1 < v) with
        | false => rfl
        | true =>
          simp only [cond_true, List.length_singleton]
          rw [if_pos (by omega)])
    (fun F s hs => rfl)
    (fun i s s' hi hs h => by
      simp only [Sum.inr.injEq] at h
      subst h
      cases behind (hd m) v (i : Int)
      · exact Nat.le_succ_of_le hs
      · simp; omega) 4 0 [] FUEL rfl (by unfold FUEL; decide) (Nat.le_refl 0)
  rw [forI_fold, ks4_filter] at key
  exact key
theorem first_run (m : List (Int × An)) (bs : List Nat) (clk : Nat) (b r : Int) (q v : Int) (w : Bool) (l : List Int) : p23 FUEL (b, r, m, bs, clk, q, v, w, l) = some (b, r, m, bs, clk, q, v, w, l, whichOf (firstly (hd m) v)) := by
  have key := for_loop (S := List Int) (R := Int × Int × List (Int × An) × List Nat × Nat × Int × Int × Bool × List Int × List Int) (L := fun n x => l23_0 FUEL (fun (x24, x25, x26, x27, x28, x29, x30, x31, x32, x33) => (some (x24, x25, x26, x27, x28, x29, x30, x31, x32, x33))) n x)
    (step := fun F => s23_0 FUEL F (fun (x24, x25, x26, x27, x28, x29, x30, x31, x32, x33) => (some (x24, x25, x26, x27, x28, x29, x30, x31, x32, x33)))) (fun n x => rfl)
    (fun i s => ((i : Int), b, r, m, bs, clk, q, v, w, l, s)) 4 (fun i s => s.length ≤ i) (fun i s => .inr (bif firstly (hd m) v (i : Int) then s ++ [(i : Int)] else s)) (fun s => some (b, r, m, bs, clk, q, v, w, l, s))
    (fun F i s hi hs => by
      refine (condT (decide_eq_true (show ((i : Nat) : Int) < 4 by omega))).trans ?_
      simp only [p24, firstly, hd, wrapNext i (by omega)]
      cases mfind KT VT (i : Int) m with
      | none => rfl
      | some a =>
        simp only [Option.isSome_some, cond_true, Option.getD_some]
        cases decide (a.2.2.1 = v) with
        | false => rfl
        | true =>
          simp only [cond_true, List.length_singleton]
          rw [if_pos (by omega)])
    (fun F s hs => rfl)
    (fun i s s' hi hs h => by
      simp only [Sum.inr.injEq] at h
      subst h
      cases firstly (hd m) v (i : Int)
      · exact Nat.le_succ_of_le hs
      · simp; omega) 4 0 [] FUEL rfl (by unfold FUEL; decide) (Nat.le_refl 0)
  rw [forI_fold, ks4_filter] at key
  exact key

theorem missing_run (m : List (Int × An)) (bs : List Nat) (clk : Nat) (b r : Int) : p15 FUEL (b, r, m, bs, clk) = some (b, r, m, bs, clk, whichOf (gap (hd m))) := by
  unfold p15
  simp only [gap_run]
theorem stale_run {m : List (Int × An)} {bs : List Nat} {clk : Nat} (o : Ok m bs clk) (b r : Int) : p19b FUEL (b, r, m, bs, clk) = some (b, r, m, bs, clk, whichOf (behind (hd m) (top (hd m)))) := by
  unfold p19b
  simp only [top_run o, behind_run]

/-! ### Clone, Add -/
theorem clone_run {x : LE} (h : x.length * 32 ≤ 140737488355328) : p21 FUEL x = some x := by
  have e : ∀ k : LE → Option LE, j21_0 FUEL k x = k x := fun k => by
    show (if (0 + x.length) * 32 ≤ 140737488355328 then k ([] ++ x) else none) = _
    rw [Nat.zero_add, if_pos h]; rfl
  show (bif List.isEmpty x then fork (some []) (j21_0 FUEL (fun x3 => some x3) x) else j21_0 FUEL (fun x4 => some x4) x) = _
  rw [e]
  cases x with
  | nil => exact fork_self _
  | cons a l => rfl
theorem cloneb_run {x : LE} (h : x.length * 32 ≤ 140737488355328) : p21b FUEL x = some x := (show p21b FUEL x = p21 FUEL x from rfl).trans (clone_run h)

def put (h : Int → Option An) (k : Int) (a : An) : Int → Option An := fun j => if j = k then some a else h j

/-- What Add answers, and what has been heard then. -/
def addE (h : Int → Option An) (r : Int) (k : Int) (a : An) : Int :=
  if k < 0 ∨ 4 ≤ k ∨ a.2.1 = 0 then 1 else if a.1 ≠ r then 161 else if (h k).isSome then 162 else 0
def addH (h : Int → Option An) (r : Int) (k : Int) (a : An) : Int → Option An := if addE h r k a = 0 then put h k a else h

theorem Ok.add {m : List (Int × An)} {bs : List Nat} {clk : Nat} (o : Ok m bs clk) {k : Int} {a : An} (hk : 0 ≤ k ∧ k < 4) (hn : hd m k = none) (ha : goodA a) :
    Ok (mput KT VT k a (m, bs, clk)).1 (mput KT VT k a (m, bs, clk)).2.1 (mput KT VT k a (m, bs, clk)).2.2 ∧ hd (mput KT VT k a (m, bs, clk)).1 = put (hd m) k a := by
  refine ⟨⟨whole_mput (K := KT) (V := VT) k a (m, bs, clk) o.whole, ?_, ?_, ?_⟩, ?_⟩
  · rw [keys_mput (K := KT) (V := VT) same]
    unfold kadd
    split
    · exact o.keys
    · rename_i hc
      exact List.nodup_append.2 ⟨o.keys, by simp, fun x hx y hy => by simp at hy; subst hy; exact fun g => hc (g ▸ hx)⟩
  · intro e he
    have hm : e.1 ∈ (mput KT VT k a (m, bs, clk)).1.map (·.1) := List.mem_map.2 ⟨e, he, rfl⟩
    rw [keys_mput (K := KT) (V := VT) same] at hm
    unfold kadd at hm
    have old : e.1 ∈ m.map (·.1) → e.1 = 0 ∨ e.1 = 1 ∨ e.1 = 2 ∨ e.1 = 3 := fun h => by
      obtain ⟨e', h1, h2⟩ := List.mem_map.1 h
      rw [← h2]; exact o.among e' h1
    split at hm
    · exact old hm
    · rcases List.mem_append.1 hm with h | h
      · exact old h
      · simp only [List.mem_singleton] at h
        have h : e.1 = k := h
        omega
  · intro e he
    unfold mput at he
    split at he
    · rename_i i hi
      rcases List.mem_or_eq_of_mem_set he with h | h
      · exact o.good e h
      · rw [h]; exact ha
    · rcases List.mem_append.1 he with h | h
      · exact o.good e h
      · simp only [List.mem_singleton] at h
        rw [h]; exact ha
  · funext j
    unfold hd put
    rw [mfind_mput (K := KT) (V := VT) same]

theorem add_run {m : List (Int × An)} {bs : List Nat} {clk : Nat} (o : Ok m bs clk) (b r k : Int) {a : An} (ha : goodA a) :
    ∃ m' bs' clk', p10 FUEL (k, a, b, r, m, bs, clk) = some (addE (hd m) r k a, b, r, m', bs', clk') ∧ Ok m' bs' clk' ∧ hd m' = addH (hd m) r k a := by
  have E : p10 FUEL (k, a, b, r, m, bs, clk) = (show Option (Int × Int × Int × List (Int × An) × List Nat × Nat) from bif decide (k < 0) then some (1, b, r, m, bs, clk) else bif decide (4 ≤ k) then some (1, b, r, m, bs, clk) else bif decide (a.2.1 = 0) then some (1, b, r, m, bs, clk) else
      bif !decide (a.1 = r) then some (161, b, r, m, bs, clk) else bif (mfind KT VT k m).isSome then some (162, b, r, m, bs, clk) else
      match p21 FUEL a.2.2.2 with
      | some z => some (0, b, r, ((mput KT VT k (a.1, (a.2.1, (a.2.2.1, z))) (m, bs, clk)).1 : List (Int × An)), (mput KT VT k (a.1, (a.2.1, (a.2.2.1, z))) (m, bs, clk)).2.1, (mput KT VT k (a.1, (a.2.1, (a.2.2.1, z))) (m, bs, clk)).2.2)
      | none => none) := by kernel_rfl
  rw [E]
  have one : k < 0 ∨ 4 ≤ k ∨ a.2.1 = 0 → addE (hd m) r k a = 1 := fun h => if_pos h
  have no1 : ∀ {n : Int}, addE (hd m) r k a = n → n ≠ 0 → addH (hd m) r k a = hd m := fun e hn => by unfold addH; rw [if_neg (by rw [e]; exact hn)]
  by_cases h1 : k < 0
  · have e := one (.inl h1)
    exact ⟨m, bs, clk, by rw [decide_eq_true h1, e]; rfl, o, (no1 e (by decide)).symm⟩
  by_cases h2 : 4 ≤ k
  · have e := one (.inr (.inl h2))
    exact ⟨m, bs, clk, by rw [decide_eq_false h1, decide_eq_true h2, e]; rfl, o, (no1 e (by decide)).symm⟩
  by_cases h3 : a.2.1 = 0
  · have e := one (.inr (.inr h3))
    exact ⟨m, bs, clk, by rw [decide_eq_false h1, decide_eq_false h2, decide_eq_true h3, e]; rfl, o, (no1 e (by decide)).symm⟩
  have hno : ¬ (k < 0 ∨ 4 ≤ k ∨ a.2.1 = 0) := fun h => h.elim h1 fun h => h.elim h2 h3
  rw [decide_eq_false h1, decide_eq_false h2, decide_eq_false h3]
  by_cases h4 : a.1 = r
  · rw [decide_eq_true h4]
    cases h5 : mfind KT VT k m with
    | some a' =>
      have h5' : hd m k = some a' := h5
      have e : addE (hd m) r k a = 162 := by unfold addE; rw [if_neg hno, if_neg (fun h => h h4), h5']; rfl
      exact ⟨m, bs, clk, by rw [e]; rfl, o, (no1 e (by decide)).symm⟩
    | none =>
      have h5' : hd m k = none := h5
      obtain ⟨g1, g2⟩ := o.add (k := k) (a := a) ⟨by omega, by omega⟩ h5' ha
      have e : addE (hd m) r k a = 0 := by unfold addE; rw [if_neg hno, if_neg (fun h => h h4), h5']; rfl
      refine ⟨_, _, _, ?_, g1, ?_⟩
      · rw [clone_run ha.2, e]; rfl
      · rw [g2]; unfold addH; rw [if_pos e]
  · have e : addE (hd m) r k a = 161 := by unfold addE; rw [if_neg hno, if_pos h4]
    rw [decide_eq_false h4]
    exact ⟨m, bs, clk, by rw [e]; rfl, o, (no1 e (by decide)).symm⟩
theorem addb_run {m : List (Int × An)} {bs : List Nat} {clk : Nat} (o : Ok m bs clk) (b r k : Int) {a : An} (ha : goodA a) :
    ∃ m' bs' clk', p10b FUEL (k, a, b, r, m, bs, clk) = some (addE (hd m) r k a, b, r, m', bs', clk') ∧ Ok m' bs' clk' ∧ hd m' = addH (hd m) r k a := add_run o b r k ha
end Go.Am.Ytiecnmmffplgcaa
