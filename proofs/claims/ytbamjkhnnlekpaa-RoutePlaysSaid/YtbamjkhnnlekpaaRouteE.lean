/- Plain laws of the printed functions of routing: messages that are alike; a lookup is answered alike. -/
import Derived.Test.YtbamjkhnnlekpaaRouteD
namespace Go.Am.Ytbamjkhnnlekpaa
abbrev Ent := ByteArray × ByteArray
abbrev ItemT := Int × (Int × (Bool × (List Ent × List Int)))
abbrev LockT := Int × (List Int × ItemT)
abbrev CopyT := Int × (Int × (Int × (List Ent × (List LockT × (List Int × List (Int × Int))))))
abbrev TxT := Int × (Int × (List Int × List ItemT))
abbrev Msg := Int × (Int × (Int × ((Int × (Int × (Int × Int))) × ((Int × Int) × ((Bool × ((Int × Int) × ByteArray)) × (ByteArray × (TxT × (Int × (Int × (Int × (Int × (Int × (Int × (Int × (Int × ((Int × (Int × (Int × List Ent))) × (CopyT × ((Int × Int) × (List CopyT × ((Int × Int) × (Int × List Peer)))))))))))))))))))))

/-- An answer. -/
def M (k fr to id : Int) (pos : Int × Int) (hops : Int) (peers : List Peer) : Msg :=
  (k, (fr, (to, ((0, (0, (0, 0))), ((0, 0), ((false, ((0, 0), ByteArray.empty)), (ByteArray.empty, ((0, (0, ([0, 0, 0], []))), (id, (0, (0, (0, (0, (0, (0, (0, ((0, (0, (0, []))), ((0, (0, (0, ([], ([], ([0, 0, 0, 0], [])))))), ((0, 0), ([], (pos, (hops, peers))))))))))))))))))))))

theorem l40_nil (fu n : Nat) (k0 : Bool → Option Bool) (k1 : Unit → Option Bool) : l40_0 fu k0 k1 (n + 1) ([], [], 0) = k1 () := rfl
theorem l38_nil (fu n : Nat) (k0 : Bool → Option Bool) (k1 : Unit → Option Bool) (a b : Int) (c : List Int) : l38_0 fu k0 k1 (n + 1) (0, (a, (b, (c, []))), (a, (b, (c, [])))) = k1 () := rfl
theorem p40_nil : p40 FUEL ([], []) = some true := by
  simp only [p40, List.length_nil, decide_true, Bool.not_true, cond_false]
  rfl
theorem p38_nil : p38 FUEL ((0, (0, ([0, 0, 0], []))), (0, (0, ([0, 0, 0], [])))) = some true := by
  simp only [p38, List.length_nil, decide_true, Bool.not_true, cond_false]
  rfl
theorem p39_nil : p39 FUEL ((0, (0, (0, ([], ([], ([0, 0, 0, 0], [])))))), (0, (0, (0, ([], ([], ([0, 0, 0, 0], []))))))) = some true := by
  simp only [p39, p40_nil, List.length_nil, decide_true, Bool.not_true, cond_false]
  rfl

theorem l30_0_nil {R : Type} (fu n : Nat) (k0 : Bool → Option R) (k1 : Msg × Msg → Option R) (k fr to id : Int) (pos : Int × Int) (hops : Int) (peers : List Peer) : l30_0 fu k0 k1 (n + 1) (0, M k fr to id pos hops peers, M k fr to id pos hops peers) = k1 (M k fr to id pos hops peers, M k fr to id pos hops peers) := rfl
theorem l30_1_nil {R : Type} (fu n : Nat) (k0 : Bool → Option R) (k1 : Msg × Msg → Option R) (k fr to id : Int) (pos : Int × Int) (hops : Int) : l30_1 fu k0 k1 (n + 1) (0, M k fr to id pos hops [], M k fr to id pos hops []) = k1 (M k fr to id pos hops [], M k fr to id pos hops []) := rfl
theorem l30_1_one {R : Type} (fu n : Nat) (k0 : Bool → Option R) (k1 : Msg × Msg → Option R) (k fr to id : Int) (pos : Int × Int) (hops : Int) (a : Peer) : l30_1 fu k0 k1 (n + 2) (0, M k fr to id pos hops [a], M k fr to id pos hops [a]) = k1 (M k fr to id pos hops [a], M k fr to id pos hops [a]) := by
  show s30_1 fu (l30_1 fu k0 k1 (n + 1)) k0 k1 (0, M k fr to id pos hops [a], M k fr to id pos hops [a]) = _
  simp only [s30_1, M, List.length_cons, List.length_nil, Int.toNat_zero, List.getElem?_cons_zero, eqPeer, Bool.not_true, cond_false]
  rfl
theorem eq2u (a : Int × Int) : Ty.eqB (.pair (.int .u64) (.int .u64)) a a = true := eqB_self (.pair (.int .u64) (.int .u64)) rfl a
theorem z1 (a : Int × (Int × (Int × Int))) : Ty.eqB (.pair (.int .u64) (.pair (.int .i64) (.pair (.int .i64) (.int .u32)))) a a = true := eqB_self (.pair (.int .u64) (.pair (.int .i64) (.pair (.int .i64) (.int .u32)))) rfl a
theorem z2 (a : Int × Int) : Ty.eqB (.pair (.int .u32) (.int .u8)) a a = true := eqB_self (.pair (.int .u32) (.int .u8)) rfl a
theorem z3 (a : Bool × ((Int × Int) × ByteArray)) : Ty.eqB (.pair .bool (.pair (.pair (.int .u32) (.int .u8)) .str)) a a = true := eqB_self (.pair .bool (.pair (.pair (.int .u32) (.int .u8)) .str)) rfl a
theorem z4 (a : ByteArray) : strEq a a = true := eqB_self .str rfl a
theorem z5 (a : Int × Int) : Ty.eqB (.pair (.int .i64) (.int .i64)) a a = true := eqB_self (.pair (.int .i64) (.int .i64)) rfl a
theorem p30_self (k fr to id : Int) (pos : Int × Int) (hops : Int) (peers : List Peer) (hp : peers = [] ∨ ∃ a, peers = [a]) : p30 FUEL (M k fr to id pos hops peers, M k fr to id pos hops peers) = some true := by
  have e38 : p38 FUEL ((M k fr to id pos hops peers).2.2.2.2.2.2.2.1, (M k fr to id pos hops peers).2.2.2.2.2.2.2.1) = some true := p38_nil
  have e39 : p39 FUEL ((M k fr to id pos hops peers).2.2.2.2.2.2.2.2.2.2.2.2.2.2.2.2.2.1, (M k fr to id pos hops peers).2.2.2.2.2.2.2.2.2.2.2.2.2.2.2.2.2.1) = some true := p39_nil
  have e40 : p40 FUEL ((M k fr to id pos hops peers).2.2.2.2.2.2.2.2.2.2.2.2.2.2.2.2.1.2.2.2, (M k fr to id pos hops peers).2.2.2.2.2.2.2.2.2.2.2.2.2.2.2.2.1.2.2.2) = some true := p40_nil
  obtain ⟨n, hn⟩ : ∃ n, FUEL = n + 2 := ⟨_, rfl⟩
  simp only [p30]
  simp only [e38, e39, e40, Bool.not_true, cond_false, decide_true]
  rw [hn, l30_0_nil]
  rcases hp with rfl | ⟨a, rfl⟩
  · rw [l30_1_nil]
    simp only [decide_true, cond_true, eq2u, j30_3, j30_2, z1, z2, z3, z4, z5]
  · rw [l30_1_one]
    simp only [decide_true, cond_true, eq2u, j30_3, j30_2, z1, z2, z3, z4, z5]

/-- What a lookup is answered: kind, from, to, id, position, hops, peers, error. -/
structure Ans where
  k : Int
  fr : Int
  to : Int
  id : Int
  pos : Int × Int
  hops : Int
  peers : List Peer
  err : Int
def Ans.no (e : Int) : Ans := ⟨0, 0, 0, 0, (0, 0), 0, [], e⟩
def answer (m : Msg) (t : Tab) : Ans :=
  bif !decide (m.1 = 21) then .no 133 else bif !decide (m.2.2.1 = t.1.1) then .no 133 else bif !okN m.2.1 then .no 133 else bif !okN m.2.2.2.2.2.2.2.2.2.2.2.2.2.2.2.2.2.2.2.2.2.1 then .no 133 else
    bif !decide ((next t m.2.2.2.2.2.2.2.2.2.2.2.2.2.2.2.2.2.2.2.2.1).2.2 = 0) then .no (next t m.2.2.2.2.2.2.2.2.2.2.2.2.2.2.2.2.2.2.2.2.1).2.2 else
      bif (next t m.2.2.2.2.2.2.2.2.2.2.2.2.2.2.2.2.2.2.2.2.1).2.1 then ⟨22, t.1.1, IntKind.wrap .i64 (Int.tmod m.2.2.2.2.2.2.2.2.1 256), m.2.2.2.2.2.2.2.2.1, m.2.2.2.2.2.2.2.2.2.2.2.2.2.2.2.2.2.2.2.2.1, m.2.2.2.2.2.2.2.2.2.2.2.2.2.2.2.2.2.2.2.2.2.1, [(next t m.2.2.2.2.2.2.2.2.2.2.2.2.2.2.2.2.2.2.2.2.1).1], 0⟩ else
        bif decide (8 ≤ m.2.2.2.2.2.2.2.2.2.2.2.2.2.2.2.2.2.2.2.2.2.1) then .no 132 else
          ⟨21, t.1.1, (next t m.2.2.2.2.2.2.2.2.2.2.2.2.2.2.2.2.2.2.2.2.1).1.1, m.2.2.2.2.2.2.2.2.1, m.2.2.2.2.2.2.2.2.2.2.2.2.2.2.2.2.2.2.2.2.1, IntKind.wrap .i64 (m.2.2.2.2.2.2.2.2.2.2.2.2.2.2.2.2.2.2.2.2.2.1 + 1), [], 0⟩
theorem answer_peers (m : Msg) (t : Tab) : (answer m t).peers = [] ∨ ∃ a, (answer m t).peers = [a] := by
  unfold answer
  cases decide (m.1 = 21) with
  | false => exact .inl rfl
  | true =>
  cases decide (m.2.2.1 = t.1.1) with
  | false => exact .inl rfl
  | true =>
  cases okN m.2.1 with
  | false => exact .inl rfl
  | true =>
  cases okN m.2.2.2.2.2.2.2.2.2.2.2.2.2.2.2.2.2.2.2.2.2.1 with
  | false => exact .inl rfl
  | true =>
  simp only [Bool.not_true, cond_false]
  cases decide ((next t m.2.2.2.2.2.2.2.2.2.2.2.2.2.2.2.2.2.2.2.2.1).2.2 = 0) with
  | false => exact .inl rfl
  | true =>
  cases (next t m.2.2.2.2.2.2.2.2.2.2.2.2.2.2.2.2.2.2.2.2.1).2.1 with
  | true => exact .inr ⟨_, rfl⟩
  | false =>
  cases decide (8 ≤ m.2.2.2.2.2.2.2.2.2.2.2.2.2.2.2.2.2.2.2.2.2.1) with
  | true => exact .inl rfl
  | false => exact .inl rfl

theorem p12_eq (m : Msg) (t : Tab) (ht : t.2.2.2.length ≤ 4) : p12 FUEL (m, t) = some ((answer m t).k, (answer m t).fr, (answer m t).to, (0, (0, (0, 0))), (0, 0), (false, ((0, 0), ByteArray.empty)), ByteArray.empty, 0, 0, [0, 0, 0], (answer m t).id, 0, 0, 0, 0, 0, 0, 0, 0, 0, 0, 0, 0, 0, [0, 0, 0, 0], (0, 0), (answer m t).pos, (answer m t).hops, (answer m t).err, t, (answer m t).peers) := by
  simp only [p12, p24_eq, p19_eq _ t ht, answer]
  cases decide (m.1 = 21) with
  | false => rfl
  | true =>
  cases decide (m.2.2.1 = t.1.1) with
  | false => rfl
  | true =>
  cases okN m.2.1 with
  | false => rfl
  | true =>
  cases okN m.2.2.2.2.2.2.2.2.2.2.2.2.2.2.2.2.2.2.2.2.2.1 with
  | false => rfl
  | true =>
  simp only [Bool.not_true, cond_false]
  cases decide ((next t m.2.2.2.2.2.2.2.2.2.2.2.2.2.2.2.2.2.2.2.2.1).2.2 = 0) with
  | false => rfl
  | true =>
  cases (next t m.2.2.2.2.2.2.2.2.2.2.2.2.2.2.2.2.2.2.2.2.1).2.1 with
  | true => rfl
  | false =>
  cases decide (8 ≤ m.2.2.2.2.2.2.2.2.2.2.2.2.2.2.2.2.2.2.2.2.2.1) with
  | true => rfl
  | false => rfl
theorem p29_eq (m : Msg) (t : Tab) (ht : t.2.2.2.length ≤ 4) : p29 FUEL (m, t.1, t.2.1, t.2.2.1, t.2.2.2) = some ((answer m t).k, (answer m t).fr, (answer m t).to, (0, (0, (0, 0))), (0, 0), (false, ((0, 0), ByteArray.empty)), ByteArray.empty, 0, 0, [0, 0, 0], (answer m t).id, 0, 0, 0, 0, 0, 0, 0, 0, 0, 0, 0, 0, 0, [0, 0, 0, 0], (0, 0), (answer m t).pos, (answer m t).hops, (answer m t).err, t.1, t.2.1, t.2.2.1, t.2.2.2, (answer m t).peers) := by
  simp only [p29, p26_eq, p28_eq _ t ht, answer]
  cases decide (m.1 = 21) with
  | false => rfl
  | true =>
  cases decide (m.2.2.1 = t.1.1) with
  | false => rfl
  | true =>
  cases okN m.2.1 with
  | false => rfl
  | true =>
  cases okN m.2.2.2.2.2.2.2.2.2.2.2.2.2.2.2.2.2.2.2.2.2.1 with
  | false => rfl
  | true =>
  simp only [Bool.not_true, cond_false]
  cases decide ((next t m.2.2.2.2.2.2.2.2.2.2.2.2.2.2.2.2.2.2.2.2.1).2.2 = 0) with
  | false => rfl
  | true =>
  cases (next t m.2.2.2.2.2.2.2.2.2.2.2.2.2.2.2.2.2.2.2.2.1).2.1 with
  | true => rfl
  | false =>
  cases decide (8 ≤ m.2.2.2.2.2.2.2.2.2.2.2.2.2.2.2.2.2.2.2.2.2.1) with
  | true => rfl
  | false => rfl
end Go.Am.Ytbamjkhnnlekpaa
