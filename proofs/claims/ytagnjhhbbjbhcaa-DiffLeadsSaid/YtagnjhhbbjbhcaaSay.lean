/- The closure that hands a change on. -/
import Derived.Test.YtagnjhhbbjbhcaaRange
import Derived.Test.YtagnjhhbbjbhcaaSameC
namespace Go.Proofs.Ytagnjhhbbjbhcaa
open Go.RowKit

attribute [local go_sem] Oper.semAt_some

theorem room_none {F : Fence} (hd : F.depth = none) (k : Nat) : F.room k := fun d h => by rw [hd] at h; cases h
theorem RoundIn.anyDepth {F : Fence} (hd : F.depth = none) {m m' : Nat} {P : Program} {l : Nat} {f : FuncId} {tmps : Array Value} {assign body : Code} {w : World} {R : Ending → World → Prop}
    (h : RoundIn F m P l f tmps assign body w R) : RoundIn F m' P l f tmps assign body w R := ⟨h.1, fun c cs _ => h.2 c cs (room_none hd _)⟩
theorem YieldAt.anyDepth {F : Fence} (hd : F.depth = none) {m : Nat} (m' : Nat) {P : Program} {l : Nat} {args : Array Value} {W : World} {R : Ending → World → Prop} (h : YieldAt F m P l args W R) : YieldAt F m' P l args W R := by
  obtain ⟨fn, tmps, assign, body, hy, hR⟩ := h
  exact ⟨fn, tmps, assign, body, hy, RoundIn.anyDepth hd hR⟩

/-- A box of one cell. -/
theorem one_cell {W : World} {B : Nat} {t : TypeId} {v : Value} (h : W.heap[B]? = some (.cells #[v] t (0, 0))) : W.cell? ⟨B, 0, none⟩ = some v ∧ W.frozen? ⟨B, 0, none⟩ = false := by
  constructor <;> simp [World.cell?, World.frozen?, h]
theorem one_set {W : World} {B : Nat} {t : TypeId} {v : Value} (v' : Value) (h : W.heap[B]? = some (.cells #[v] t (0, 0))) : (W.setCell ⟨B, 0, none⟩ v').heap[B]? = some (.cells #[v'] t (0, 0)) := by
  obtain ⟨hlt, hk⟩ := Array.getElem?_eq_some_iff.1 h
  show (W.heap.modify B _)[B]? = _
  rw [Array.getElem?_eq_getElem (by rw [Array.size_modify]; exact hlt), Array.getElem_modify_self, hk]
  rfl

/-- What the body of a range over changes may turn. -/
abbrev bodyT : Nat → Obj → Prop := cellsOf [30, 61]
/-- What the iterator over changes may turn. -/
abbrev iterT : Nat → Obj → Prop := cellsOf [4]
/-- A call of yield. -/
abbrev saidT (nB : Nat) : Nat → Obj → Prop := fun b o => (bodyT b o ∨ isBook nB b o) ∨ iterT b o

set_option maxHeartbeats 2000000 in
theorem say_any (l n0 nB Bm By n : Nat) (c : Chg) (a : Option Addr) (nn cap : Nat) (J J' : World → Prop) (w : World)
    (hm : w.heap[Bm]? = some (.cells #[.bool true] 4 (0, 0))) (hy : w.heap[By]? = some (.cells #[.func (.yield l) #[] #[]] 89 (0, 0)))
    (hn0 : n0 ≤ Bm) (hsz : n0 ≤ w.heap.size) (hJ : J w) (hJt : ∀ A B, J A → TurnT iterT n0 A B → J B) (hJt' : ∀ A B, J' A → TurnT iterT n0 A B → J' B)
    (hY : ∀ W, J W → YieldAt Fence.wide n Try.prog l #[c.val (.slice a nn cap)] W fun e W' => e = .returned (.bool true) ∧ J' W' ∧ TurnT (fun b o => bodyT b o ∨ isBook nB b o) n0 W W') :
    Calls Try.prog 53 #[c.val (.slice a nn cap), .pointer (some ⟨Bm, 0, none⟩), .pointer (some ⟨By, 0, none⟩)] w fun e w' =>
      (∃ v, e = .returned v) ∧ J' w' ∧ TurnT (saidT nB) n0 w w' ∧ w'.heap[Bm]? = some (.cells #[.bool true] 4 (0, 0)) := by
  obtain ⟨k, i, f, o, nw, xs⟩ := c
  simp only [Chg.val] at hY ⊢
  rw [← callsIn_wide (n := n + 1)]
  have hA0 : TurnT (fun _ _ => False) n0 w (w.alloc (.cells #[.int .i64 k, .int .i64 i, .int .i64 f, .int .i64 o, .int .i64 nw, .slice a nn cap] 61)) := (TurnT.refl _ _ _).alloc hsz _
  have hA := hA0.mono (A' := iterT) (fun _ _ h => h.elim)
  obtain ⟨fn, tmps, assign, body, hyy, hR⟩ := YieldAt.anyDepth (m' := n + 1 - 1) rfl (hY _ (hJt _ _ hJ hA))
  have hmc := (one_cell hm).1
  have hyc := (one_cell hy).1
  have hlm : Bm < w.heap.size := (Array.getElem?_eq_some_iff.1 hm).1
  have hly : By < w.heap.size := (Array.getElem?_eq_some_iff.1 hy).1
  refine callsIn_of_wp Try.func53 rfl trivial ?_ rfl
  simp only [Try.ntmps53, List.size_toArray, List.length_cons, List.length_nil, Nat.reduceAdd, Nat.reduceSub, Array.replicate_succ, Array.replicate_zero, List.push_toArray, List.append_toArray, List.nil_append, List.cons_append]
  gi_wp2
  refine hR.mono ?_
  rintro e W2 ⟨rfl, hj2, ht2⟩
  have hm2 : W2.heap[Bm]? = some (.cells #[.bool true] 4 (0, 0)) := ht2.2 _ _ (hA0.2 _ _ hm id) (by simp [cellsOf, ofT, isBook, book])
  have hm3 := one_cell hm2
  have hmc2 := hm3.1
  have hmf2 := hm3.2
  have hT : TurnT iterT n0 W2 (W2.setCell ⟨Bm, 0, none⟩ (.bool true)) := TurnT.setCell (TurnT.refl _ _ _) hm2 (by simp [cellsOf, ofT]) hn0 _
  gi_wp2
  go_end0
  exact ⟨⟨_, rfl⟩, hJt' _ _ hj2 hT, ((hA.mono fun _ _ h => .inr h).trans (ht2.mono fun _ _ h => .inl h)).trans (hT.mono fun _ _ h => .inr h), one_set _ hm2⟩

/-- A change that yield is handed. -/
abbrev Chx := Chg × Option Addr × Nat
abbrev Chx.sl (x : Chx) : Value := .slice x.2.1 x.1.values.length x.2.2
abbrev Chx.enc (x : Chx) : Array Value := #[x.1.val x.sl]
abbrev chs (xs : List Chx) : List Chg := xs.map fun x => x.1
theorem chs_len (xs : List Chx) : (chs xs).length = xs.length := by simp [chs]
/-- Its values lie in a row of its own. -/
abbrev Chx.ok (n0 : Nat) (pre : List Chx) (x : Chx) (W : World) : Prop := pre.length < 7000 ∧ IntsF (n0 ≤ ·) W x.sl x.1.values

theorem IntsF.turn {S : Nat → Prop} {A : Nat → Obj → Prop} {n0 : Nat} {W W' : World} {v : Value} {xs : List Int} (h : IntsF S W v xs) (ht : TurnT A n0 W W') (hA : ∀ b c fr, ¬ A b (.cells c 3 fr)) : IntsF S W' v xs := by
  refine ⟨⟨h.1.1, ?_⟩, h.2⟩
  rcases h.1.2 with h2 | ⟨g, cap, cur, e, hb, hg, r⟩
  · exact .inl h2
  · exact .inr ⟨g, cap, cur, e, hb, ht.2 _ _ hg (hA _ _ _), r⟩

theorem TurnT.of_below {A : Nat → Obj → Prop} {n0 : Nat} {w w' : World} (h : Below w.heap.size w w') (hn : n0 ≤ w.heap.size) : TurnT A n0 w w' :=
  ⟨h.mono hn, fun b _ hb _ => (h.block b (Array.getElem?_eq_some_iff.1 hb).1).trans hb⟩

/-- What holds between two calls of yield. -/
structure ItI (l n0 nB Bm By : Nat) (J : List Chx → World → Prop) (W0 : World) (xs : List Chx) (w : World) : Prop where
  more : w.heap[Bm]? = some (.cells #[.bool true] 4 (0, 0))
  yield : w.heap[By]? = some (.cells #[.func (.yield l) #[] #[]] 89 (0, 0))
  inv : J xs w
  turn : TurnT (saidT nB) n0 W0 w
  size : n0 ≤ w.heap.size

theorem ItI.still {l n0 nB Bm By : Nat} {J : List Chx → World → Prop} {W0 : World} {xs : List Chx} {w w' : World} (h : ItI l n0 nB Bm By J W0 xs w) (hJt : ∀ pre A B, J pre A → TurnT iterT n0 A B → J pre B) (ht : TurnT (fun _ _ => False) n0 w w') : ItI l n0 nB Bm By J W0 xs w' :=
  ⟨ht.2 _ _ h.more id, ht.2 _ _ h.yield id, hJt _ _ _ h.inv (ht.mono fun _ _ h => h.elim), h.turn.trans (ht.mono fun _ _ h => h.elim), Nat.le_trans h.size ht.1.size⟩

theorem ItI.say {l n0 nB Bm By n : Nat} {J : List Chx → World → Prop} {W0 : World} {xs : List Chx} {w : World} (h : ItI l n0 nB Bm By J W0 xs w) (hn0 : n0 ≤ Bm)
    (hJt : ∀ pre A B, J pre A → TurnT iterT n0 A B → J pre B)
    (hY : ∀ pre x W, J pre W → Chx.ok n0 pre x W → YieldAt Fence.wide n Try.prog l (Chx.enc x) W fun e W' => e = .returned (.bool true) ∧ J (pre ++ [x]) W' ∧ TurnT (fun b o => bodyT b o ∨ isBook nB b o) n0 W W')
    (hlen : xs.length < 7000) (c : Chg) (a : Option Addr) (cap : Nat) (hc : IntsF (n0 ≤ ·) w (.slice a c.values.length cap) c.values) :
    Calls Try.prog 53 #[c.val (.slice a c.values.length cap), .pointer (some ⟨Bm, 0, none⟩), .pointer (some ⟨By, 0, none⟩)] w fun e w' =>
      (∃ v, e = .returned v) ∧ ItI l n0 nB Bm By J W0 (xs ++ [(c, a, cap)]) w' ∧ TurnT (saidT nB) n0 w w' := by
  refine (say_any l n0 nB Bm By n c a c.values.length cap (fun W => J xs W ∧ Chx.ok n0 xs (c, a, cap) W) (J (xs ++ [(c, a, cap)])) w h.more h.yield hn0 h.size ⟨h.inv, hlen, hc⟩
    (fun A B hj ht => ⟨hJt _ _ _ hj.1 ht, hj.2.1, IntsF.turn hj.2.2 ht (by simp [cellsOf, ofT])⟩) (hJt _) (fun W hj => hY _ _ _ hj.1 hj.2)).mono ?_
  rintro e w' ⟨hv, hj, ht, hm⟩
  exact ⟨hv, ⟨hm, ht.2 _ _ h.yield (by simp [cellsOf, ofT, isBook, book]), hj, h.turn.trans ht, Nat.le_trans h.size ht.1.size⟩, ht⟩

end Go.Proofs.Ytagnjhhbbjbhcaa
