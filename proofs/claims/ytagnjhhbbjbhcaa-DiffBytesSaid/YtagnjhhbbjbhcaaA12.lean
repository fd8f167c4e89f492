/- Regions that draw their order, in a round of a range over a function: what holds outside of a fence holds within the wide one. slices.Backward over changes: the iterator. Turn of the program. -/
import Derived.Test.YtagnjhhbbjbhcaaA4
import Derived.Test.YtagnjhhbbjbhcaaA6
import Derived.OrdersIn
import Derived.Test.YtagnjhhbbjbhcaaA11
namespace Go.Proofs.Ytagnjhhbbjbhcaa
open Go.RowKit

section
variable {P : Program} {ops : Array Oper} {md : Region.Mode} {lp n : Nat}

theorem callsIn_wideR {f : FuncId} {args : Array Value} {w : World} {R : Ending → World → Prop} : CallsIn (Fence.wide.inRound lp) n P f args w R ↔ Calls P f args w R := callsIn_wide (n := n)

/-- No operation defers a call, or asks for a row. -/
def plainOp : Op → Bool
  | .defer .. => false
  | _ => true

theorem op_in {o : Oper} {a : Act} {w : World} {K K2 : Act → World → Prop} {Q2 : Exit → Act → World → Prop} (hd : plainOp o.op = true) (h : o.wp P a w K (QN K2)) : o.wpIn (Fence.wide.inRound lp) n P a w K Q2 := by
  have hs : Oper.semAt (Fence.wide.inRound lp).round a.eval o = execOp a.eval o := Oper.semAt_eq _ _ _ (fun c e => by rw [e] at hd; simp [plainOp] at hd)
  unfold Oper.wpIn
  refine ⟨fun _ _ => trivial, ?_⟩
  rw [hs]
  unfold Oper.wp at h
  generalize (execOp a.eval o).run P w = r at *
  cases r with
  | ok x w' =>
    cases x with
    | value v => exact h
    | skip => exact h
    | defer d => exact h
    | enter f args =>
      refine ⟨fun h => by simp [Fence.wide] at h, callsIn_wideR.2 (Calls.mono h ?_)⟩
      intro e w'' he
      cases e with
      | returned v => exact he
      | panicked c => exact he.elim
      | outgrown => exact absurd he letsOut_QN
    | row row args =>
      refine ⟨fun h => by simp [Fence.wide] at h, fun c cs _ => ?_⟩
      obtain ⟨v, w2, h1, h2⟩ := h c cs
      exact ⟨v, w2, h1, stepsIn_wide.2 h2⟩
    | _ => exact h.elim
  | halt x w' =>
    cases x <;> first | exact h.elim | exact (show False from h).elim

theorem opi_in {i : Nat} {a : Act} {w : World} {K K' K2 : Act → World → Prop} {Q2 : Exit → Act → World → Prop} (hd : ∀ o, ops[i]? = some o → plainOp o.op = true) (hK : ∀ a w, K a w → K' a w) (h : wpOp P ops (QN K2) i K a w) : wpOpIn (Fence.wide.inRound lp) n P ops Q2 i K' a w := by
  refine wpOpIn_mono hK ?_
  unfold wpOp at h
  unfold wpOpIn
  split
  · rename_i ho; simp only [ho] at h; exact h
  · rename_i o ho
    simp only [ho] at h
    split
    · rename_i hw
      rw [if_pos hw] at h
      rcases h with h | ⟨_, h⟩
      · exact op_in (hd o ho) h
      · exact absurd h letsOut_QN
    · rename_i hw
      rw [if_neg hw] at h
      exact ⟨fun _ _ => trivial, h⟩

theorem any_in {K2 : Act → World → Prop} {Q2 : Exit → Act → World → Prop} (hd : ∀ (i : Nat) (o : Oper), ops[i]? = some o → plainOp o.op = true) (hK : ∀ a w, K2 a w → Q2 .normal a w) : ∀ (f : Nat) (listed : Array Bool) (a : Act) (w : World),
    wpAny P md ops (QN K2) f listed a w → wpAnyIn (Fence.wide.inRound lp) n P md ops Q2 f listed a w
  | 0, _, _, _, h => ⟨h.1, hK _ _ h.2⟩
  | f + 1, _listed, _a, _w, h => ⟨fun h0 => hK _ _ (h.1 h0), fun i hi => opi_in (hd i) (fun a w h => any_in hd hK f _ a w h) (h.2 i hi)⟩

def Region.plainB (ops : Array Oper) : Bool := ops.all fun o => plainOp o.op
theorem Region.plain_spec {ops : Array Oper} (h : Region.plainB ops = true) : ∀ (i : Nat) (o : Oper), ops[i]? = some o → plainOp o.op = true := by
  intro i o ho
  unfold Region.plainB at h
  obtain ⟨hlt, e⟩ := Array.getElem?_eq_some_iff.1 ho
  rw [← e]
  exact Array.all_eq_true.1 h i hlt

theorem list1_mono {o : Oper} {a : Act} {w : World} {K K' : Act → World → Prop} (h : ∀ a w, K a w → K' a w) (hk : wpList P ops (QN K) [o] a w) : wpList P ops (QN K') [o] a w := by
  unfold wpList at hk ⊢
  split
  · rename_i hw
    rw [if_pos hw] at hk
    rcases hk with hk | ⟨_, hk⟩
    · refine .inl (wp_exit (Q := QN K) (fun _ _ _ hf => hf.elim) (fun hl => absurd hl letsOut_QN) ?_)
      exact Oper.wp_mono (fun a' w' h' => h a' w' h') hk
    · exact absurd hk letsOut_QN
  · rename_i hw
    rw [if_neg hw] at hk
    exact h _ _ hk

theorem wpSteps_mono {C : World → Prop} {R R' : Act → World → Prop} {l : List Oper} (h : ∀ a w, R a w → R' a w) : ∀ {s : List (Bool × Nat)} {a : Act} {w : World}, wpSteps P ops C R l s a w → wpSteps P ops C R' l s a w
  | [], a, w, hk => h a w hk
  | (true, i) :: s, a, w, hk => by
    unfold wpSteps at hk ⊢
    split at hk
    · unfold wpQuiet at hk ⊢
      split
      · rename_i hw
        rw [if_pos hw] at hk
        exact Oper.quiet_mono (fun a h2 => wpSteps_mono h h2) hk
      · rename_i hw
        rw [if_neg hw] at hk
        exact wpSteps_mono h hk
    · exact hk.elim
  | (false, i) :: s, a, w, hk => by
    unfold wpSteps at hk ⊢
    split at hk
    · exact list1_mono (fun a w h2 => ⟨h2.1, wpSteps_mono h h2.2⟩) hk
    · exact hk.elim

/-- The order of a schedule, as a wpAny. -/
theorem any_sched {Q : Exit → Act → World → Prop} {a : Act} {w : World} {l : List Oper} {C : World → Prop} (m : Nat) (s : List (Bool × Nat)) (hB : Region.schedTailB .any l.toArray m s = true) (hC : C w)
    (h : wpSteps P l.toArray C (fun a' w' => wpList P l.toArray Q (l.drop m) a' w') l s a w) : wpAny P .any l.toArray Q l.toArray.size (Array.replicate l.toArray.size false) a w := by
  simp only [Region.schedTailB, Bool.and_eq_true, decide_eq_true_eq] at hB
  obtain ⟨⟨⟨⟨⟨hsel, hn⟩, hs⟩, hc⟩, hqn⟩, hlex⟩ := hB
  have inv0 : HeadInv .any l.toArray m (Array.replicate l.toArray.size false) :=
    ⟨by simp, fun j oj _ hl => (by rw [getD_replicate_false] at hl; cases hl), fun t _ ht => getD_in (by simpa using ht) (getD_replicate_false _ _)⟩
  have H := wpAnyH_sched (md := .any) (Lq := fun a' w' => wpList P l.toArray Q (l.drop m) a' w') hsel hs hc hn s _ a _ hC inv0 hlex (by simpa using h)
  have hdl : (l.drop m).length = l.toArray.size - m := by simp
  have := wpAny_of_headH (Q' := Q) (g := l.toArray.size - m) (fun listed a' w' hL => by
    have := wpAny_of_seq (md := .any) (Q' := Q) (l.drop m) m listed a' w' (fun j => by simp [List.getElem?_drop]) (by rw [hdl]; exact hL.1) hL.2
    rwa [hdl] at this) _ _ _ _ H
  rw [hqn, show m + (l.toArray.size - m) = l.toArray.size by omega] at this
  exact this

/-- **The law in a round.** The region itself is walked outside of the fence. -/
theorem wpIn_region_held {id : Nat} {Q : Exit → Act → World → Prop} {a : Act} {w : World} {l : List Oper} (m : Nat) (s : List (Bool × Nat)) (φ : World → Prop) (hm : P.follows .mixedOrders = true) (hB : Region.schedTailB .any l.toArray m s = true) (hp : Region.plainB l.toArray = true) (hφ : φ (w.drewN 1))
    (h : Nonempty (Held φ) → ∀ K : Act → World → Prop, (∀ a' w', Q .normal a' w' → K a' w') → wpSteps P l.toArray (fun W => ∃ x : Held φ, W = x.1) (fun a' w' => wpList P l.toArray (QN K) (l.drop m) a' w') l s a (w.drewN 1)) : (Code.region id l.toArray true).wpIn (Fence.wide.inRound lp) n P Q a w :=
  wpIn_region_any hm (any_in (K2 := fun a w => Q .normal a w) (Region.plain_spec hp) (fun _ _ h => h) _ _ _ _
    (any_sched (C := fun W => ∃ x : Held φ, W = x.1) m s hB ⟨⟨_, hφ⟩, rfl⟩ (h ⟨⟨_, hφ⟩⟩ _ (fun _ _ h => h))))
end

end Go.Proofs.Ytagnjhhbbjbhcaa

namespace Go.Proofs.Ytagnjhhbbjbhcaa
open Go.RowKit

/-- What yield is handed: the index, and the change. -/
abbrev Bx := Int × Chg × Option Addr × Nat
abbrev Bx.sl (x : Bx) : Value := .slice x.2.2.1 x.2.1.values.length x.2.2.2
abbrev Bx.enc (x : Bx) : Array Value := #[.int .i64 x.1, x.2.1.val x.sl]
abbrev bxs (xs : List Bx) : List Chg := xs.map fun x => x.2.1
abbrev Bx.ok (n0 : Nat) (pre : List Bx) (x : Bx) (W : World) : Prop := pre.length < 100000 ∧ x.2.1.values.length ≤ 100000 ∧ IntsV (· < n0) W x.sl x.2.1.values

set_option maxRecDepth 100000 in
set_option maxHeartbeats 4000000 in
theorem back1_any (cs : List Chg) (hc : cs.length ≤ 100000) (hcv : ∀ c ∈ cs, c.values.length ≤ 100000) (n0 nB Ps l n : Nat) (v : Value) (bA : Nat → Obj → Prop) (hbA : ∀ c fr, ¬ bA Ps (.cells c 30 fr)) (J : List Bx → World → Prop) (w : World)
    (_hsz : n0 ≤ w.heap.size) (hv : ChV (· < n0) w v cs) (bs : w.heap[Ps]? = some (.cells #[v] 30 (0, 0)))
    (hY : ∀ pre x W, J pre W → Bx.ok n0 pre x W → YieldAt Fence.wide n Try.prog l (Bx.enc x) W fun e W' => e = .returned (.bool true) ∧ J (pre ++ [x]) W' ∧ TurnT (fun b o => bA b o ∨ isBook nB b o) n0 W W') (h0 : J [] w) :
    Calls Try.prog 56 #[.func (.yield l) #[] #[], .pointer (some ⟨Ps, 0, none⟩)] w fun e w' =>
      (∃ v, e = .returned v) ∧ ∃ xs : List Bx, bxs xs = cs.reverse ∧ J xs w' := by
  obtain ⟨a, cap, rfl, hok, hcap, hmax⟩ := hv.form
  have HV := hid hv
  have HY := hid hY
  have HCV := hid hcv
  have HBS : Hid (∀ W1, TurnT (fun b o => bA b o ∨ isBook nB b o) n0 w W1 → W1.heap[Ps]? = some (.cells #[.slice a cs.length cap] 30 (0, 0))) := hid (fun W1 h => h.2 _ _ bs (by
    rintro (h | h)
    · exact hbA _ _ h
    · simp [isBook, book] at h))
  have hp0 := (one_cell bs).1
  clear hv hY hcv bs hbA
  rw [← callsIn_wide (n := n + 1)]
  refine callsIn_of_wp Try.func56 rfl trivial ?_ rfl
  simp only [Try.ntmps56, List.size_toArray, List.length_cons, List.length_nil, Nat.reduceAdd, Nat.reduceSub, Array.replicate_succ, Array.replicate_zero, List.push_toArray, List.append_toArray, List.nil_append, List.cons_append]
  gi_wp2
  gi_loopw [3] (fun i wr => ∃ j : Nat, j ≤ cs.length ∧ i = .int .i64 ((cs.length : Int) - 1 - j) ∧ ∃ xs, Hid (bxs xs = cs.reverse.take j) ∧ Hid (J xs wr ∧ TurnT (fun b o => bA b o ∨ isBook nB b o) n0 w wr)) (fun i _ => (intOf i + 1).toNat)
  case atStart => exact ⟨0, by omega, by simp, [], hid (by simp), hid ⟨h0, TurnT.refl _ _ _⟩⟩
  case round =>
    obtain ⟨j, hj, rfl, xs, hxs, HJ⟩ := hrel
    have bs1 := HBS.out _ HJ.out.2
    have hp1 := (one_cell bs1).1
    by_cases hlt : j < cs.length
    · obtain ⟨p, hp⟩ : ∃ p, p + 1 + j = cs.length := ⟨cs.length - 1 - j, by omega⟩
      have hpl : p < cs.length := by omega
      have hpz : (cs.length : Int) - 1 - j = p := by omega
      rw [hpz]
      have hv1 : ChV (· < n0) wr (.slice a cs.length cap) cs := HV.out.keep (KeepS.of_below HJ.out.2.1 (fun _ h => h))
      obtain ⟨hbk, -, c0, c1, c2, c3, c4, ul, c5, hul⟩ := hv1.at hpl
      have HT : Hid (cs.reverse.take j ++ [cs[p]] = cs.reverse.take (j + 1)) := hid (by
        rw [List.take_succ_eq_append_getElem (show j < cs.reverse.length by simpa using hlt), List.getElem_reverse]
        congr 3
        omega)
      have hvl := HCV.out _ (List.getElem_mem hpl)
      generalize cs[p] = c at *
      obtain ⟨k0, i0, f0, o0, n1, vs⟩ := c
      simp only at c0 c1 c2 c3 c4 hul hvl
      obtain ⟨al, cl, rfl, -, -, -⟩ := hul.form
      have hxl : xs.length ≤ j := by
        have h := congrArg List.length hxs.out
        simp only [bxs, List.length_map, List.length_take, List.length_reverse] at h
        omega
      obtain ⟨fn, tmps, assign, body, hyy, hR⟩ := YieldAt.anyDepth (m' := n + 1 - 1) rfl (HY.out xs ((p : Int), ⟨k0, i0, f0, o0, n1, vs⟩, al, cl) wr HJ.out.1 ⟨by omega, hvl, hul⟩)
      have HP := hid hp
      have HPZ := hid hpz
      have hp0' : (0 : Int) ≤ p := by omega
      have hpl' : (p : Int) < cs.length := by omega
      simp only [Bx.enc, Bx.sl, Chg.val] at hyy
      clear hul hv1 hp hpz hp0
      gi_wp2
      refine hR.mono ?_
      rintro e W2 ⟨rfl, hj2, ht2⟩
      have HJ2 : Hid (J (xs ++ [((p : Int), ⟨k0, i0, f0, o0, n1, vs⟩, al, cl)]) W2 ∧ TurnT (fun b o => bA b o ∨ isBook nB b o) n0 w W2) := hid ⟨hj2, HJ.out.2.trans ht2⟩
      have HX2 : Hid (bxs (xs ++ [((p : Int), ⟨k0, i0, f0, o0, n1, vs⟩, al, cl)]) = cs.reverse.take (j + 1)) := hid (by
        rw [← HT.out, ← hxs.out]; simp [bxs])
      clear hj2 ht2 HJ hR hyy c0 c1 c2 c3 c4 c5
      gi_wp2
      go_roundw
      case rel => exact ⟨j + 1, by omega, by have := HP.out; congr 1; omega, _, HX2, HJ2⟩
      case measure => simp [intOf]
    · have hneg : (cs.length : Int) - 1 - j < 0 := by omega
      obtain rfl : j = cs.length := by omega
      have HX2 : Hid (bxs xs = cs.reverse) := hid (by rw [hxs.out, List.take_of_length_le (by simp)])
      gi_wp2
      go_end0
      exact ⟨⟨_, rfl⟩, xs, HX2.out, HJ.out.1⟩

end Go.Proofs.Ytagnjhhbbjbhcaa

namespace Go.Proofs.Ytagnjhhbbjbhcaa
open Go.RowKit

attribute [local go_sem] Oper.semAt_some

theorem backward_any (a : Option Addr) (n c : Nat) (w : World) :
    Calls Try.prog 41 #[.slice a n c] w fun e w' =>
      e = .returned (.func (.func 56) #[] #[.pointer (some ⟨w.heap.size, 0, none⟩)]) ∧
      Below w.heap.size w w' ∧ w'.heap[w.heap.size]? = some (.cells #[.slice a n c] 30 (0, 0)) := by
  have h1 : Below w.heap.size w (w.alloc (.cells #[.slice a n c] 30)) := (Below.refl _ _).alloc (Nat.le_refl _) _
  have h2 := World.alloc_heap_new w (.cells #[.slice a n c] 30)
  have H1 := hid h1
  have H2 := hid h2
  clear h1 h2
  go_enter Try.func41, Try.ntmps41
  go_wp2
  go_ret
  exact ⟨rfl, H1.out, H2.out⟩

/-- What a round of Turn may turn: the variable out, and rows of changes. -/
def turnT (Bo : Nat) : Nat → Obj → Prop := fun b o => (b = Bo ∧ ofT [30] o) ∨ ofT [61] o
theorem turnT_book {Bo : Nat} (b : Nat) (o : Obj) (h : turnT Bo b o) : ¬ book o := by
  cases o <;> simp_all [turnT, ofT, book]

/-- What holds between two rounds of Turn. -/
structure TI (w : World) (Bo : Nat) (pre : List Bx) (W : World) : Prop where
  out : ∃ v, W.heap[Bo]? = some (.cells #[v] 30 (0, 0)) ∧ OwnC (intB W) w.heap.size 61 W v ((bxs pre).map turnC)
  below : Below w.heap.size w W

theorem TI.turn {w : World} {Bo : Nat} {pre : List Bx} {W W' : World} (h : TI w Bo pre W) {A : Nat → Obj → Prop} (ht : TurnT A w.heap.size W W')
    (h1 : ∀ b c fr, ¬ A b (.cells c 30 fr)) (h2 : ∀ b c fr, ¬ A b (.cells c 61 fr)) (h3 : ∀ b c fr, ¬ A b (.cells c 3 fr)) : TI w Bo pre W' := by
  obtain ⟨v, hv, ho⟩ := h.out
  exact ⟨⟨v, ht.2 _ _ hv (h1 _ _ _), ho.turn ht h3 h2⟩, h.below.trans ht.1⟩

/-- Only the variable out is turned. -/
def outA (Bo : Nat) : Nat → Obj → Prop := fun b o => b = Bo ∧ ofT [30] o
/-- Only the box Bx of a change is turned. -/
def boxA (Bx : Nat) : Nat → Obj → Prop := fun b o => b = Bx ∧ ofT [61] o
theorem boxA_turn {Bo Bx : Nat} (b : Nat) (o : Obj) (h : boxA Bx b o) : turnT Bo b o := .inr h.2
theorem OwnC.turnB {A : Nat → Obj → Prop} {n0 B : Nat} {e : TypeId} {w w' : World} {v : Value} {cs : List Chg} (h : OwnC (intB w) B e w v cs) (ht : TurnT A n0 w w')
    (hA : ∀ b c fr, ¬ A b (.cells c 3 fr)) (hE : ∀ b c fr, some b = v.ownBlock → ¬ A b (.cells c e fr)) : OwnC (intB w') B e w' v cs := by
  obtain ⟨us, ⟨g1, g2⟩, h2, h3⟩ := h
  refine ⟨us, ⟨g1, ?_⟩, h2, fun j k1 k2 => (h3 j k1 k2).turnI ht hA⟩
  rcases g2 with g2 | ⟨g, cap, cur, rfl, hb, hg, r⟩
  · exact .inl g2
  · exact .inr ⟨g, cap, cur, rfl, hb, ht.2 _ _ hg (hE _ _ _ rfl), r⟩

/-- The way out past the marks, one result. -/
theorem leaves_marks1 {P : Program} {n n0 : Nat} {fn : Func} {tmps : Array Value} {R : Ending → World → Prop} {t : Tmp} (hfn : fn.results = #[.tmp t]) : ∀ (Ds : List Nat) (w : World), Ds.Nodup → (∀ D ∈ Ds, n0 ≤ D ∧ w.heap[D]? = some (.deferred (some []))) →
    (∀ w', TurnT (isBook n0) n0 w w' → R (.returned (tmps.getD t undef)) w') → LeavesInM Fence.wide n P fn tmps R (Ds.map (fun D => { target := .collected D, args := #[] })) .returning w
  | [], w, _, _, h => ⟨_, results_tmp hfn _ _ _, h w (TurnT.refl _ _ _)⟩
  | D :: Ds, w, hn, hD, h => by
    obtain ⟨hnd, hns⟩ := List.nodup_cons.1 hn
    have hk := (hD D List.mem_cons_self)
    have ht : TurnT (isBook n0) n0 w (w.putObj D (.deferred none)) := TurnT.putObj _ hk.2 ⟨hk.1, trivial⟩ hk.1
    refine ⟨by simp, .inl ⟨D, _, rfl, run_takeDeferred hk.2, ?_⟩⟩
    refine leaves_marks1 hfn Ds _ hns (fun E hE => ⟨(hD E (List.mem_cons_of_mem _ hE)).1, ?_⟩) (fun w' h' => h w' (ht.trans h'))
    have hne : E ≠ D := fun e => hnd (e ▸ hE)
    exact (World.putObj_heap_other hne).trans (hD E (List.mem_cons_of_mem _ hE)).2
theorem leave_marks1 {P : Program} {n n0 : Nat} {fn : Func} {tmps : Array Value} {ds : List Deferred} {w : World} {R : Ending → World → Prop} {t : Tmp} (hfn : fn.results = #[.tmp t]) {nB : Nat} (hm : Marks n0 nB ds w)
    (h : ∀ w', TurnT (isBook n0) n0 w w' → R (.returned (tmps.getD t undef)) w') : bodyPostM Fence.wide n P fn R .ret { tmps, defers := ds } w := by
  obtain ⟨Ds, rfl, hnd, hD⟩ := hm
  exact leaves_marks1 hfn Ds w hnd (fun D h => ⟨(hD D h).1, (hD D h).2.2⟩) h

set_option maxRecDepth 100000 in
set_option maxHeartbeats 4000000 in
theorem pturn_int (cs : List Chg) (hc : cs.length ≤ 100000) (hcv : ∀ c ∈ cs, c.values.length ≤ 100000) (u : Value) (S : Nat → Prop) (w : World) (hu : ChV S w u cs) :
    Calls Try.prog 18 #[u] w fun e w' => ∃ x, e = .returned x ∧ ChV (fun b => intB w' b ∨ w.heap.size ≤ b) w' x (turnL cs) ∧ Below w.heap.size w w' := by
  have hu0 : ChV (· < w.heap.size) w u cs := hu.mono (fun b hb _ => hb)
  obtain ⟨a, cap, rfl, hok, hcap, hmax⟩ := hu.form
  have HCV := hid hcv
  have HU := hid hu0
  clear hu hu0 hcv
  rw [← callsIn_wide (n := 5)]
  refine callsIn_of_wp_marks Try.func18 rfl trivial ?_ rfl
  simp only [Try.ntmps18, List.size_toArray, List.length_cons, List.length_nil, Nat.reduceAdd, Nat.reduceSub, Array.replicate_succ, Array.replicate_zero, List.push_toArray, List.append_toArray, List.nil_append, List.cons_append]
  rw [wpIn_wide]
  go_wp2_with fail
  refine (backward_any a cs.length cap _).mono ?_
  rintro e w4 ⟨rfl, hb4, c0⟩
  go_wp2
  have hs4 := hb4.size
  have hbm : Below w.heap.size w w4 := ((Below.refl _ w).alloc (Nat.le_refl _) _).trans (hb4.mono (by simp))
  have hn0 : w.heap.size ≤ w4.heap.size := by simp at hs4; omega
  have hBo4 : w4.heap[w.heap.size]? = some (.cells #[.slice none 0 0] 30 (0, 0)) := (hb4.block w.heap.size (by simp)).trans (heap_new _ _ rfl)
  have hI0 : TI w w.heap.size [] w4 := ⟨⟨_, hBo4, by simpa [bxs] using OwnC.nil _ _ _ _⟩, hbm⟩
  have HI0 := hid hI0
  have hPs : (w.alloc (.cells #[.slice none 0 0] 30)).heap.size = w.heap.size + 1 := by simp
  rw [hPs] at c0
  have HSeq : Hid (IterG Try.prog 4 w.heap.size w4.heap.size 56 #[.pointer (some ⟨w.heap.size + 1, 0, none⟩)] Bx.enc (Bx.ok w.heap.size) (turnT w.heap.size) (fun _ _ => False)
      (fun xs _ => bxs xs = cs.reverse) w4) := hid (by
    intro l J W hb hJt hY h0
    rw [callsIn_wide]
    have q0 := (hb.block _ (Array.getElem?_eq_some_iff.1 c0).1).trans c0
    refine (back1_any cs hc HCV.out w.heap.size w4.heap.size (w.heap.size + 1) l 3 _ (turnT w.heap.size) (by intro c fr; simp [turnT, ofT]) J W (Nat.le_trans hn0 hb.size)
      (HU.out.keep (KeepS.of_below (hbm.trans (hb.mono hn0)) (fun _ h => h))) q0 hY h0).mono ?_
    rintro e W' ⟨he, xs, hx, hj⟩
    exact ⟨he, xs, hx, hj⟩)
  rw [← wpIn_wide (n := 5)]
  refine wpIn_range (α := Bx) (n0 := w.heap.size) (gf := 56) rfl (fn_enters Try.func56 (by kernel_rfl) rfl) (encs := Bx.enc) (fun _ => rfl) (G := Bx.ok w.heap.size) (bA := turnT w.heap.size) (iA := fun _ _ => False)
    (S := fun xs _ => bxs xs = cs.reverse) HSeq.out hn0 (fun _ _ h => h.elim) turnT_book (TI w w.heap.size) ?hI (fun _ _ _ h _ => h) HI0.out ?hround ?hdone
  case hI =>
    intro pre X Y hp ht
    exact hp.turn ht (by simp [isBook, book]) (by simp [isBook, book]) (by simp [isBook, book])
  case hround =>
    rintro l pre ⟨ix, ⟨ck, ci, cf, co, cn, vs⟩, ax, cx⟩ W hW hI hG
    obtain ⟨hlen, hvl, hint⟩ := hG
    simp only [Bx.enc, Bx.sl, Chg.val] at hvl hint ⊢
    simp only [List.zip_toArray, List.zip_cons_cons, List.zip_nil_left]
    gi_wp2
    refine ⟨(TurnT.refl _ _ _).alloc (Nat.le_trans hn0 hW) _, fun W2 ht2 hs2 => ?_⟩
    have hWn := Nat.le_trans hn0 hW
    have ht0 : TurnT (isBook w4.heap.size) w.heap.size W W2 := ((TurnT.refl _ _ _).alloc hWn _).trans ht2
    obtain ⟨vo, hvo, hown⟩ := hI.out
    have hblt := hown.lt
    have hvo2 := ht0.2 _ _ hvo (by simp [isBook, book])
    have HOW2 := hid (hown.turn ht0 (by simp [isBook, book]) (by simp [isBook, book]))
    have hbel2 := hI.below.trans ht0.1
    have hbn0 := (Array.getElem?_eq_some_iff.1 hvo).1
    have hbx : W2.heap[W.heap.size]? = some (.cells #[.int .i64 ck, .int .i64 ci, .int .i64 cf, .int .i64 co, .int .i64 cn, .slice ax vs.length cx] 61 (0, 0)) := ht2.2 _ _ (World.alloc_heap_new _ _) (by simp [isBook, book])
    have hint2 : IntsV (· < w.heap.size) W2 (.slice ax vs.length cx) vs := hint.keep (KeepS.of_below ht0.1 (fun _ h => h))
    have x2 : W2.cell? ⟨W.heap.size, 2, none⟩ = some (.int .i64 cf) := by simp [World.cell?, hbx]
    have xf : W2.frozen? ⟨W.heap.size, 2, none⟩ = false := by simp [World.frozen?, hbx]
    have hne0 : W.heap.size ≠ w.heap.size := by omega
    have hnx : w.heap.size ≤ W.heap.size := hWn
    obtain ⟨Bx, hBx⟩ : ∃ Bx, Bx = W.heap.size := ⟨_, rfl⟩
    have hblt' : ∀ b, some b = vo.ownBlock → b < Bx := fun b hb => by rw [hBx]; exact (hblt b hb).2
    rw [← hBx] at hbx x2 xf hne0 hnx ⊢
    have HBL := hid hblt'
    clear ht2 hs2 ht0 hI hint hBx hown hblt hblt' hvo hbn0
    have three : cf = -1 ∨ cf = -2 ∨ (cf ≠ -1 ∧ cf ≠ -2) := by omega
    have HT := hid (show ∀ v, TurnT (boxA Bx) w.heap.size W2 (W2.setCell ⟨Bx, 2, none⟩ v) from fun v => TurnT.setCell (TurnT.refl _ _ _) hbx ⟨rfl, by simp [ofT]⟩ hnx v)
    have HS := hid (show ∀ v, (W2.setCell ⟨Bx, 2, none⟩ v).heap[Bx]? = some (.cells (#[.int .i64 ck, .int .i64 ci, .int .i64 cf, .int .i64 co, .int .i64 cn, .slice ax vs.length cx].setIfInBounds 2 v) 61 (0, 0)) from fun v => heap_setCell_same W2 Bx 2 _ _ v hbx)
    have hTC : (cf = -1 → turnC ⟨ck, ci, cf, co, cn, vs⟩ = ⟨ck, ci, -2, cn, co, vs⟩) ∧ (cf = -2 → turnC ⟨ck, ci, cf, co, cn, vs⟩ = ⟨ck, ci, -1, cn, co, vs⟩) ∧ (cf ≠ -1 → cf ≠ -2 → turnC ⟨ck, ci, cf, co, cn, vs⟩ = ⟨ck, ci, cf, cn, co, vs⟩) := by
      unfold turnC
      simp only
      refine ⟨fun h => by rw [if_pos h], fun h => by rw [if_neg (by omega), if_pos h], fun h1 h2 => by rw [if_neg h1, if_neg h2]⟩
    have HTC := hid hTC
    clear hTC
    have HTG := hid (show ∀ (W3 : World) (f' : Int), W3.heap[Bx]? = some (.cells #[.int .i64 ck, .int .i64 ci, .int .i64 f', .int .i64 co, .int .i64 cn, .slice ax vs.length cx] 61 (0, 0)) →
        turnC ⟨ck, ci, cf, co, cn, vs⟩ = ⟨ck, ci, f', cn, co, vs⟩ →
        ∃ g' : Int, g' = f' ∧ turnC ⟨ck, ci, cf, co, cn, vs⟩ = ⟨ck, ci, g', cn, co, vs⟩ ∧ W3.heap[Bx]? = some (.cells #[.int .i64 ck, .int .i64 ci, .int .i64 g', .int .i64 co, .int .i64 cn, .slice ax vs.length cx] 61 (0, 0)) from
      fun W3 f' h1 h2 => ⟨f', rfl, h2, h1⟩)
    rcases three with hcf | hcf | ⟨hcf1, hcf2⟩
    · subst hcf
      obtain ⟨g', -, tc, hb3⟩ := HTG.out _ (-2) (HS.out (.int .i64 (-2))) (HTC.out.1 rfl)
      have ht3 := hid (HT.out (.int .i64 (-2)))
      have HTC2 := hid tc
      have HB3 := hid hb3
      clear tc hb3 HTC HTG HS HT
      gi_wp2
      generalize hW3 : W2.setCell _ _ = W3 at *
      clear hW3 x2 xf hbx
      have hs3 : w.heap.size ≤ W3.heap.size := (hbel2.trans ht3.out.1).size
      have hb3 := HB3.out
      have y0 : W3.cell? ⟨Bx, 0, none⟩ = some (.int .i64 ck) := by simp [World.cell?, hb3]
      have y3 : W3.cell? ⟨Bx, 3, none⟩ = some (.int .i64 co) := by simp [World.cell?, hb3]
      have y4 : W3.cell? ⟨Bx, 4, none⟩ = some (.int .i64 cn) := by simp [World.cell?, hb3]
      have y5 : W3.cell? ⟨Bx, 5, none⟩ = some (.slice ax vs.length cx) := by simp [World.cell?, hb3]
      clear hb3
      refine wpIn_region_held 8 [(true, 0), (true, 1), (true, 2), (true, 3), (true, 4), (true, 5), (true, 7), (false, 6)]
        (fun W => W.cell? ⟨Bx, 3, none⟩ = some (.int .i64 co) ∧ W.cell? ⟨Bx, 4, none⟩ = some (.int .i64 cn) ∧ W.cell? ⟨Bx, 5, none⟩ = some (.slice ax vs.length cx)) (by kernel_rfl) (by kernel_rfl) (by kernel_rfl) ⟨y3, y4, y5⟩ ?_
      intro hne K hK
      have HK := hid hK
      clear hK
      refine wpSteps_pre 6 (by decide) ?_
      simp only [List.take_succ_cons, List.take_zero]
      have z3 : ∀ x : Held (fun W => W.cell? ⟨Bx, 3, none⟩ = some (.int .i64 co) ∧ W.cell? ⟨Bx, 4, none⟩ = some (.int .i64 cn) ∧ W.cell? ⟨Bx, 5, none⟩ = some (.slice ax vs.length cx)), x.1.cell? ⟨Bx, 3, none⟩ = some (.int .i64 co) := fun x => x.2.1
      have z4 : ∀ x : Held (fun W => W.cell? ⟨Bx, 3, none⟩ = some (.int .i64 co) ∧ W.cell? ⟨Bx, 4, none⟩ = some (.int .i64 cn) ∧ W.cell? ⟨Bx, 5, none⟩ = some (.slice ax vs.length cx)), x.1.cell? ⟨Bx, 4, none⟩ = some (.int .i64 cn) := fun x => x.2.2.1
      have z5 : ∀ x : Held (fun W => W.cell? ⟨Bx, 3, none⟩ = some (.int .i64 co) ∧ W.cell? ⟨Bx, 4, none⟩ = some (.int .i64 cn) ∧ W.cell? ⟨Bx, 5, none⟩ = some (.slice ax vs.length cx)), x.1.cell? ⟨Bx, 5, none⟩ = some (.slice ax vs.length cx) := fun x => x.2.2.2
      repeat (go_big_quiet_step (fail))
      refine wpQuiet_nil ?_
      refine wpSteps_quiet rfl ?_
      repeat (go_big_quiet_step (fail))
      refine wpQuiet_nil ?_
      refine wpSteps_one rfl ?_
      clear z3 z4 z5 hne
      go_wp2_with fail
      have hba : Below W3.heap.size W3 (W3.drewN 1) := below_drewN (Below.refl _ _) 1
      refine (clone_any vs hvl _ (· < w.heap.size) _ ((hint2.keep (KeepS.of_below ht3.out.1 (fun _ h => h))).keep (KeepS.below hba))).mono ?_
      rintro e w5 ⟨x, rfl, hx, hb5⟩
      have hb35 : Below W3.heap.size W3 w5 := hba.trans hb5
      have hsl := hx.sl
      obtain ⟨av, cv, rfl, -, -, -⟩ := hsl.form
      have y3' := cell_later hb35 y3
      have y4' := cell_later hb35 y4
      have y5' := cell_later hb35 y5
      have hb5x : w5.heap[Bx]? = some (.cells #[.int .i64 ck, .int .i64 ci, .int .i64 g', .int .i64 co, .int .i64 cn, .slice ax vs.length cx] 61 (0, 0)) := (hb35.block _ (Array.getElem?_eq_some_iff.1 HB3.out).1).trans HB3.out
      have HX5 := hid hx
      have T35 : Hid (TurnT (boxA Bx) w.heap.size W2 w5) := hid (ht3.out.trans (TurnT.of_below hb35 hs3))
      have f3 : w5.frozen? ⟨Bx, 3, none⟩ = false := by simp [World.frozen?, hb5x]
      have f4 : w5.frozen? ⟨Bx, 4, none⟩ = false := by simp [World.frozen?, hb5x]
      have f5 : w5.frozen? ⟨Bx, 5, none⟩ = false := by simp [World.frozen?, hb5x]
      have h1 := heap_setCell_same w5 Bx 3 _ _ (.int .i64 cn) hb5x
      have t1 := TurnT.setCell (A := boxA Bx) (TurnT.refl _ w.heap.size w5) (p := ⟨Bx, 3, none⟩) hb5x ⟨rfl, by simp [ofT]⟩ hnx (.int .i64 cn)
      have h2 := heap_setCell_same _ Bx 4 _ _ (.int .i64 co) h1
      have t2 := TurnT.setCell (A := boxA Bx) t1 (p := ⟨Bx, 4, none⟩) h1 ⟨rfl, by simp [ofT]⟩ hnx (.int .i64 co)
      have h3 := heap_setCell_same _ Bx 5 _ _ (.slice av vs.length cv) h2
      have t3 := TurnT.setCell (A := boxA Bx) t2 (p := ⟨Bx, 5, none⟩) h2 ⟨rfl, by simp [ofT]⟩ hnx (.slice av vs.length cv)
      have H3 := hid h3
      have T3 := hid t3
      clear hsl hx hb5 hba y0 y3 y4 y5 h1 h2 h3 t1 t2 t3 hb5x
      go_wp2
      refine qn_mk ⟨InHeld.of ⟨y3', y4', y5'⟩, ?_⟩
      refine wpSteps_done ?_
      go_wp2
      refine qn_mk (HK.out _ _ ?_)
      generalize hW8 : World.setCell _ _ _ = W8 at *
      clear hW8 y3' y4' y5' f3 f4 f5 HK
      have hb8 : W8.heap[Bx]? = some (.cells #[.int .i64 ck, .int .i64 ci, .int .i64 g', .int .i64 cn, .int .i64 co, .slice av vs.length cv] 61 (0, 0)) := H3.out
      have T28 : TurnT (boxA Bx) w.heap.size W2 W8 := T35.out.trans T3.out
      have T58 : TurnT (boxA Bx) w.heap.size w5 W8 := T3.out
      have hx8 := IntsF.turn HX5.out T58 (by simp [boxA, ofT])
      have hvo8 := T28.2 _ _ hvo2 (by simp [boxA, ofT])
      have hown8 := HOW2.out.turnB T28 (by simp [boxA, ofT]) (fun b c fr hb h => by have := HBL.out b hb; have := h.1; omega)
      have hbel8 := hbel2.trans T28.1
      have q0 : W8.cell? ⟨Bx, 0, none⟩ = some (.int .i64 ck) := by simp [World.cell?, hb8]
      have q1 : W8.cell? ⟨Bx, 1, none⟩ = some (.int .i64 ci) := by simp [World.cell?, hb8]
      have q2 : W8.cell? ⟨Bx, 2, none⟩ = some (.int .i64 g') := by simp [World.cell?, hb8]
      have q3 : W8.cell? ⟨Bx, 3, none⟩ = some (.int .i64 cn) := by simp [World.cell?, hb8]
      have q4 : W8.cell? ⟨Bx, 4, none⟩ = some (.int .i64 co) := by simp [World.cell?, hb8]
      have q5 : W8.cell? ⟨Bx, 5, none⟩ = some (.slice av vs.length cv) := by simp [World.cell?, hb8]
      have hvc := (one_cell hvo8).1
      have hvf := (one_cell hvo8).2
      have hlen2 : ((bxs pre).map turnC).length + 1 ≤ 1000000000 := by
        simp only [bxs, List.length_map]; omega
      generalize hP0 : (bxs pre).map turnC = P0 at *
      have HP0 := hid hP0
      clear hP0
      have hs8 : w.heap.size ≤ W8.heap.size := hbel8.size
      have hu8 := IntsF.zoneI (B := vo.ownBlock) hx8 (fun b hb => by
        obtain ⟨c, fr, e⟩ := hown8.block hb.symm
        exact ⟨c, fr, _, by decide, e⟩)
      have HOW := hid hown8
      clear H3 T3 hb8 T58 HX5 T35 ht3 HB3 hb35 hx8
      gi_wp2_with (gi_at_builtin; go_must (refine wpListIn_appC1 rfl _ _ rfl Try.app30 rfl hown8 rfl ⟨ck, ci, g', cn, co, vs⟩ (.slice av vs.length cv) rfl rfl hu8 hlen2 hs8 ?_))
      intro v' w9 h9 t9
      have h6 := OwnC.zone HOW.out (by decide) h9 t9
      obtain ⟨av', cv', hv', -, -, -⟩ := h6.sl.form
      generalize (P0 ++ [(⟨ck, ci, g', cn, co, vs⟩ : Chg)]).length = L at hv'
      subst hv'
      have hvo9 : w9.heap[w.heap.size]? = some (.cells #[vo] 30 (0, 0)) := by
        rw [t9.block w.heap.size (fun e => by
          obtain ⟨c, fr, e2⟩ := HOW.out.block e
          rw [hvo8] at e2
          simp at e2) (Array.getElem?_eq_some_iff.1 hvo8).1]
        exact hvo8
      have hvc9 := (one_cell hvo9).1
      have hvf9 := (one_cell hvo9).2
      have ht9 : TurnT (turnT w.heap.size) w.heap.size W8 w9 := (TurnT.refl _ _ _).grown hs8 t9 (fun b hb => ⟨(HOW.out.lt b hb).1, fun o ho => by
        obtain ⟨c, fr, e2⟩ := HOW.out.block hb
        rw [e2] at ho
        cases ho
        exact .inr (by simp [ofT])⟩)
      have ht10 : TurnT (outA w.heap.size) w.heap.size w9 (w9.setCell ⟨w.heap.size, 0, none⟩ (.slice av' L cv')) := TurnT.setCell (A := outA w.heap.size) (TurnT.refl _ _ _) (p := ⟨w.heap.size, 0, none⟩) hvo9 ⟨rfl, by simp [ofT]⟩ (Nat.le_refl _) _
      have ht29 : TurnT (turnT w.heap.size) w.heap.size W2 (w9.setCell ⟨w.heap.size, 0, none⟩ (.slice av' L cv')) := ((T28.mono boxA_turn).trans ht9).trans (ht10.mono (fun b o h => .inl h))
      have HP7 : Hid (TurnT (turnT w.heap.size) w.heap.size W2 (w9.setCell ⟨w.heap.size, 0, none⟩ (.slice av' L cv')) ∧ TI w w.heap.size (pre ++ [((ix, (⟨ck, ci, (-1), co, cn, vs⟩ : Chg), ax, cx) : Go.Proofs.Ytagnjhhbbjbhcaa.Bx)]) (w9.setCell ⟨w.heap.size, 0, none⟩ (.slice av' L cv'))) :=
        hid ⟨ht29, ⟨_, one_set _ hvo9, by
          have := h6.turn ht10 (by simp [outA, ofT]) (by simp [outA, ofT])
          have e : (bxs (pre ++ [((ix, (⟨ck, ci, (-1), co, cn, vs⟩ : Chg), ax, cx) : Go.Proofs.Ytagnjhhbbjbhcaa.Bx)])).map turnC = P0 ++ [(⟨ck, ci, g', cn, co, vs⟩ : Chg)] := by
            rw [← HP0.out, ← HTC2.out]; simp [bxs]
          rw [e]
          exact this⟩, hbel2.trans ht29.1⟩
      clear h9 h6 t9 ht9 ht10 ht29 HOW hvo8 hvo9 hu8 hown8 q0 q1 q2 q3 q4 q5 T28
      gi_wp2
      exact HP7.out
    · subst hcf
      obtain ⟨g', -, tc, hb3⟩ := HTG.out _ (-1) (HS.out (.int .i64 (-1))) (HTC.out.2.1 rfl)
      have ht3 := hid (HT.out (.int .i64 (-1)))
      have HTC2 := hid tc
      have HB3 := hid hb3
      clear tc hb3 HTC HTG HS HT
      gi_wp2
      generalize hW3 : W2.setCell _ _ = W3 at *
      clear hW3 x2 xf hbx
      have hs3 : w.heap.size ≤ W3.heap.size := (hbel2.trans ht3.out.1).size
      have hb3 := HB3.out
      have y0 : W3.cell? ⟨Bx, 0, none⟩ = some (.int .i64 ck) := by simp [World.cell?, hb3]
      have y3 : W3.cell? ⟨Bx, 3, none⟩ = some (.int .i64 co) := by simp [World.cell?, hb3]
      have y4 : W3.cell? ⟨Bx, 4, none⟩ = some (.int .i64 cn) := by simp [World.cell?, hb3]
      have y5 : W3.cell? ⟨Bx, 5, none⟩ = some (.slice ax vs.length cx) := by simp [World.cell?, hb3]
      clear hb3
      refine wpIn_region_held 8 [(true, 0), (true, 1), (true, 2), (true, 3), (true, 4), (true, 5), (true, 7), (false, 6)]
        (fun W => W.cell? ⟨Bx, 3, none⟩ = some (.int .i64 co) ∧ W.cell? ⟨Bx, 4, none⟩ = some (.int .i64 cn) ∧ W.cell? ⟨Bx, 5, none⟩ = some (.slice ax vs.length cx)) (by kernel_rfl) (by kernel_rfl) (by kernel_rfl) ⟨y3, y4, y5⟩ ?_
      intro hne K hK
      have HK := hid hK
      clear hK
      refine wpSteps_pre 6 (by decide) ?_
      simp only [List.take_succ_cons, List.take_zero]
      have z3 : ∀ x : Held (fun W => W.cell? ⟨Bx, 3, none⟩ = some (.int .i64 co) ∧ W.cell? ⟨Bx, 4, none⟩ = some (.int .i64 cn) ∧ W.cell? ⟨Bx, 5, none⟩ = some (.slice ax vs.length cx)), x.1.cell? ⟨Bx, 3, none⟩ = some (.int .i64 co) := fun x => x.2.1
      have z4 : ∀ x : Held (fun W => W.cell? ⟨Bx, 3, none⟩ = some (.int .i64 co) ∧ W.cell? ⟨Bx, 4, none⟩ = some (.int .i64 cn) ∧ W.cell? ⟨Bx, 5, none⟩ = some (.slice ax vs.length cx)), x.1.cell? ⟨Bx, 4, none⟩ = some (.int .i64 cn) := fun x => x.2.2.1
      have z5 : ∀ x : Held (fun W => W.cell? ⟨Bx, 3, none⟩ = some (.int .i64 co) ∧ W.cell? ⟨Bx, 4, none⟩ = some (.int .i64 cn) ∧ W.cell? ⟨Bx, 5, none⟩ = some (.slice ax vs.length cx)), x.1.cell? ⟨Bx, 5, none⟩ = some (.slice ax vs.length cx) := fun x => x.2.2.2
      repeat (go_big_quiet_step (fail))
      refine wpQuiet_nil ?_
      refine wpSteps_quiet rfl ?_
      repeat (go_big_quiet_step (fail))
      refine wpQuiet_nil ?_
      refine wpSteps_one rfl ?_
      clear z3 z4 z5 hne
      go_wp2_with fail
      have hba : Below W3.heap.size W3 (W3.drewN 1) := below_drewN (Below.refl _ _) 1
      refine (clone_any vs hvl _ (· < w.heap.size) _ ((hint2.keep (KeepS.of_below ht3.out.1 (fun _ h => h))).keep (KeepS.below hba))).mono ?_
      rintro e w5 ⟨x, rfl, hx, hb5⟩
      have hb35 : Below W3.heap.size W3 w5 := hba.trans hb5
      have hsl := hx.sl
      obtain ⟨av, cv, rfl, -, -, -⟩ := hsl.form
      have y3' := cell_later hb35 y3
      have y4' := cell_later hb35 y4
      have y5' := cell_later hb35 y5
      have hb5x : w5.heap[Bx]? = some (.cells #[.int .i64 ck, .int .i64 ci, .int .i64 g', .int .i64 co, .int .i64 cn, .slice ax vs.length cx] 61 (0, 0)) := (hb35.block _ (Array.getElem?_eq_some_iff.1 HB3.out).1).trans HB3.out
      have HX5 := hid hx
      have T35 : Hid (TurnT (boxA Bx) w.heap.size W2 w5) := hid (ht3.out.trans (TurnT.of_below hb35 hs3))
      have f3 : w5.frozen? ⟨Bx, 3, none⟩ = false := by simp [World.frozen?, hb5x]
      have f4 : w5.frozen? ⟨Bx, 4, none⟩ = false := by simp [World.frozen?, hb5x]
      have f5 : w5.frozen? ⟨Bx, 5, none⟩ = false := by simp [World.frozen?, hb5x]
      have h1 := heap_setCell_same w5 Bx 3 _ _ (.int .i64 cn) hb5x
      have t1 := TurnT.setCell (A := boxA Bx) (TurnT.refl _ w.heap.size w5) (p := ⟨Bx, 3, none⟩) hb5x ⟨rfl, by simp [ofT]⟩ hnx (.int .i64 cn)
      have h2 := heap_setCell_same _ Bx 4 _ _ (.int .i64 co) h1
      have t2 := TurnT.setCell (A := boxA Bx) t1 (p := ⟨Bx, 4, none⟩) h1 ⟨rfl, by simp [ofT]⟩ hnx (.int .i64 co)
      have h3 := heap_setCell_same _ Bx 5 _ _ (.slice av vs.length cv) h2
      have t3 := TurnT.setCell (A := boxA Bx) t2 (p := ⟨Bx, 5, none⟩) h2 ⟨rfl, by simp [ofT]⟩ hnx (.slice av vs.length cv)
      have H3 := hid h3
      have T3 := hid t3
      clear hsl hx hb5 hba y0 y3 y4 y5 h1 h2 h3 t1 t2 t3 hb5x
      go_wp2
      refine qn_mk ⟨InHeld.of ⟨y3', y4', y5'⟩, ?_⟩
      refine wpSteps_done ?_
      go_wp2
      refine qn_mk (HK.out _ _ ?_)
      generalize hW8 : World.setCell _ _ _ = W8 at *
      clear hW8 y3' y4' y5' f3 f4 f5 HK
      have hb8 : W8.heap[Bx]? = some (.cells #[.int .i64 ck, .int .i64 ci, .int .i64 g', .int .i64 cn, .int .i64 co, .slice av vs.length cv] 61 (0, 0)) := H3.out
      have T28 : TurnT (boxA Bx) w.heap.size W2 W8 := T35.out.trans T3.out
      have T58 : TurnT (boxA Bx) w.heap.size w5 W8 := T3.out
      have hx8 := IntsF.turn HX5.out T58 (by simp [boxA, ofT])
      have hvo8 := T28.2 _ _ hvo2 (by simp [boxA, ofT])
      have hown8 := HOW2.out.turnB T28 (by simp [boxA, ofT]) (fun b c fr hb h => by have := HBL.out b hb; have := h.1; omega)
      have hbel8 := hbel2.trans T28.1
      have q0 : W8.cell? ⟨Bx, 0, none⟩ = some (.int .i64 ck) := by simp [World.cell?, hb8]
      have q1 : W8.cell? ⟨Bx, 1, none⟩ = some (.int .i64 ci) := by simp [World.cell?, hb8]
      have q2 : W8.cell? ⟨Bx, 2, none⟩ = some (.int .i64 g') := by simp [World.cell?, hb8]
      have q3 : W8.cell? ⟨Bx, 3, none⟩ = some (.int .i64 cn) := by simp [World.cell?, hb8]
      have q4 : W8.cell? ⟨Bx, 4, none⟩ = some (.int .i64 co) := by simp [World.cell?, hb8]
      have q5 : W8.cell? ⟨Bx, 5, none⟩ = some (.slice av vs.length cv) := by simp [World.cell?, hb8]
      have hvc := (one_cell hvo8).1
      have hvf := (one_cell hvo8).2
      have hlen2 : ((bxs pre).map turnC).length + 1 ≤ 1000000000 := by
        simp only [bxs, List.length_map]; omega
      generalize hP0 : (bxs pre).map turnC = P0 at *
      have HP0 := hid hP0
      clear hP0
      have hs8 : w.heap.size ≤ W8.heap.size := hbel8.size
      have hu8 := IntsF.zoneI (B := vo.ownBlock) hx8 (fun b hb => by
        obtain ⟨c, fr, e⟩ := hown8.block hb.symm
        exact ⟨c, fr, _, by decide, e⟩)
      have HOW := hid hown8
      clear H3 T3 hb8 T58 HX5 T35 ht3 HB3 hb35 hx8
      gi_wp2_with (gi_at_builtin; go_must (refine wpListIn_appC1 rfl _ _ rfl Try.app30 rfl hown8 rfl ⟨ck, ci, g', cn, co, vs⟩ (.slice av vs.length cv) rfl rfl hu8 hlen2 hs8 ?_))
      intro v' w9 h9 t9
      have h6 := OwnC.zone HOW.out (by decide) h9 t9
      obtain ⟨av', cv', hv', -, -, -⟩ := h6.sl.form
      generalize (P0 ++ [(⟨ck, ci, g', cn, co, vs⟩ : Chg)]).length = L at hv'
      subst hv'
      have hvo9 : w9.heap[w.heap.size]? = some (.cells #[vo] 30 (0, 0)) := by
        rw [t9.block w.heap.size (fun e => by
          obtain ⟨c, fr, e2⟩ := HOW.out.block e
          rw [hvo8] at e2
          simp at e2) (Array.getElem?_eq_some_iff.1 hvo8).1]
        exact hvo8
      have hvc9 := (one_cell hvo9).1
      have hvf9 := (one_cell hvo9).2
      have ht9 : TurnT (turnT w.heap.size) w.heap.size W8 w9 := (TurnT.refl _ _ _).grown hs8 t9 (fun b hb => ⟨(HOW.out.lt b hb).1, fun o ho => by
        obtain ⟨c, fr, e2⟩ := HOW.out.block hb
        rw [e2] at ho
        cases ho
        exact .inr (by simp [ofT])⟩)
      have ht10 : TurnT (outA w.heap.size) w.heap.size w9 (w9.setCell ⟨w.heap.size, 0, none⟩ (.slice av' L cv')) := TurnT.setCell (A := outA w.heap.size) (TurnT.refl _ _ _) (p := ⟨w.heap.size, 0, none⟩) hvo9 ⟨rfl, by simp [ofT]⟩ (Nat.le_refl _) _
      have ht29 : TurnT (turnT w.heap.size) w.heap.size W2 (w9.setCell ⟨w.heap.size, 0, none⟩ (.slice av' L cv')) := ((T28.mono boxA_turn).trans ht9).trans (ht10.mono (fun b o h => .inl h))
      have HP7 : Hid (TurnT (turnT w.heap.size) w.heap.size W2 (w9.setCell ⟨w.heap.size, 0, none⟩ (.slice av' L cv')) ∧ TI w w.heap.size (pre ++ [((ix, (⟨ck, ci, (-2), co, cn, vs⟩ : Chg), ax, cx) : Go.Proofs.Ytagnjhhbbjbhcaa.Bx)]) (w9.setCell ⟨w.heap.size, 0, none⟩ (.slice av' L cv'))) :=
        hid ⟨ht29, ⟨_, one_set _ hvo9, by
          have := h6.turn ht10 (by simp [outA, ofT]) (by simp [outA, ofT])
          have e : (bxs (pre ++ [((ix, (⟨ck, ci, (-2), co, cn, vs⟩ : Chg), ax, cx) : Go.Proofs.Ytagnjhhbbjbhcaa.Bx)])).map turnC = P0 ++ [(⟨ck, ci, g', cn, co, vs⟩ : Chg)] := by
            rw [← HP0.out, ← HTC2.out]; simp [bxs]
          rw [e]
          exact this⟩, hbel2.trans ht29.1⟩
      clear h9 h6 t9 ht9 ht10 ht29 HOW hvo8 hvo9 hu8 hown8 q0 q1 q2 q3 q4 q5 T28
      gi_wp2
      exact HP7.out
    · have d1 : (cf == -1) = false := beqF hcf1
      have d2 : (cf == -2) = false := beqF hcf2
      obtain ⟨g', -, tc, hb3⟩ := HTG.out W2 cf hbx (HTC.out.2.2 hcf1 hcf2)
      have HTC2 := hid tc
      have HB3 := hid hb3
      clear tc hb3 HTC HTG HS HT hcf1 hcf2
      gi_wp2
      obtain ⟨W3, hW3⟩ : ∃ W3, W3 = W2 := ⟨_, rfl⟩
      have ht3 : Hid (TurnT (boxA Bx) w.heap.size W2 W3) := hid (by rw [hW3]; exact TurnT.refl _ _ _)
      rw [← hW3] at HB3 ⊢
      have HW3 := hid hW3
      clear hW3 x2 xf hbx
      have hs3 : w.heap.size ≤ W3.heap.size := (hbel2.trans ht3.out.1).size
      have hb3 := HB3.out
      have y0 : W3.cell? ⟨Bx, 0, none⟩ = some (.int .i64 ck) := by simp [World.cell?, hb3]
      have y3 : W3.cell? ⟨Bx, 3, none⟩ = some (.int .i64 co) := by simp [World.cell?, hb3]
      have y4 : W3.cell? ⟨Bx, 4, none⟩ = some (.int .i64 cn) := by simp [World.cell?, hb3]
      have y5 : W3.cell? ⟨Bx, 5, none⟩ = some (.slice ax vs.length cx) := by simp [World.cell?, hb3]
      clear hb3
      refine wpIn_region_held 8 [(true, 0), (true, 1), (true, 2), (true, 3), (true, 4), (true, 5), (true, 7), (false, 6)]
        (fun W => W.cell? ⟨Bx, 3, none⟩ = some (.int .i64 co) ∧ W.cell? ⟨Bx, 4, none⟩ = some (.int .i64 cn) ∧ W.cell? ⟨Bx, 5, none⟩ = some (.slice ax vs.length cx)) (by kernel_rfl) (by kernel_rfl) (by kernel_rfl) ⟨y3, y4, y5⟩ ?_
      intro hne K hK
      have HK := hid hK
      clear hK
      refine wpSteps_pre 6 (by decide) ?_
      simp only [List.take_succ_cons, List.take_zero]
      have z3 : ∀ x : Held (fun W => W.cell? ⟨Bx, 3, none⟩ = some (.int .i64 co) ∧ W.cell? ⟨Bx, 4, none⟩ = some (.int .i64 cn) ∧ W.cell? ⟨Bx, 5, none⟩ = some (.slice ax vs.length cx)), x.1.cell? ⟨Bx, 3, none⟩ = some (.int .i64 co) := fun x => x.2.1
      have z4 : ∀ x : Held (fun W => W.cell? ⟨Bx, 3, none⟩ = some (.int .i64 co) ∧ W.cell? ⟨Bx, 4, none⟩ = some (.int .i64 cn) ∧ W.cell? ⟨Bx, 5, none⟩ = some (.slice ax vs.length cx)), x.1.cell? ⟨Bx, 4, none⟩ = some (.int .i64 cn) := fun x => x.2.2.1
      have z5 : ∀ x : Held (fun W => W.cell? ⟨Bx, 3, none⟩ = some (.int .i64 co) ∧ W.cell? ⟨Bx, 4, none⟩ = some (.int .i64 cn) ∧ W.cell? ⟨Bx, 5, none⟩ = some (.slice ax vs.length cx)), x.1.cell? ⟨Bx, 5, none⟩ = some (.slice ax vs.length cx) := fun x => x.2.2.2
      repeat (go_big_quiet_step (fail))
      refine wpQuiet_nil ?_
      refine wpSteps_quiet rfl ?_
      repeat (go_big_quiet_step (fail))
      refine wpQuiet_nil ?_
      refine wpSteps_one rfl ?_
      clear z3 z4 z5 hne
      go_wp2_with fail
      have hba : Below W3.heap.size W3 (W3.drewN 1) := below_drewN (Below.refl _ _) 1
      refine (clone_any vs hvl _ (· < w.heap.size) _ ((hint2.keep (KeepS.of_below ht3.out.1 (fun _ h => h))).keep (KeepS.below hba))).mono ?_
      rintro e w5 ⟨x, rfl, hx, hb5⟩
      have hb35 : Below W3.heap.size W3 w5 := hba.trans hb5
      have hsl := hx.sl
      obtain ⟨av, cv, rfl, -, -, -⟩ := hsl.form
      have y3' := cell_later hb35 y3
      have y4' := cell_later hb35 y4
      have y5' := cell_later hb35 y5
      have hb5x : w5.heap[Bx]? = some (.cells #[.int .i64 ck, .int .i64 ci, .int .i64 g', .int .i64 co, .int .i64 cn, .slice ax vs.length cx] 61 (0, 0)) := (hb35.block _ (Array.getElem?_eq_some_iff.1 HB3.out).1).trans HB3.out
      have HX5 := hid hx
      have T35 : Hid (TurnT (boxA Bx) w.heap.size W2 w5) := hid (ht3.out.trans (TurnT.of_below hb35 hs3))
      have f3 : w5.frozen? ⟨Bx, 3, none⟩ = false := by simp [World.frozen?, hb5x]
      have f4 : w5.frozen? ⟨Bx, 4, none⟩ = false := by simp [World.frozen?, hb5x]
      have f5 : w5.frozen? ⟨Bx, 5, none⟩ = false := by simp [World.frozen?, hb5x]
      have h1 := heap_setCell_same w5 Bx 3 _ _ (.int .i64 cn) hb5x
      have t1 := TurnT.setCell (A := boxA Bx) (TurnT.refl _ w.heap.size w5) (p := ⟨Bx, 3, none⟩) hb5x ⟨rfl, by simp [ofT]⟩ hnx (.int .i64 cn)
      have h2 := heap_setCell_same _ Bx 4 _ _ (.int .i64 co) h1
      have t2 := TurnT.setCell (A := boxA Bx) t1 (p := ⟨Bx, 4, none⟩) h1 ⟨rfl, by simp [ofT]⟩ hnx (.int .i64 co)
      have h3 := heap_setCell_same _ Bx 5 _ _ (.slice av vs.length cv) h2
      have t3 := TurnT.setCell (A := boxA Bx) t2 (p := ⟨Bx, 5, none⟩) h2 ⟨rfl, by simp [ofT]⟩ hnx (.slice av vs.length cv)
      have H3 := hid h3
      have T3 := hid t3
      clear hsl hx hb5 hba y0 y3 y4 y5 h1 h2 h3 t1 t2 t3 hb5x
      go_wp2
      refine qn_mk ⟨InHeld.of ⟨y3', y4', y5'⟩, ?_⟩
      refine wpSteps_done ?_
      go_wp2
      refine qn_mk (HK.out _ _ ?_)
      generalize hW8 : World.setCell _ _ _ = W8 at *
      clear hW8 y3' y4' y5' f3 f4 f5 HK
      have hb8 : W8.heap[Bx]? = some (.cells #[.int .i64 ck, .int .i64 ci, .int .i64 g', .int .i64 cn, .int .i64 co, .slice av vs.length cv] 61 (0, 0)) := H3.out
      have T28 : TurnT (boxA Bx) w.heap.size W2 W8 := T35.out.trans T3.out
      have T58 : TurnT (boxA Bx) w.heap.size w5 W8 := T3.out
      have hx8 := IntsF.turn HX5.out T58 (by simp [boxA, ofT])
      have hvo8 := T28.2 _ _ hvo2 (by simp [boxA, ofT])
      have hown8 := HOW2.out.turnB T28 (by simp [boxA, ofT]) (fun b c fr hb h => by have := HBL.out b hb; have := h.1; omega)
      have hbel8 := hbel2.trans T28.1
      have q0 : W8.cell? ⟨Bx, 0, none⟩ = some (.int .i64 ck) := by simp [World.cell?, hb8]
      have q1 : W8.cell? ⟨Bx, 1, none⟩ = some (.int .i64 ci) := by simp [World.cell?, hb8]
      have q2 : W8.cell? ⟨Bx, 2, none⟩ = some (.int .i64 g') := by simp [World.cell?, hb8]
      have q3 : W8.cell? ⟨Bx, 3, none⟩ = some (.int .i64 cn) := by simp [World.cell?, hb8]
      have q4 : W8.cell? ⟨Bx, 4, none⟩ = some (.int .i64 co) := by simp [World.cell?, hb8]
      have q5 : W8.cell? ⟨Bx, 5, none⟩ = some (.slice av vs.length cv) := by simp [World.cell?, hb8]
      have hvc := (one_cell hvo8).1
      have hvf := (one_cell hvo8).2
      have hlen2 : ((bxs pre).map turnC).length + 1 ≤ 1000000000 := by
        simp only [bxs, List.length_map]; omega
      generalize hP0 : (bxs pre).map turnC = P0 at *
      have HP0 := hid hP0
      clear hP0
      have hs8 : w.heap.size ≤ W8.heap.size := hbel8.size
      have hu8 := IntsF.zoneI (B := vo.ownBlock) hx8 (fun b hb => by
        obtain ⟨c, fr, e⟩ := hown8.block hb.symm
        exact ⟨c, fr, _, by decide, e⟩)
      have HOW := hid hown8
      clear H3 T3 hb8 T58 HX5 T35 ht3 HB3 hb35 hx8
      gi_wp2_with (gi_at_builtin; go_must (refine wpListIn_appC1 rfl _ _ rfl Try.app30 rfl hown8 rfl ⟨ck, ci, g', cn, co, vs⟩ (.slice av vs.length cv) rfl rfl hu8 hlen2 hs8 ?_))
      intro v' w9 h9 t9
      have h6 := OwnC.zone HOW.out (by decide) h9 t9
      obtain ⟨av', cv', hv', -, -, -⟩ := h6.sl.form
      generalize (P0 ++ [(⟨ck, ci, g', cn, co, vs⟩ : Chg)]).length = L at hv'
      subst hv'
      have hvo9 : w9.heap[w.heap.size]? = some (.cells #[vo] 30 (0, 0)) := by
        rw [t9.block w.heap.size (fun e => by
          obtain ⟨c, fr, e2⟩ := HOW.out.block e
          rw [hvo8] at e2
          simp at e2) (Array.getElem?_eq_some_iff.1 hvo8).1]
        exact hvo8
      have hvc9 := (one_cell hvo9).1
      have hvf9 := (one_cell hvo9).2
      have ht9 : TurnT (turnT w.heap.size) w.heap.size W8 w9 := (TurnT.refl _ _ _).grown hs8 t9 (fun b hb => ⟨(HOW.out.lt b hb).1, fun o ho => by
        obtain ⟨c, fr, e2⟩ := HOW.out.block hb
        rw [e2] at ho
        cases ho
        exact .inr (by simp [ofT])⟩)
      have ht10 : TurnT (outA w.heap.size) w.heap.size w9 (w9.setCell ⟨w.heap.size, 0, none⟩ (.slice av' L cv')) := TurnT.setCell (A := outA w.heap.size) (TurnT.refl _ _ _) (p := ⟨w.heap.size, 0, none⟩) hvo9 ⟨rfl, by simp [ofT]⟩ (Nat.le_refl _) _
      have ht29 : TurnT (turnT w.heap.size) w.heap.size W2 (w9.setCell ⟨w.heap.size, 0, none⟩ (.slice av' L cv')) := ((T28.mono boxA_turn).trans ht9).trans (ht10.mono (fun b o h => .inl h))
      have HP7 : Hid (TurnT (turnT w.heap.size) w.heap.size W2 (w9.setCell ⟨w.heap.size, 0, none⟩ (.slice av' L cv')) ∧ TI w w.heap.size (pre ++ [((ix, (⟨ck, ci, cf, co, cn, vs⟩ : Chg), ax, cx) : Go.Proofs.Ytagnjhhbbjbhcaa.Bx)]) (w9.setCell ⟨w.heap.size, 0, none⟩ (.slice av' L cv'))) :=
        hid ⟨ht29, ⟨_, one_set _ hvo9, by
          have := h6.turn ht10 (by simp [outA, ofT]) (by simp [outA, ofT])
          have e : (bxs (pre ++ [((ix, (⟨ck, ci, cf, co, cn, vs⟩ : Chg), ax, cx) : Go.Proofs.Ytagnjhhbbjbhcaa.Bx)])).map turnC = P0 ++ [(⟨ck, ci, g', cn, co, vs⟩ : Chg)] := by
            rw [← HP0.out, ← HTC2.out]; simp [bxs]
          rw [e]
          exact this⟩, hbel2.trans ht29.1⟩
      clear h9 h6 t9 ht9 ht10 ht29 HOW hvo8 hvo9 hu8 hown8 q0 q1 q2 q3 q4 q5 T28
      gi_wp2
      exact HP7.out
  case hdone =>
    intro D xs W hD hxs hp hk
    obtain ⟨vo, hvo, hown⟩ := hp.out
    have hvc := (one_cell hvo).1
    have HOW := hid hown
    have HM := hid ((Marks.nil w.heap.size w4.heap.size W).push hD (Nat.le_trans hn0 hD) hk)
    have he : (bxs xs).map turnC = turnL cs := by rw [hxs]; unfold turnL; rw [List.map_reverse]
    have HE := hid he
    have HB := hid hp.below
    clear hvo hown hp hk hxs he
    go_wp2
    refine leave_marks1 rfl HM.out (fun w' ht => ⟨vo, rfl, ?_, HB.out.trans ht.1⟩)
    rw [← HE.out]
    exact (OwnC.turn HOW.out ht (by simp [isBook, book]) (by simp [isBook, book])).sl

theorem pturn_any (cs : List Chg) (hc : cs.length ≤ 100000) (hcv : ∀ c ∈ cs, c.values.length ≤ 100000) (u : Value) (S : Nat → Prop) (w : World) (hu : ChV S w u cs) :
    Calls Try.prog 18 #[u] w fun e w' => ∃ x, e = .returned x ∧ ChV AnyB w' x (turnL cs) ∧ Below w.heap.size w w' := by
  refine (pturn_int cs hc hcv u S w hu).mono ?_
  rintro e w' ⟨x, rfl, h, hb⟩
  exact ⟨x, rfl, h.mono (fun _ _ _ => trivial), hb⟩

end Go.Proofs.Ytagnjhhbbjbhcaa
