/- Maps of the call's own whose keys are ints. Appends of changes, with a word on the block. -/
import Derived.Test.YteepdnamkcgndaaM7
import Derived.Maps.OwnSet
import Derived.Maps.Views
import Derived.Maps.RangeWalk
namespace Go.Proofs.Yteepdnamkcgndaa
open Go.RowKit

theorem underInt : Try.prog.underlying 3 = some (.int .i64) := by kernel_rfl
theorem lawI : Maps.Keyed Try.prog 3 := Maps.int_keyed underInt
/-- How an element reads: as itself. -/
def RV (v : Value) : Option (DataW Value × List MemPlace) := some (.held v, [])
def WfI (k : Int) : Prop := -9223372036854775808 ≤ k ∧ k ≤ 9223372036854775807
theorem wf_int {k : Int} (h : WfI k) : (Lit.int .i64 k).wf = true := by
  have h1 : IntKind.i64.min = -9223372036854775808 := by decide
  have h2 : IntKind.i64.max = 9223372036854775807 := by decide
  unfold WfI at h
  simp only [Lit.wf, h1, h2]
  simp
  omega
theorem wf_int' {k : Int} (h : (Lit.int .i64 k).wf = true) : WfI k := by
  have h1 : IntKind.i64.min = -9223372036854775808 := by decide
  have h2 : IntKind.i64.max = 9223372036854775807 := by decide
  unfold WfI
  simp only [Lit.wf, h1, h2] at h
  simp at h
  omega
theorem key_int {k : Int} (h : WfI k) : keyOf Try.prog 3 (.int .i64 k) = some (.int .i64 k) := Maps.keyOf_int_mk underInt (wf_int h)
theorem lit_inj {j k : Int} (h : j ≠ k) : (Lit.int .i64 j) ≠ .int .i64 k := fun e => h (Lit.int.inj e).2

/-- The entries as a datum. -/
def ReadsF (D : DataW Value) (f : Int → Option Value) : Prop := ∀ k, WfI k → Maps.has D (.int .i64 k) = (f k).isSome ∧ ∀ v, f k = some v → ∀ z, D.atKey (.int .i64 k) z = .held v
/-- Block b is a map of at most n entries: f says which. -/
def MapI (w : World) (b n : Nat) (f : Int → Option Value) : Prop := ∃ D : DataW Value, w.ownsMap Try.prog 3 RV b n D ∧ ReadsF D f
/-- One entry more. -/
def putF (f : Int → Option Value) (k : Int) (v : Value) : Int → Option Value := fun j => if j = k then some v else f j

theorem MapI.made (w : World) : MapI (w.alloc (.map #[] 0)) w.heap.size 0 (fun _ => none) :=
  ⟨.map [], World.ownsMap_made _ _ _ _, fun _ _ => ⟨rfl, fun v h => by cases h⟩⟩
theorem MapI.keep {w w' : World} {b n : Nat} {f : Int → Option Value} (h : MapI w b n f) (hk : w'.heap[b]? = w.heap[b]?) : MapI w' b n f := by
  obtain ⟨D, ⟨es, clock, hb, F, r⟩, r2⟩ := h
  exact ⟨D, ⟨es, clock, by rw [hk]; exact hb, F, r⟩, r2⟩
theorem MapI.obj {w : World} {b n : Nat} {f : Int → Option Value} (h : MapI w b n f) : ∃ es cl, w.heap[b]? = some (.map es cl) := by
  obtain ⟨D, ⟨es, clock, hb, _⟩, _⟩ := h
  exact ⟨_, _, hb⟩
theorem MapI.lt {w : World} {b n : Nat} {f : Int → Option Value} (h : MapI w b n f) : b < w.heap.size := by
  obtain ⟨es, cl, h⟩ := h.obj
  exact (Array.getElem?_eq_some_iff.1 h).1
theorem MapI.congr {w : World} {b n : Nat} {f g : Int → Option Value} (h : MapI w b n f) (he : ∀ k, WfI k → f k = g k) : MapI w b n g := by
  obtain ⟨D, h1, h2⟩ := h
  exact ⟨D, h1, fun k hk => by rw [← he k hk]; exact h2 k hk⟩

section
variable {w : World} {b n : Nat} {f : Int → Option Value} {t e : TypeId}

theorem MapI.look (h : MapI w b n f) (ht : Try.prog.underlying t = some (.map 3 e)) {z : Value} (hz : ∀ w, (zeroValue e).run Try.prog w = .ok z w) {k : Int} (hk : WfI k) :
    (Instr.lookup t (.map (some b)) (.int .i64 k) false).run Try.prog w = .ok ((f k).getD z) w := by
  obtain ⟨D, h1, h2⟩ := h
  obtain ⟨v, ps, hrun, hv⟩ := h1.lookup lawI ht (z := z) (zd := .held z) (zp := []) (hz w) rfl (key_int hk)
  obtain ⟨h3, h4⟩ := h2 k hk
  have e1 : DataW.held v = D.atKey (.int .i64 k) (.held z) := (Prod.mk.inj (Option.some.inj hv)).1
  cases hf : f k with
  | none =>
    rw [hf] at h3
    rw [Maps.atKey_of_not_has h3] at e1
    have e1 := DataW.held.inj e1
    rw [hrun, e1]
    rfl
  | some u =>
    rw [h4 u hf] at e1
    have e1 := DataW.held.inj e1
    rw [hrun, e1]
    rfl
theorem MapI.look_ok (h : MapI w b n f) (ht : Try.prog.underlying t = some (.map 3 e)) {z : Value} (hz : ∀ w, (zeroValue e).run Try.prog w = .ok z w) {k : Int} (hk : WfI k) :
    (Instr.lookup t (.map (some b)) (.int .i64 k) true).run Try.prog w = .ok (.tuple #[(f k).getD z, .bool (f k).isSome]) w := by
  obtain ⟨D, h1, h2⟩ := h
  obtain ⟨v, ps, hrun, hv⟩ := h1.look_ok lawI ht (z := z) (zd := .held z) (zp := []) (hz w) rfl (key_int hk)
  obtain ⟨h3, h4⟩ := h2 k hk
  have e1 : DataW.held v = D.atKey (.int .i64 k) (.held z) := (Prod.mk.inj (Option.some.inj hv)).1
  rw [h3] at hrun
  cases hf : f k with
  | none =>
    rw [hf] at h3 hrun
    rw [Maps.atKey_of_not_has h3] at e1
    have e1 := DataW.held.inj e1
    rw [hrun, e1]
    rfl
  | some u =>
    rw [hf] at hrun
    rw [h4 u hf] at e1
    have e1 := DataW.held.inj e1
    rw [hrun, e1]
    rfl
theorem MapI.store (h : MapI w b n f) (ht : Try.prog.underlying t = some (.map 3 e)) (hn : n ≤ 1000000000) {k : Int} (hk : WfI k) (v : Value) :
    ∃ w', (Instr.mapUpdate t (.map (some b)) (.int .i64 k) v).run Try.prog w = .ok () w' ∧ MapI w' b (n + 1) (putF f k v) ∧ Turns (· = b) w w' := by
  obtain ⟨D, h1, h2⟩ := h
  have hmx : maxLen = 9223372036854775807 := rfl
  obtain ⟨w', hrun, hown, ht'⟩ := h1.store lawI ht (by omega) (key_int hk) (val := v) (d := .held v) (ps := []) rfl
  refine ⟨w', hrun, ⟨_, hown, fun j hj => ?_⟩, Turns.of_grown ht'.grown (fun b' e => by cases e; rfl)⟩
  unfold putF
  by_cases e : j = k
  · subst e
    rw [if_pos rfl, Maps.has_put_same h1.isMap (lawI.key (key_int hk))]
    refine ⟨rfl, fun u hu z => ?_⟩
    have hu := Option.some.inj hu
    rw [Maps.atKey_put_same h1.isMap (lawI.key (key_int hk)), hu]
  · rw [if_neg e, Maps.has_put_other (lit_inj e)]
    refine ⟨(h2 j hj).1, fun u hu z => ?_⟩
    rw [Maps.atKey_put_other (lit_inj e)]
    exact (h2 j hj).2 u hu z
end

section
variable {ops : Array Oper} {rest : List Oper} {o : Oper} {a : Act} {Q : Exit → Act → World → Prop} {w : World} {b n : Nat} {f : Int → Option Value} {t e : TypeId}

/-- 'm[k]'. -/
theorem wpList_lookI (hg : o.guard = none) (m x : Operand) (hop : o.op = Op.lookup t m x false) (ht : Try.prog.underlying t = some (.map 3 e)) {z : Value} (hz : ∀ w, (zeroValue e).run Try.prog w = .ok z w)
    (hm : a.eval m = .map (some b)) {k : Int} (hx : a.eval x = .int .i64 k) (hk : WfI k) (h : MapI w b n f) {v : Value} (hv : (f k).getD z = v)
    (hK : wpList Try.prog ops Q rest (a.put o.dst v) w) : wpList Try.prog ops Q (o :: rest) a w := by
  subst hv
  refine wpList_plain hg fun K' hK' => ?_
  unfold Oper.wp
  simp [execOp, hop, hm, hx, h.look ht hz hk, Result.andThen]
  exact hK' _ _ hK
/-- 'v, is := m[k]'. -/
theorem wpList_lookOkI (hg : o.guard = none) (m x : Operand) (hop : o.op = Op.lookup t m x true) (ht : Try.prog.underlying t = some (.map 3 e)) {z : Value} (hz : ∀ w, (zeroValue e).run Try.prog w = .ok z w)
    (hm : a.eval m = .map (some b)) {k : Int} (hx : a.eval x = .int .i64 k) (hk : WfI k) (h : MapI w b n f) {v : Value} (hv : (f k).getD z = v) {is : Bool} (his : (f k).isSome = is)
    (hK : wpList Try.prog ops Q rest (a.put o.dst (.tuple #[v, .bool is])) w) : wpList Try.prog ops Q (o :: rest) a w := by
  subst hv his
  refine wpList_plain hg fun K' hK' => ?_
  unfold Oper.wp
  simp [execOp, hop, hm, hx, h.look_ok ht hz hk, Result.andThen]
  exact hK' _ _ hK
/-- 'm[k] = v'. -/
theorem wpList_updI (hg : o.guard = none) (m x y : Operand) (hop : o.op = Op.mapUpdate t m x y) (ht : Try.prog.underlying t = some (.map 3 e))
    (hm : a.eval m = .map (some b)) {k : Int} (hx : a.eval x = .int .i64 k) (hk : WfI k) {v : Value} (hv : a.eval y = v) (hn : n ≤ 1000000000) (h : MapI w b n f)
    (hK : ∀ w', MapI w' b (n + 1) (putF f k v) → Turns (· = b) w w' → wpList Try.prog ops Q rest (a.put o.dst undef) w') : wpList Try.prog ops Q (o :: rest) a w := by
  refine wpList_plain hg fun K' hK' => ?_
  obtain ⟨w', hrun, r1, r2⟩ := h.store ht hn hk v
  unfold Oper.wp
  simp [execOp, hop, hm, hx, hv, hrun, Result.andThen]
  exact hK' _ _ (hK w' r1 r2)

/-- 'for k, v := range m' under way: left says which keys are still to come. -/
def RangesI (w : World) (b r n : Nat) (f : Int → Option Value) (left : Int → Bool) (cnt : Nat) : Prop :=
  ∃ (D : DataW Value) (L : Lit → Bool), w.ranges Try.prog 3 RV b r n D L cnt ∧ ReadsF D f ∧ ∀ k, WfI k → L (.int .i64 k) = left k
theorem RangesI.map {left : Int → Bool} {r cnt : Nat} (h : RangesI w b r n f left cnt) : MapI w b n f := by
  obtain ⟨D, L, h1, h2, _⟩ := h
  exact ⟨D, h1.owns, h2⟩
theorem RangesI.keep {w' : World} {left : Int → Bool} {r cnt : Nat} (h : RangesI w b r n f left cnt) (hb : w'.heap[b]? = w.heap[b]?) (hr : w'.heap[r]? = w.heap[r]?) : RangesI w' b r n f left cnt := by
  obtain ⟨D, L, ⟨es, clock, since, seen, c0, h1, h2, h3, h4, h5, h6⟩, h7⟩ := h
  exact ⟨D, L, ⟨es, clock, since, seen, c0, by rw [hb]; exact h1, h2, h3, h4, by rw [hr]; exact h5, h6⟩, h7⟩
theorem RangesI.lt {left : Int → Bool} {r cnt : Nat} (h : RangesI w b r n f left cnt) : r < w.heap.size := by
  obtain ⟨D, L, h1, _⟩ := h
  exact h1.lt

/-- 'range m'. -/
theorem wpList_rangeI (hg : o.guard = none) (m : Operand) (hop : o.op = Op.range t m) (ht : Try.prog.underlying t = some (.map 3 e)) (hm : a.eval m = .map (some b)) (h : MapI w b n f)
    (hK : ∀ w' cnt, RangesI w' b w.heap.size n f (fun k => (f k).isSome) cnt → Below w.heap.size w w' → w'.heap.size = w.heap.size + 1 → wpList Try.prog ops Q rest (a.put o.dst (.pointer (some ⟨w.heap.size, 0, none⟩))) w') :
    wpList Try.prog ops Q (o :: rest) a w := by
  refine wpList_plain hg fun K' hK' => ?_
  obtain ⟨D, h1, h2⟩ := h
  obtain ⟨w', hrun, r1, r2, r3⟩ := h1.range lawI ht
  unfold Oper.wp
  simp [execOp, hop, hm, hrun, Result.andThen]
  exact hK' _ _ (hK w' _ ⟨D, _, r1, h2, fun k hk => (h2 k hk).1⟩ ⟨r2.os, r2.tape, r2.output, r2.size, fun i hi => r2.block i hi (by simp)⟩ r3)
/-- The step. -/
theorem wpList_nextI (hg : o.guard = none) (it : Operand) (hop : o.op = Op.next it false) {left : Int → Bool} {r cnt : Nat} (hit : a.eval it = .pointer (some ⟨r, 0, none⟩)) (h : RangesI w b r n f left cnt)
    (hDone : (∀ k, WfI k → left k = false) → wpList Try.prog ops Q rest (a.put o.dst (.tuple #[.bool false])) w)
    (hMore : ∀ (k : Int) (v : Value) (w' : World) (cnt' : Nat), WfI k → f k = some v → RangesI w' b r n f (fun j => left j && !decide (j = k)) cnt' → cnt' < cnt → Turns (· = r) w w' → w'.heap.size = w.heap.size →
      (Instr.entry (.pointer (some ⟨r, 0, none⟩))).run Try.prog w' = .ok (.tuple #[.int .i64 k, v]) w' → wpList Try.prog ops Q rest (a.put o.dst (.tuple #[.bool true, .int .i64 k, v])) w') :
    wpList Try.prog ops Q (o :: rest) a w := by
  refine wpList_plain hg fun K' hK' => ?_
  obtain ⟨D, L, h1, h2, h3⟩ := h
  unfold Oper.wp
  rcases h1.next lawI o.type with ⟨h0, hl, hrun⟩ | ⟨key, v, kl, y, w', cnt', hkey, hlk, hv, hat, hrun, hrg, hlt, hgr, hsz, hen⟩
  · simp [execOp, hop, hit, hrun, Result.andThen]
    exact hK' _ _ (hDone fun k hk => (h3 k hk).symm.trans (hl _))
  · simp [execOp, hop, hit, hrun, Result.andThen]
    obtain ⟨x, rfl, rfl, hw⟩ := Maps.keyOf_int_inv underInt hkey
    have hwx := wf_int' hw
    have hy : y.1 = .held v := by
      rw [← Option.some.inj hv]
    have hhas : Maps.has D (.int .i64 x) = true := Maps.has_true_of_atKey (y := .held v) (fun z => (hat z).trans hy)
    have hfx : f x = some v := by
      obtain ⟨g1, g2⟩ := h2 x hwx
      rw [hhas] at g1
      cases hf : f x with
      | none => rw [hf] at g1; cases g1
      | some u =>
        rw [DataW.held.inj ((g2 u hf (.held u)).symm.trans ((hat (.held u)).trans hy))]
    refine hK' _ _ (hMore x v w' cnt' hwx hfx ⟨D, _, hrg, h2, fun k hk => ?_⟩ hlt (Turns.of_grown hgr (fun b' e => by cases e; rfl)) hsz hen)
    show (L (.int .i64 k) && !(Lit.int .i64 k).sameKey (.int .i64 x)) = (left k && !decide (k = x))
    rw [h3 k hk]
    by_cases e : k = x
    · subst e
      rw [WideAt.sameKey_self (lawI.key hkey), decide_eq_true rfl]
    · rw [Maps.sameKey_ne (lit_inj e), decide_eq_false e]
end

section
variable {P : Program} {t e : TypeId} {bytes : Nat} {w : World} {ops : Array Oper} {rest : List Oper} {o : Oper} {a : Act} {Q : Exit → Act → World → Prop}

/-- 'append(s, Change{..})'; the block is the old one or a new one. -/
theorem wpList_appC1N (hgd : o.guard = none) (s x : Operand)
    (ho : o.op = .call { callee := .builtin .append, args := #[s, x], argTypes := #[t, t] }) (hT : AppT P t e 6 bytes)
    {S : Nat → Prop} {B : Nat} {v : Value} {cs : List Chg} (hs : a.eval s = v) (hown : OwnC S B e w v cs)
    {e' : TypeId} (hx : a.eval x = .slice (some ⟨w.heap.size, 0, none⟩) 1 1) (c : Chg) (u : Value) {cells : Array Value} (hcells : cells = (c.cells u).toArray) (h1 : u.oneCell' = true)
    (hu : IntsV (fun b => S b ∧ some b ≠ v.ownBlock) w u c.values)
    (hsmall : cs.length + 1 ≤ 1000000000) (hbase : B ≤ w.heap.size)
    (h : ∀ v' w', OwnC S B e w' v' (cs ++ [c]) → Turns (fun b => some b = v.ownBlock) w w' → (v'.ownBlock = v.ownBlock ∨ ∀ b, v'.ownBlock = some b → w.heap.size ≤ b) → wpList P ops Q rest (a.put o.dst v') w') :
    wpList P ops Q (o :: rest) a (w.alloc (.cells cells e')) := by
  subst hcells
  have ha : Below w.heap.size w (w.alloc (.cells (c.cells u).toArray e')) := (Below.refl _ _).alloc (Nat.le_refl _) _
  obtain ⟨us, f1, f2, f3⟩ := hown.below ha
  have hf : flatC [c] [u] = c.cells u := by simp [flatC]
  have hlt := hown.lt
  refine wpList_app hgd s x ho hT hs f1 _ 1 1 hx (fun _ => ⟨_, _, rfl⟩) (c.cells u) rfl (news_alloc w (c.cells u).toArray e') ?_ hsmall (by simp; omega) (fun v' w' g1 g2 g3 => h v' w' ⟨us ++ [u], ?_, ?_, fun j k1 k2 => ?_⟩
    ((Turns.of_below ha).trans (Turns.of_grown g2 fun b hb' => hb'.symm)) ?_)
  · intro x hx
    simp only [Chg.cells, List.mem_cons, List.not_mem_nil, or_false] at hx
    rcases hx with h | h | h | h | h | h <;> rw [h]
    all_goals first | rfl | exact h1
  · rw [flatC_append cs [c] us [u] f2, hf, List.length_append]; exact g1
  · simp [f2]
  · have other : ∀ {q y}, IntsV (fun b => S b ∧ some b ≠ v.ownBlock) (w.alloc (.cells (c.cells u).toArray e')) q y → (∀ b, S b → b < w.heap.size + 1) → True := fun _ _ => trivial
    have other' : ∀ {q y}, IntsV (fun b => (S b ∧ some b ≠ v.ownBlock) ∧ b < (w.alloc (.cells (c.cells u).toArray e')).heap.size) (w.alloc (.cells (c.cells u).toArray e')) q y → IntsV (fun b => S b ∧ some b ≠ v'.ownBlock) w' q y := by
      intro q y hr
      have r2 := IntsV.keep (w' := w') hr (fun b hb' _ => g2.block b hb'.2 hb'.1.2)
      refine IntsV.mono r2 (fun b _ hb' => ⟨hb'.1.1, ?_⟩)
      rcases g3 with g3 | g3
      · rw [g3]; exact hb'.1.2
      · rw [g3]; intro e'; have := Option.some.inj e'; omega
    have toLt : ∀ {q y}, IntsV (fun b => S b ∧ some b ≠ v.ownBlock) (w.alloc (.cells (c.cells u).toArray e')) q y → IntsV (fun b => (S b ∧ some b ≠ v.ownBlock) ∧ b < (w.alloc (.cells (c.cells u).toArray e')).heap.size) (w.alloc (.cells (c.cells u).toArray e')) q y := fun hr => IntsV.mono hr (fun b hlt hb' => ⟨hb', hlt⟩)
    by_cases hj : j < us.length
    · rw [List.getElem_append_left hj, List.getElem_append_left (by omega)]
      exact other' (toLt (f3 j hj (by omega)))
    · have e1 : j = us.length := by simp at k1; omega
      subst e1
      simp only [List.getElem_concat_length]
      have e2 : us.length = cs.length := f2
      simp only [e2, List.getElem_concat_length]
      exact other' (toLt (hu.keep (KeepS.below ha)))
  · rcases g3 with g3 | g3
    · exact .inl g3
    · refine .inr fun b hb => ?_
      rw [g3] at hb
      have hb := Option.some.inj hb
      simp at hb
      omega
end

end Go.Proofs.Yteepdnamkcgndaa
