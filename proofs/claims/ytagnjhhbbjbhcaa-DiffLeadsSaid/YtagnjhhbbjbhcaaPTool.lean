/- What the program's Diff wants beside: rows of changes under a range's turns; the marks of its loops. -/
import Derived.Test.YtagnjhhbbjbhcaaIter
namespace Go.Proofs.Ytagnjhhbbjbhcaa
open Go.RowKit

/-- b is a row of numbers. -/
def intB (w : World) (b : Nat) : Prop := ∃ c fr, w.heap[b]? = some (.cells c 3 fr)

theorem IntsV.turnI {A : Nat → Obj → Prop} {n0 : Nat} {w w' : World} {v : Value} {xs : List Int} {B : Option Nat} (h : IntsV (fun b => intB w b ∧ some b ≠ B) w v xs) (ht : TurnT A n0 w w') (hA : ∀ b c fr, ¬ A b (.cells c 3 fr)) :
    IntsV (fun b => intB w' b ∧ some b ≠ B) w' v xs := by
  have h1 := IntsV.keep (w' := w') h (fun b hb hlt => by
    obtain ⟨⟨c, fr, e⟩, _⟩ := hb
    rw [e]; exact ht.2 _ _ e (hA _ _ _))
  refine IntsV.mono h1 (fun b _ hb => ⟨?_, hb.2⟩)
  obtain ⟨⟨c, fr, e⟩, _⟩ := hb
  exact ⟨c, fr, ht.2 _ _ e (hA _ _ _)⟩

/-- A row of changes stays where rows of changes and of numbers stay. -/
theorem OwnC.turn {A : Nat → Obj → Prop} {n0 B : Nat} {e : TypeId} {w w' : World} {v : Value} {cs : List Chg} (h : OwnC (intB w) B e w v cs) (ht : TurnT A n0 w w')
    (hA : ∀ b c fr, ¬ A b (.cells c 3 fr)) (hE : ∀ b c fr, ¬ A b (.cells c e fr)) : OwnC (intB w') B e w' v cs := by
  obtain ⟨us, ⟨g1, g2⟩, h2, h3⟩ := h
  refine ⟨us, ⟨g1, ?_⟩, h2, fun j k1 k2 => (h3 j k1 k2).turnI ht hA⟩
  rcases g2 with g2 | ⟨g, cap, cur, ev, hb, hg, r⟩
  · exact .inl g2
  · exact .inr ⟨g, cap, cur, ev, hb, ht.2 _ _ hg (hE _ _ _), r⟩

/-- The row's own block holds changes. -/
theorem OwnC.block {S : Nat → Prop} {B : Nat} {e : TypeId} {w : World} {v : Value} {cs : List Chg} (h : OwnC S B e w v cs) {b : Nat} (hb : some b = v.ownBlock) : ∃ c fr, w.heap[b]? = some (.cells c e fr) := by
  obtain ⟨us, ⟨g1, g2⟩, h2, h3⟩ := h
  rcases g2 with ⟨rfl, _⟩ | ⟨g, cap, cur, rfl, _, hg, r⟩
  · simp [Value.ownBlock] at hb
  · simp only [Value.ownBlock] at hb
    cases hb
    exact ⟨_, _, hg⟩

theorem IntsF.zoneI {S : Nat → Prop} {w : World} {v : Value} {xs : List Int} {B : Option Nat} (h : IntsF S w v xs) (hB : ∀ b, B = some b → ∃ c fr t, t ≠ 3 ∧ w.heap[b]? = some (.cells c t fr)) : IntsV (fun b => intB w b ∧ some b ≠ B) w v xs := by
  have h1 : IntsF (fun b => v.ownBlock = some b) w v xs := ⟨h.1, fun _ h => h⟩
  refine IntsV.mono h1.sl (fun b _ hb => ?_)
  have hi : intB w b := by
    rcases h.1.2 with ⟨rfl, _⟩ | ⟨g, cap, cur, rfl, _, hg, _⟩
    · simp [Value.ownBlock] at hb
    · simp only [Value.ownBlock] at hb
      cases hb
      exact ⟨_, _, hg⟩
  refine ⟨hi, fun e => ?_⟩
  obtain ⟨c, fr, e1⟩ := hi
  obtain ⟨c', fr', t, hne, e2⟩ := hB b e.symm
  rw [e1] at e2
  cases e2
  exact hne rfl

/-- Behind an append the row's zone is told in the new world. -/
theorem OwnC.zone {B : Nat} {e : TypeId} {w w' : World} {v v' : Value} {cs cs' : List Chg} (h : OwnC (intB w) B e w v cs) (he : e ≠ 3) (h' : OwnC (intB w) B e w' v' cs') (ht : Turns (fun b => some b = v.ownBlock) w w') : OwnC (intB w') B e w' v' cs' := by
  obtain ⟨us, g1, g2, g3⟩ := h'
  refine ⟨us, g1, g2, fun j k1 k2 => IntsV.mono (g3 j k1 k2) (fun b _ hb => ⟨?_, hb.2⟩)⟩
  obtain ⟨⟨c, fr, e1⟩, _⟩ := hb
  refine ⟨c, fr, ?_⟩
  rw [ht.block b (fun h1 => ?_) (Array.getElem?_eq_some_iff.1 e1).1]
  · exact e1
  · obtain ⟨c', fr', e2⟩ := h.block h1
    rw [e1] at e2
    cases e2
    exact he rfl

/-- The marks that a function's ranges have left, in blocks below nB. -/
def Marks (n0 nB : Nat) (ds : List Deferred) (w : World) : Prop :=
  ∃ Ds : List Nat, ds = Ds.map (fun D => { target := .collected D, args := #[] }) ∧ Ds.Nodup ∧ ∀ D ∈ Ds, n0 ≤ D ∧ D < nB ∧ w.heap[D]? = some (.deferred (some []))

theorem Marks.nil (n0 nB : Nat) (w : World) : Marks n0 nB [] w := ⟨[], rfl, List.nodup_nil, fun D h => absurd h (by simp)⟩
theorem Marks.mono {n0 nB nB' : Nat} {ds : List Deferred} {w : World} (h : Marks n0 nB ds w) (hn : nB ≤ nB') : Marks n0 nB' ds w := by
  obtain ⟨Ds, h1, h2, h3⟩ := h
  exact ⟨Ds, h1, h2, fun D hD => ⟨(h3 D hD).1, Nat.lt_of_lt_of_le (h3 D hD).2.1 hn, (h3 D hD).2.2⟩⟩
theorem Marks.turn {A : Nat → Obj → Prop} {n0 n1 nB : Nat} {ds : List Deferred} {w w' : World} (h : Marks n0 nB ds w) (ht : TurnT A n1 w w') (hA : ∀ b o, b < nB → A b o → ¬ book o) : Marks n0 nB ds w' := by
  obtain ⟨Ds, h1, h2, h3⟩ := h
  exact ⟨Ds, h1, h2, fun D hD => ⟨(h3 D hD).1, (h3 D hD).2.1, ht.2 _ _ (h3 D hD).2.2 (fun ha => hA _ _ (h3 D hD).2.1 ha trivial)⟩⟩
theorem Marks.push {n0 nB : Nat} {ds : List Deferred} {w : World} (h : Marks n0 nB ds w) {D : Nat} (hD : nB ≤ D) (hn : n0 ≤ D) (hk : w.heap[D]? = some (.deferred (some []))) :
    Marks n0 w.heap.size ({ target := .collected D, args := #[] } :: ds) w := by
  obtain ⟨Ds, h1, h2, h3⟩ := h
  have hlt := (Array.getElem?_eq_some_iff.1 hk).1
  refine ⟨D :: Ds, by rw [h1]; rfl, List.nodup_cons.2 ⟨fun hm => ?_, h2⟩, fun E hE => ?_⟩
  · have := (h3 D hm).2.1
    omega
  · rcases List.mem_cons.1 hE with rfl | hE
    · exact ⟨hn, hlt, hk⟩
    · exact ⟨(h3 E hE).1, by have := (h3 E hE).2.1; omega, (h3 E hE).2.2⟩

/-- The way out past the marks. -/
theorem leaves_marks {P : Program} {n n0 : Nat} {fn : Func} {tmps : Array Value} {R : Ending → World → Prop} {t u : Tmp} (hfn : fn.results = #[.tmp t, .tmp u]) : ∀ (Ds : List Nat) (w : World), Ds.Nodup → (∀ D ∈ Ds, n0 ≤ D ∧ w.heap[D]? = some (.deferred (some []))) →
    (∀ w', TurnT (isBook n0) n0 w w' → R (.returned (.tuple #[tmps.getD t undef, tmps.getD u undef])) w') → LeavesInM Fence.wide n P fn tmps R (Ds.map (fun D => { target := .collected D, args := #[] })) .returning w
  | [], w, _, _, h => ⟨_, results_tmp2 hfn _ _ _, h w (TurnT.refl _ _ _)⟩
  | D :: Ds, w, hn, hD, h => by
    obtain ⟨hnd, hns⟩ := List.nodup_cons.1 hn
    have hk := (hD D List.mem_cons_self)
    have ht : TurnT (isBook n0) n0 w (w.putObj D (.deferred none)) := TurnT.putObj _ hk.2 ⟨hk.1, trivial⟩ hk.1
    refine ⟨by simp, .inl ⟨D, _, rfl, run_takeDeferred hk.2, ?_⟩⟩
    refine leaves_marks hfn Ds _ hns (fun E hE => ⟨(hD E (List.mem_cons_of_mem _ hE)).1, ?_⟩) (fun w' h' => h w' (ht.trans h'))
    have hne : E ≠ D := fun e => hnd (e ▸ hE)
    exact (World.putObj_heap_other hne).trans (hD E (List.mem_cons_of_mem _ hE)).2

theorem leave_marks {P : Program} {n n0 : Nat} {fn : Func} {tmps : Array Value} {ds : List Deferred} {w : World} {R : Ending → World → Prop} {t u : Tmp} (hfn : fn.results = #[.tmp t, .tmp u]) {nB : Nat} (hm : Marks n0 nB ds w)
    (h : ∀ w', TurnT (isBook n0) n0 w w' → R (.returned (.tuple #[tmps.getD t undef, tmps.getD u undef])) w') : bodyPostM Fence.wide n P fn R .ret { tmps, defers := ds } w := by
  obtain ⟨Ds, rfl, hnd, hD⟩ := hm
  exact leaves_marks hfn Ds w hnd (fun D h => ⟨(hD D h).1, (hD D h).2.2⟩) h

theorem heap_step {W : World} {k : Nat} {v : Obj} (o : Obj) (h : W.heap[k]? = some v) : (W.alloc o).heap[k]? = some v :=
  (Below.heap_alloc _ _ _ (Array.getElem?_eq_some_iff.1 h).1).trans h
theorem heap_new {k : Nat} (W : World) (o : Obj) (h : k = W.heap.size) : (W.alloc o).heap[k]? = some o := by
  rw [h]; exact World.alloc_heap_new _ _

section
variable {P : Program} {t e : TypeId} {bytes : Nat} {w : World}

/-- 'append(s, x...)' of changes, as it runs. -/
theorem run_appC (ty : TypeId) (hT : AppT P t e 6 bytes)
    {S : Nat → Prop} {B : Nat} {v : Value} {cs : List Chg} (hown : OwnC S B e w v cs)
    {ao : Option Addr} {m c : Nat} (hok : Slok ao m) (ds : List Chg) (us' : List Value) (hl : us'.length = ds.length) (hm : ds.length = m)
    (hnews : ∀ j u, (flatC ds us')[j]? = some u → w.cell? ⟨slb ao, slo ao + j, none⟩ = some u) (h1 : ∀ u ∈ us', u.oneCell' = true)
    (hu : ∀ j (h1 : j < us'.length) (h2 : j < ds.length), IntsV (fun b => S b ∧ some b ≠ v.ownBlock) w us'[j] ds[j].values)
    (hsmall : cs.length + m ≤ 1000000000) (hbase : B ≤ w.heap.size) :
    ∃ v' w', (Builtin.append_ #[t, t] ty #[v, .slice ao m c]).run P w = .ok v' w' ∧ OwnC S B e w' v' (cs ++ ds) ∧ Turns (fun b => some b = v.ownBlock) w w' := by
  obtain ⟨us, f1, f2, f3⟩ := hown
  have h1' : ∀ u ∈ flatC ds us', u.oneCell' = true := by
    intro u hu'
    unfold flatC at hu'
    obtain ⟨l, hl1, hl2⟩ := List.mem_flatten.1 hu'
    obtain ⟨i, hi, rfl⟩ := List.getElem_of_mem hl1
    rw [List.getElem_zipWith] at hl2
    simp only [Chg.cells, List.mem_cons, List.not_mem_nil, or_false] at hl2
    rcases hl2 with h | h | h | h | h | h <;> rw [h]
    all_goals first | rfl | exact h1 _ (List.getElem_mem _)
  obtain ⟨v', w', hr, g1, g2, g3⟩ := run_app ty hT f1 ao m c hok (flatC ds us') (by rw [flatC_len ds us' hl, hm]) hnews h1' hsmall hbase
  refine ⟨v', w', hr, ⟨us ++ us', ?_, ?_, fun j k1 k2 => ?_⟩, Turns.of_grown g2 fun b hb' => hb'.symm⟩
  · rw [flatC_append cs ds us us' f2, List.length_append, hm]; exact g1
  · simp [f2, hl]
  · have other : ∀ {u y}, IntsV (fun b => S b ∧ some b ≠ v.ownBlock) w u y → IntsV (fun b => S b ∧ some b ≠ v'.ownBlock) w' u y := by
      intro u y hr
      have r1 := IntsV.mono (S' := fun b => (S b ∧ some b ≠ v.ownBlock) ∧ b < w.heap.size) hr (fun b hlt hb' => ⟨hb', hlt⟩)
      have r2 := IntsV.keep (w' := w') r1 (fun b hb' _ => g2.block b hb'.2 hb'.1.2)
      refine IntsV.mono r2 (fun b _ hb' => ⟨hb'.1.1, ?_⟩)
      rcases g3 with g3 | g3
      · rw [g3]; exact hb'.1.2
      · rw [g3]; intro e'; have := Option.some.inj e'; omega
    by_cases hj : j < us.length
    · rw [List.getElem_append_left hj, List.getElem_append_left (by omega)]
      exact other (f3 j hj (by omega))
    · have k1' : j < us.length + us'.length := by simpa using k1
      have k2' : j < cs.length + ds.length := by simpa using k2
      rw [List.getElem_append_right (by omega), List.getElem_append_right (by omega)]
      have e1 : j - us.length = j - cs.length := by omega
      have hr := hu (j - us.length) (by omega) (by omega)
      simp only [e1] at hr ⊢
      exact other hr

/-- 'append(s, Change{..})' within a fence. -/
theorem wpListIn_appC1 {F : Fence} {nf : Nat} {ops : Array Oper} {rest : List Oper} {o : Oper} {a : Act} {Q : Exit → Act → World → Prop} (hgd : o.guard = none) (s x : Operand)
    (ho : o.op = .call { callee := .builtin .append, args := #[s, x], argTypes := #[t, t] }) (hT : AppT P t e 6 bytes)
    {S : Nat → Prop} {B : Nat} {v : Value} {cs : List Chg} (hs : a.eval s = v) (hown : OwnC S B e w v cs)
    {e' : TypeId} (hx : a.eval x = .slice (some ⟨w.heap.size, 0, none⟩) 1 1) (c : Chg) (u : Value) {cells : Array Value} (hcells : cells = (c.cells u).toArray) (h1 : u.oneCell' = true)
    (hu : IntsV (fun b => S b ∧ some b ≠ v.ownBlock) w u c.values)
    (hsmall : cs.length + 1 ≤ 1000000000) (hbase : B ≤ w.heap.size)
    (h : ∀ v' w', OwnC S B e w' v' (cs ++ [c]) → Turns (fun b => some b = v.ownBlock) w w' → wpListIn F nf P ops Q rest (a.put o.dst v') w') :
    wpListIn F nf P ops Q (o :: rest) a (w.alloc (.cells cells e')) := by
  subst hcells
  have ha : Below w.heap.size w (w.alloc (.cells (c.cells u).toArray e')) := (Below.refl _ _).alloc (Nat.le_refl _) _
  have hf : flatC [c] [u] = c.cells u := by simp [flatC]
  obtain ⟨v', w', hr, g1, g2⟩ := run_appC (P := P) (w := w.alloc (.cells (c.cells u).toArray e')) o.type hT (hown.below ha) (ao := some ⟨w.heap.size, 0, none⟩) (m := 1) (c := 1) (fun _ => ⟨_, _, rfl⟩) [c] [u] rfl rfl
    (by rw [hf]; exact news_alloc w (c.cells u).toArray e') (by simpa using h1) (by
      intro j g1 g2
      obtain rfl : j = 0 := by simp at g1; omega
      exact hu.keep (KeepS.below ha)) hsmall (by simp; omega)
  refine wpListIn_plain hgd fun K hK' => ?_
  unfold Oper.wpIn
  refine ⟨?_, ?_⟩
  · simp [Oper.about, ho, resolve, Target.leads, Sem.run_pure]
  · rw [Oper.semAt_plain F _ _ (by rw [ho]; intro c hc'; cases hc')]
    simp [execOp, ho, resolve, invoke, builtin, hs, hx, hr, Result.andThen]
    exact hK' _ _ (h v' w' g1 ((Turns.of_below ha).trans ⟨g2.os, g2.tape, g2.output, g2.size, g2.block⟩))
end

/-- A function of the program's own is entered. -/
theorem fn_enters {P : Program} {f : FuncId} {fn : Func} {c : Code} (hf : P.funcs[f]? = some fn) (hn : (fn.name == "runtime.NumGoroutine") = false) (hb : fn.body = some c) (args : Array Value) (w : World) : (callFunc f args).run P w = .ok (.enter f args) w := by
  have hne : fn.name ≠ "runtime.NumGoroutine" := fun e => by simp [e] at hn
  simp [callFunc, hf, hne, hb, mark]

/-- changes: the iterator over the changes of a kind. -/
theorem changes_any (kind m : Int) (aa ab : Option Addr) (la ca lb cb : Nat) (w : World) :
    Calls Try.prog 34 #[.int .i64 kind, .slice aa la ca, .slice ab lb cb, .int .i64 m] w fun e w' =>
      e = .returned (.func (.func 52) #[] #[.pointer (some ⟨w.heap.size + 3, 0, none⟩), .pointer (some ⟨w.heap.size + 1, 0, none⟩), .pointer (some ⟨w.heap.size + 2, 0, none⟩), .pointer (some ⟨w.heap.size, 0, none⟩)]) ∧
      Below w.heap.size w w' ∧ w'.heap[w.heap.size]? = some (.cells #[.int .i64 kind] 3 (0, 0)) ∧ w'.heap[w.heap.size + 1]? = some (.cells #[.slice aa la ca] 63 (0, 0)) ∧
      w'.heap[w.heap.size + 2]? = some (.cells #[.slice ab lb cb] 63 (0, 0)) ∧ w'.heap[w.heap.size + 3]? = some (.cells #[.int .i64 m] 3 (0, 0)) := by
  go_enter Try.func34, Try.ntmps34
  go_wp2
  go_ret
  refine ⟨rfl, ?_, ?_, ?_, ?_, ?_⟩
  · exact ((((Below.refl _ w).alloc (Nat.le_refl _) _).alloc (by simp) _).alloc (by simp; omega) _).alloc (by simp; omega) _
  · exact heap_step _ (heap_step _ (heap_step _ (World.alloc_heap_new _ _)))
  · exact heap_step _ (heap_step _ (heap_new _ _ (by simp)))
  · exact heap_step _ (heap_new _ _ (by simp))
  · exact heap_new _ _ (by simp)

end Go.Proofs.Ytagnjhhbbjbhcaa
