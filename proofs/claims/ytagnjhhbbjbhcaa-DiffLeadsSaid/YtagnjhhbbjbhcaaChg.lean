/- Changes in memory: rows of six cells. -/
import Derived.Test.YtagnjhhbbjbhcaaShaped
import Derived.Test.YtagnjhhbbjbhcaaSame
import Derived.Test.YtagnjhhbbjbhcaaDraw
namespace Go.Proofs.Ytagnjhhbbjbhcaa
open Go.RowKit

/-- A change. -/
structure Chg where
  kind : Int
  index : Int
  field : Int
  old : Int
  new : Int
  values : List Int
  deriving DecidableEq

/-- The cells of a change; its list of values is u. -/
def Chg.cells (c : Chg) (u : Value) : List Value := [.int .i64 c.kind, .int .i64 c.index, .int .i64 c.field, .int .i64 c.old, .int .i64 c.new, u]

/-- v is a slice of changes. -/
def ChV (S : Nat → Prop) (w : World) (v : Value) (cs : List Chg) : Prop :=
  ∃ a cap, v = .slice a cs.length cap ∧ Slok a cs.length ∧ cs.length ≤ cap ∧ cap ≤ maxLen ∧ (0 < cs.length → S (slb a)) ∧
    ∀ j (h : j < cs.length), ∃ u, (∀ i x, (cs[j].cells u)[i]? = some x → w.cell? ⟨slb a, slo a + j * 6 + i, none⟩ = some x) ∧ IntsV S w u cs[j].values

theorem ChV.keep {S : Nat → Prop} {w w' : World} {v : Value} {cs : List Chg} (h : ChV S w v cs) (hk : KeepS S w w') : ChV S w' v cs := by
  obtain ⟨a, cap, rfl, h1, h2, h3, h4, h5⟩ := h
  refine ⟨a, cap, rfl, h1, h2, h3, h4, fun j hj => ?_⟩
  obtain ⟨u, hu, hr⟩ := h5 j hj
  refine ⟨u, fun i x hx => ?_, hr.keep hk⟩
  have := hu i x hx
  rw [World.cell?_of_block (w := w) (a := ⟨slb a, slo a + j * 6 + i, none⟩) (hk _ (h4 (by omega)) (World.block_lt_of_cell? w ⟨slb a, slo a + j * 6 + i, none⟩ this))]
  exact this

theorem ChV.mono {S S' : Nat → Prop} {w : World} {v : Value} {cs : List Chg} (h : ChV S w v cs) (hS : ∀ b, b < w.heap.size → S b → S' b) : ChV S' w v cs := by
  obtain ⟨a, cap, rfl, h1, h2, h3, h4, h5⟩ := h
  refine ⟨a, cap, rfl, h1, h2, h3, fun h0 => ?_, fun j hj => ?_⟩
  · obtain ⟨u, hu, _⟩ := h5 0 h0
    exact hS _ (World.block_lt_of_cell? w ⟨slb a, slo a + 0 * 6 + 0, none⟩ (hu 0 _ rfl)) (h4 h0)
  · obtain ⟨u, hu, hr⟩ := h5 j hj
    exact ⟨u, hu, hr.mono hS⟩

theorem ChV.form {S : Nat → Prop} {w : World} {v : Value} {cs : List Chg} (h : ChV S w v cs) : ∃ a cap, v = .slice a cs.length cap ∧ Slok a cs.length ∧ cs.length ≤ cap ∧ cap ≤ 9223372036854775807 := by
  obtain ⟨a, cap, hv, h1, h2, h3, _⟩ := h
  exact ⟨a, cap, hv, h1, h2, by unfold maxLen at h3; omega⟩

/-- A change of a slice: its six cells, and its values. -/
theorem ChV.at {S : Nat → Prop} {w : World} {a : Option Addr} {n cap : Nat} {cs : List Chg} (h : ChV S w (.slice a n cap) cs) {j : Nat} (hj : j < cs.length) :
    slb a < w.heap.size ∧ S (slb a) ∧ w.cell? ⟨slb a, slo a + j * 6, none⟩ = some (.int .i64 cs[j].kind) ∧ w.cell? ⟨slb a, slo a + j * 6 + 1, none⟩ = some (.int .i64 cs[j].index) ∧ w.cell? ⟨slb a, slo a + j * 6 + 2, none⟩ = some (.int .i64 cs[j].field) ∧
      w.cell? ⟨slb a, slo a + j * 6 + 3, none⟩ = some (.int .i64 cs[j].old) ∧ w.cell? ⟨slb a, slo a + j * 6 + 4, none⟩ = some (.int .i64 cs[j].new) ∧ ∃ u, w.cell? ⟨slb a, slo a + j * 6 + 5, none⟩ = some u ∧ IntsV S w u cs[j].values := by
  obtain ⟨a', cap', hv, h1, h2, h3, h4, h5⟩ := h
  cases hv
  obtain ⟨u, hu, hr⟩ := h5 j hj
  exact ⟨World.block_lt_of_cell? w ⟨slb a, slo a + j * 6 + 0, none⟩ (hu 0 _ rfl), h4 (by omega), hu 0 _ rfl, hu 1 _ rfl, hu 2 _ rfl, hu 3 _ rfl, hu 4 _ rfl, u, hu 5 _ rfl, hr⟩

theorem ChV.nil (S : Nat → Prop) (w : World) : ChV S w (.slice none 0 0) [] :=
  ⟨none, 0, rfl, fun h => absurd h (by simp), Nat.le_refl _, Nat.zero_le _, fun h => absurd h (by simp), fun j h => absurd h (by simp)⟩

def flatC (cs : List Chg) (us : List Value) : List Value := (List.zipWith Chg.cells cs us).flatten

theorem flatC_len : ∀ (cs : List Chg) (us : List Value), us.length = cs.length → (flatC cs us).length = cs.length * 6
  | [], [], _ => rfl
  | c :: cs, u :: us, h => by
    have ih := flatC_len cs us (by simpa using h)
    unfold flatC at ih ⊢
    rw [List.zipWith_cons_cons, List.flatten_cons, List.length_append, ih, List.length_cons]
    show 6 + _ = _
    omega
  | [], _ :: _, h => by simp at h
  | _ :: _, [], h => by simp at h

theorem flatC_at : ∀ (cs : List Chg) (us : List Value) (j : Nat) (h1 : j < cs.length) (h2 : j < us.length) (i : Nat), i < 6 → (flatC cs us)[j * 6 + i]? = (cs[j].cells us[j])[i]?
  | [], _, _, h, _, _, _ => absurd h (by simp)
  | _ :: _, [], _, _, h, _, _ => absurd h (by simp)
  | c :: cs, u :: us, 0, _, _, i, hi => by
    unfold flatC
    rw [List.zipWith_cons_cons, List.flatten_cons, List.getElem?_append_left (by show 0 * 6 + i < 6; omega)]
    simp
  | c :: cs, u :: us, j + 1, h1, h2, i, hi => by
    have ih := flatC_at cs us j (by simpa using h1) (by simpa using h2) i hi
    unfold flatC at ih ⊢
    rw [List.zipWith_cons_cons, List.flatten_cons, List.getElem?_append_right (by show 6 ≤ _; omega)]
    have : (j + 1) * 6 + i - (c.cells u).length = j * 6 + i := by show (j + 1) * 6 + i - 6 = _; omega
    rw [this, ih]
    rfl

theorem flatC_append (cs cs' : List Chg) (us us' : List Value) (h : us.length = cs.length) : flatC (cs ++ cs') (us ++ us') = flatC cs us ++ flatC cs' us' := by
  unfold flatC
  rw [List.zipWith_append h.symm, List.flatten_append]

/-- A row of changes of the call's own (from block B on); their values lie in blocks of S that are not its own. -/
def OwnC (S : Nat → Prop) (B : Nat) (e : TypeId) (w : World) (v : Value) (cs : List Chg) : Prop :=
  ∃ us, w.ownsRow B e 6 v cs.length (flatC cs us) ∧ us.length = cs.length ∧ ∀ j (h1 : j < us.length) (h2 : j < cs.length), IntsV (fun b => S b ∧ some b ≠ v.ownBlock) w us[j] cs[j].values

theorem OwnC.nil (S : Nat → Prop) (B : Nat) (e : TypeId) (w : World) : OwnC S B e w (.slice none 0 0) [] :=
  ⟨[], World.ownsRow_nil _ _ _ _, rfl, fun j h => absurd h (by simp)⟩

theorem ownsRow_keepBase {w w' : World} {base : Nat} {e : TypeId} {size : Nat} {v : Value} {n : Nat} {us : List Value} (h : w.ownsRow base e size v n us) (hk : KeepS (base ≤ ·) w w') : w'.ownsRow base e size v n us :=
  ownsRow_keep (S := (base ≤ ·)) h (fun b hb => (h.lt b hb).1) hk

/-- It stays where its blocks stay. -/
theorem OwnC.keep {S : Nat → Prop} {B : Nat} {e : TypeId} {w w' : World} {v : Value} {cs : List Chg} (h : OwnC S B e w v cs) (hk : KeepS (fun b => S b ∨ B ≤ b) w w') : OwnC S B e w' v cs := by
  obtain ⟨us, h1, h2, h3⟩ := h
  exact ⟨us, ownsRow_keepBase h1 (fun b hb hlt => hk b (.inr hb) hlt), h2, fun j g1 g2 => IntsV.keep (h3 j g1 g2) (fun b hb hlt => hk b (.inl hb.1) hlt)⟩
theorem OwnC.below {S : Nat → Prop} {B : Nat} {e : TypeId} {w w' : World} {v : Value} {cs : List Chg} (h : OwnC S B e w v cs) (hk : Below w.heap.size w w') : OwnC S B e w' v cs := h.keep (KeepS.below hk)

theorem OwnC.lt {S : Nat → Prop} {B : Nat} {e : TypeId} {w : World} {v : Value} {cs : List Chg} (h : OwnC S B e w v cs) : ∀ b, some b = v.ownBlock → B ≤ b ∧ b < w.heap.size := by
  obtain ⟨us, h1, _⟩ := h
  exact fun b hb => h1.lt b hb.symm

/-- It reads as a slice of changes. -/
theorem OwnC.sl {S : Nat → Prop} {B : Nat} {e : TypeId} {w : World} {v : Value} {cs : List Chg} (h : OwnC S B e w v cs) : ChV (fun b => S b ∨ B ≤ b) w v cs := by
  obtain ⟨us, ⟨h1, h2⟩, h3, h4⟩ := h
  rcases h2 with ⟨rfl, h0⟩ | ⟨g, cap, cur, rfl, hb, hg, hn, hc, hs, ht⟩
  · obtain rfl : cs = [] := List.eq_nil_of_length_eq_zero h0
    exact ChV.nil _ w
  · refine ⟨some ⟨g, 0, none⟩, cap, rfl, fun _ => ⟨g, 0, rfl⟩, hn, hc, fun _ => .inr hb, fun j hj => ⟨us[j]'(by omega), fun i x hx => ?_, (h4 j (by omega) hj).mono (fun b _ hb => .inl hb.1)⟩⟩
    have hi : i < 6 := by
      have := (List.getElem?_eq_some_iff.1 hx).1
      exact this
    rw [slb_some, slo_some, Nat.zero_add, cell_of_row w g _ cur e (0, 0) hg, ← hx, ← flatC_at cs us j hj (by omega) i hi, ← ht, List.getElem?_take, if_pos (by omega)]
    simp

section
variable {P : Program} {t e : TypeId} {bytes : Nat} {w : World} {ops : Array Oper} {rest : List Oper} {o : Oper} {a : Act} {Q : Exit → Act → World → Prop}

/-- 'append(s, x...)' of changes. -/
theorem wpList_appC (hgd : o.guard = none) (s x : Operand)
    (ho : o.op = .call { callee := .builtin .append, args := #[s, x], argTypes := #[t, t] }) (hT : AppT P t e 6 bytes)
    {S : Nat → Prop} {B : Nat} {v : Value} {cs : List Chg} (hs : a.eval s = v) (hown : OwnC S B e w v cs)
    {ao : Option Addr} {m c : Nat} (hx : a.eval x = .slice ao m c) (hok : Slok ao m) (ds : List Chg) (us' : List Value) (hl : us'.length = ds.length) (hm : ds.length = m)
    (hnews : ∀ j u, (flatC ds us')[j]? = some u → w.cell? ⟨slb ao, slo ao + j, none⟩ = some u) (h1 : ∀ u ∈ us', u.oneCell' = true)
    (hu : ∀ j (h1 : j < us'.length) (h2 : j < ds.length), IntsV (fun b => S b ∧ some b ≠ v.ownBlock) w us'[j] ds[j].values)
    (hsmall : cs.length + m ≤ 1000000000) (hbase : B ≤ w.heap.size)
    (h : ∀ v' w', OwnC S B e w' v' (cs ++ ds) → Turns (fun b => some b = v.ownBlock) w w' → wpList P ops Q rest (a.put o.dst v') w') :
    wpList P ops Q (o :: rest) a w := by
  obtain ⟨us, f1, f2, f3⟩ := hown
  refine wpList_app hgd s x ho hT hs f1 ao m c hx hok (flatC ds us') (by rw [flatC_len ds us' hl, hm]) hnews ?_ hsmall hbase (fun v' w' g1 g2 g3 => h v' w' ⟨us ++ us', ?_, ?_, fun j k1 k2 => ?_⟩ (Turns.of_grown g2 fun b hb' => hb'.symm))
  · intro u hu'
    unfold flatC at hu'
    obtain ⟨l, hl1, hl2⟩ := List.mem_flatten.1 hu'
    obtain ⟨i, hi, rfl⟩ := List.getElem_of_mem hl1
    rw [List.getElem_zipWith] at hl2
    simp only [Chg.cells, List.mem_cons, List.not_mem_nil, or_false] at hl2
    rcases hl2 with h | h | h | h | h | h <;> rw [h]
    all_goals first | rfl | exact h1 _ (List.getElem_mem _)
  · rw [flatC_append cs ds us us' f2, List.length_append, hm]; exact g1
  · simp [f2, hl]
  · have other : ∀ {u y}, IntsV (fun b => S b ∧ some b ≠ v.ownBlock) w u y → IntsV (fun b => S b ∧ some b ≠ v'.ownBlock) w' u y := by
      intro u y hr
      have r1 := IntsV.mono (S' := fun b => (S b ∧ some b ≠ v.ownBlock) ∧ b < w.heap.size) hr (fun b hlt hb' => ⟨hb', hlt⟩)
      have r2 := IntsV.keep (w' := w') r1 (fun b hb' _ => g2.block b hb'.2 hb'.1.2)
      refine IntsV.mono r2 (fun b _ hb' => ⟨hb'.1.1, ?_⟩)
      rcases g3 with g3 | g3
      · rw [g3]; exact hb'.1.2
      · rw [g3]; intro e'; have := Option.some.inj e'; omega
    by_cases hj : j < us.length
    · rw [List.getElem_append_left hj, List.getElem_append_left (by omega)]
      exact other (f3 j hj (by omega))
    · have k1' : j < us.length + us'.length := by simpa using k1
      have k2' : j < cs.length + ds.length := by simpa using k2
      rw [List.getElem_append_right (by omega), List.getElem_append_right (by omega)]
      have e1 : j - us.length = j - cs.length := by omega
      have hr := hu (j - us.length) (by omega) (by omega)
      simp only [e1] at hr ⊢
      exact other hr

/-- 'append(s, Change{..})'. -/
theorem wpList_appC1 (hgd : o.guard = none) (s x : Operand)
    (ho : o.op = .call { callee := .builtin .append, args := #[s, x], argTypes := #[t, t] }) (hT : AppT P t e 6 bytes)
    {S : Nat → Prop} {B : Nat} {v : Value} {cs : List Chg} (hs : a.eval s = v) (hown : OwnC S B e w v cs)
    {e' : TypeId} (hx : a.eval x = .slice (some ⟨w.heap.size, 0, none⟩) 1 1) (c : Chg) (u : Value) {cells : Array Value} (hcells : cells = (c.cells u).toArray) (h1 : u.oneCell' = true)
    (hu : IntsV (fun b => S b ∧ some b ≠ v.ownBlock) w u c.values)
    (hsmall : cs.length + 1 ≤ 1000000000) (hbase : B ≤ w.heap.size)
    (h : ∀ v' w', OwnC S B e w' v' (cs ++ [c]) → Turns (fun b => some b = v.ownBlock) w w' → wpList P ops Q rest (a.put o.dst v') w') :
    wpList P ops Q (o :: rest) a (w.alloc (.cells cells e')) := by
  subst hcells
  have ha : Below w.heap.size w (w.alloc (.cells (c.cells u).toArray e')) := (Below.refl _ _).alloc (Nat.le_refl _) _
  have hf : flatC [c] [u] = c.cells u := by simp [flatC]
  refine wpList_appC hgd s x ho hT hs (hown.below ha) hx (fun _ => ⟨_, _, rfl⟩) [c] [u] rfl rfl (by rw [hf]; exact news_alloc w (c.cells u).toArray e') (by simpa using h1) ?_ hsmall (by simp; omega)
    (fun v' w' g1 g2 => h v' w' g1 ((Turns.of_below ha).trans ⟨g2.os, g2.tape, g2.output, g2.size, g2.block⟩))
  intro j g1 g2
  obtain rfl : j = 0 := by simp at g1; omega
  exact hu.keep (KeepS.below ha)
end

theorem Try.app34 : AppT Try.prog 34 73 6 64 := appT_mk (z := .agg #[.int .i64 0, .int .i64 0, .int .i64 0, .int .i64 0, .int .i64 0, .slice none 0 0]) (by kernel_rfl) (by kernel_rfl) rfl (by omega) (by omega)
theorem Try.app30 : AppT Try.prog 30 61 6 64 := appT_mk (z := .agg #[.int .i64 0, .int .i64 0, .int .i64 0, .int .i64 0, .int .i64 0, .slice none 0 0]) (by kernel_rfl) (by kernel_rfl) rfl (by omega) (by omega)

/-- What an append of a slice of changes asks of it. -/
theorem ChV.news {S : Nat → Prop} {w : World} {ao : Option Addr} {m c : Nat} {ds : List Chg} (h : ChV S w (.slice ao m c) ds) :
    m = ds.length ∧ Slok ao m ∧ ∃ us : List Value, us.length = ds.length ∧ (∀ j u, (flatC ds us)[j]? = some u → w.cell? ⟨slb ao, slo ao + j, none⟩ = some u) ∧ (∀ u ∈ us, u.oneCell' = true) ∧
      ∀ j (h1 : j < us.length) (h2 : j < ds.length), IntsV S w us[j] ds[j].values := by
  obtain ⟨a, cap, hv, h1, h2, h3, h4, h5⟩ := h
  cases hv
  let us : List Value := (List.range ds.length).map (fun j => (w.cell? ⟨slb ao, slo ao + j * 6 + 5, none⟩).getD undef)
  have hus : us.length = ds.length := by simp [us]
  have hat : ∀ j (h1 : j < us.length) (h2 : j < ds.length), IntsV S w us[j] ds[j].values ∧ ∀ i x, (ds[j].cells us[j])[i]? = some x → w.cell? ⟨slb ao, slo ao + j * 6 + i, none⟩ = some x := by
    intro j g1 g2
    obtain ⟨u, hu, hr⟩ := h5 j g2
    have e1 : us[j] = u := by simp [us, hu 5 u rfl]
    rw [e1]
    exact ⟨hr, hu⟩
  refine ⟨rfl, h1, us, hus, fun j u hu => ?_, fun u hu => ?_, fun j g1 g2 => (hat j g1 g2).1⟩
  · have hj : j < ds.length * 6 := by
      have := (List.getElem?_eq_some_iff.1 hu).1
      rw [flatC_len ds us hus] at this
      exact this
    have e : j = j / 6 * 6 + j % 6 := by omega
    rw [e] at hu ⊢
    rw [flatC_at ds us (j / 6) (by omega) (by omega) (j % 6) (by omega)] at hu
    rw [← Nat.add_assoc]
    exact (hat (j / 6) (by omega) (by omega)).2 _ _ hu
  · obtain ⟨j, hj, rfl⟩ := List.getElem_of_mem hu
    obtain ⟨a, cap, e1, _⟩ := (hat j hj (by omega)).1
    rw [e1]
    rfl

end Go.Proofs.Ytagnjhhbbjbhcaa
