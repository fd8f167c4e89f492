/- Words for slices that the call itself makes: the law of append in a form that tells the new block; rows of one-cell elements that are owned, with what their elements lead to. -/
import Derived.Test.YtagnjhhbbjbhcaaLeaf
namespace Go.Proofs.Ytagnjhhbbjbhcaa
open Go.RowKit

theorem range_snoc {α : Type} (f : Nat → α) (k : Nat) : (List.range k).map f ++ [f k] = (List.range (k + 1)).map f := by simp [List.range_succ]

/-- What append asks of the element's type. -/
def AppT (P : Program) (t e : TypeId) (size bytes : Nat) : Prop :=
  P.underlying t = some (.slice e) ∧ P.underlying t ≠ none ∧ ∃ i z, P.info? e = some i ∧ i.zero = some z ∧ i.size = size ∧ i.bytes = bytes ∧ z.cells.size = size ∧ 0 < size ∧ bytes ≤ 1000

theorem appT_mk {P : Program} {t e : TypeId} {z : Value} {size bytes : Nat} (h : P.underlying t = some (.slice e))
    (hi : (P.info? e).map (fun i => (i.zero, i.size, i.bytes)) = some (some z, size, bytes)) (hz : z.cells.size = size) (h0 : 0 < size) (hb : bytes ≤ 1000) : AppT P t e size bytes := by
  obtain ⟨i, h1, h2, h3, h4⟩ := info_parts hi
  exact ⟨h, by rw [h]; simp, i, z, h1, h2, h3, h4, hz, h0, hb⟩

section
variable {P : Program} {w : World} {t e : TypeId} {size bytes : Nat}

/-- Nothing is appended. -/
theorem run_app_zero (ty : TypeId) (hT : AppT P t e size bytes) {base : Nat} {v : Value} {n : Nat} {xs : List Value} (hown : w.ownsRow base e size v n xs) (ao : Option Addr) (c : Nat) :
    (Builtin.append_ #[t, t] ty #[v, .slice ao 0 c]).run P w = .ok v w := by
  obtain ⟨ht, _, i, z, h1, h2, h3, h4, h5, h6, _⟩ := hT
  have hs : (sizeOf e).run P w = .ok i.size w := by simp [sizeOf, typeInfo, h1]
  have hf : (Builtin.firstCells i.size 0 (.slice ao 0 c)).run P w = .ok #[] w := by
    cases ao <;> simp [Builtin.firstCells, loadCells, loadCellsFrom]
  rcases hown.2 with ⟨rfl, rfl⟩ | ⟨g, cap, cur, rfl, _, _, hn, _⟩
  · simp [Builtin.append_, run_underlying ht, hs, Builtin.lenOf, hf]
  · simp [Builtin.append_, run_underlying ht, hs, Builtin.lenOf, hf, hn, storeCells]

/-- 'append(v, x...)', v owned: what it hands back, and in which block it lies. -/
theorem run_app (ty : TypeId) (hT : AppT P t e size bytes) {base : Nat} {v : Value} {n : Nat} {xs : List Value} (hown : w.ownsRow base e size v n xs)
    (ao : Option Addr) (m c : Nat) (hok : Slok ao m) (news : List Value) (hl : news.length = m * size)
    (hnews : ∀ j u, news[j]? = some u → w.cell? ⟨slb ao, slo ao + j, none⟩ = some u) (h1 : ∀ u ∈ news, u.oneCell' = true)
    (hsmall : n + m ≤ 1000000000) (hbase : base ≤ w.heap.size) :
    ∃ v' w', (Builtin.append_ #[t, t] ty #[v, .slice ao m c]).run P w = .ok v' w' ∧ w'.ownsRow base e size v' (n + m) (xs ++ news) ∧ w.grownBy w' v.ownBlock ∧
      (v'.ownBlock = v.ownBlock ∨ v'.ownBlock = some w.heap.size) := by
  rcases Nat.eq_zero_or_pos m with rfl | hm
  · obtain rfl : news = [] := List.eq_nil_of_length_eq_zero (by simpa using hl)
    exact ⟨v, w, run_app_zero ty hT hown ao c, by simpa using hown, ⟨rfl, rfl, rfl, Nat.le_refl _, fun _ _ _ => rfl⟩, .inl rfl⟩
  obtain ⟨ab, ao', rfl⟩ := hok hm
  have hnews' : ∀ j u, news[j]? = some u → w.cell? ((⟨ab, ao', none⟩ : Addr).add j) = some u := fun j u hu => by
    rw [Addr.add_lit]; exact hnews j u hu
  obtain ⟨ht, _, i, z, g1, g2, g3, g4, g5, g6, g7⟩ := hT
  subst g3
  subst g4
  have hby : (n + m) * i.bytes ≤ 140737488355328 := by have := Nat.mul_le_mul hsmall g7; omega
  have h63 : n + m ≤ maxLen := by unfold maxLen; omega
  have hlen : (xs ++ news).length = (n + m) * i.size := by rw [List.length_append, hown.1, hl, Nat.add_mul]
  have grown : ∀ (old : Nat), old < n + m → ∀ (row : Option Nat),
      (w.drew.alloc (.cells (xs.toArray ++ news.toArray ++ Builtin.zeroCells z.cells (grownCap w (n + m) old e - (n + m))) e)).ownsRow base e i.size
        (.slice (some ⟨w.heap.size, 0, none⟩) (n + m) (grownCap w (n + m) old e)) (n + m) (xs ++ news) ∧
      w.grownBy (w.drew.alloc (.cells (xs.toArray ++ news.toArray ++ Builtin.zeroCells z.cells (grownCap w (n + m) old e - (n + m))) e)) row := by
    intro old _ row
    have hge := grownCap_ge w (n + m) old e
    have hcm : grownCap w (n + m) old e ≤ maxLen := grownCap_le_maxLen w (n + m) old e h63
    refine ⟨⟨hlen, .inr ⟨w.heap.size, _, _, rfl, hbase, heap_alloc_new w.drew _, hge, hcm, ?_, ?_⟩⟩, ⟨rfl, rfl, rfl, by simp, fun k hk _ => Below.heap_alloc w.drew _ k hk⟩⟩
    · have e1 : n * i.size + m * i.size = (n + m) * i.size := (Nat.add_mul _ _ _).symm
      have e2 : (n + m) * i.size + (grownCap w (n + m) old e - (n + m)) * i.size = grownCap w (n + m) old e * i.size := by rw [← Nat.add_mul]; congr 1; omega
      simp only [Array.size_append, List.size_toArray, size_zeroCells, g5, hown.1, hl, e1, e2]
    · simp only [Array.toList_append, List.append_assoc]
      rw [← List.append_assoc, ← hlen]
      exact List.take_left
  rcases hown.2 with ⟨rfl, rfl⟩ | ⟨g, cap, cur, rfl, hbg, hg, hnc, hcm, hcs, htake⟩
  · have hx : xs = [] := List.eq_nil_of_length_eq_zero (by simpa using hown.1)
    subst hx
    have hr := run_append_nil (P := P) w t ty e i z ht g1 g2 ⟨ab, ao', none⟩ m c news hl hnews' hm (by omega) (by rw [Nat.zero_add] at hby; omega)
    have hgr := grown 0 (by omega) (Value.ownBlock (.slice none 0 0))
    simp only [Nat.zero_add, List.nil_append] at hgr ⊢
    refine ⟨_, _, hr, ?_, ?_, .inr rfl⟩
    · simpa using hgr.1
    · simpa using hgr.2
  · by_cases hroom : n + m ≤ cap
    · have hfit : n * i.size + news.length ≤ cur.size := by rw [hl, hcs, ← Nat.add_mul]; exact Nat.mul_le_mul_right _ hroom
      have hr := run_append_room (P := P) w t ty e i ht g1 g n cap cur hg ⟨ab, ao', none⟩ m c news hl hnews' h1 hroom hfit
      refine ⟨_, _, hr, ⟨hlen, .inr ⟨g, cap, _, rfl, hbg, setRow_heap w g cur _ e _ hg, hroom, hcm, ?_, ?_⟩⟩, ⟨rfl, rfl, rfl, by simp, fun k _ hk => setRow_other w g k _ (fun e => hk (by simp [Value.ownBlock, e]))⟩, .inl rfl⟩
      · simp only [List.size_toArray, List.length_append, List.length_take, List.length_drop, Array.length_toList]
        omega
      · rw [htake, ← hlen]
        exact List.take_left
    · have holds : ∀ j u, xs[j]? = some u → w.cell? ((⟨g, 0, none⟩ : Addr).add j) = some u := hown.cells (g := g) rfl
      have hr := run_append_grow (P := P) w t ty e i z ht g1 g2 ⟨g, 0, none⟩ n cap xs hown.1 holds ⟨ab, ao', none⟩ m c news hl hnews' (by omega) (by omega) (growslice_fits (by omega) hby)
      have hgr := grown cap (by omega) (Value.ownBlock (.slice (some ⟨g, 0, none⟩) n cap))
      exact ⟨_, _, hr, hgr.1, hgr.2, .inr rfl⟩

/-- The same as a law of the walk. -/
theorem wpList_app {ops : Array Oper} {rest : List Oper} {o : Oper} {a : Act} {Q : Exit → Act → World → Prop} (hgd : o.guard = none) (s x : Operand)
    (ho : o.op = .call { callee := .builtin .append, args := #[s, x], argTypes := #[t, t] }) (hT : AppT P t e size bytes)
    {base : Nat} {v : Value} {n : Nat} {xs : List Value} (hs : a.eval s = v) (hown : w.ownsRow base e size v n xs)
    (ao : Option Addr) (m c : Nat) (hx : a.eval x = .slice ao m c) (hok : Slok ao m) (news : List Value) (hl : news.length = m * size)
    (hnews : ∀ j u, news[j]? = some u → w.cell? ⟨slb ao, slo ao + j, none⟩ = some u) (h1 : ∀ u ∈ news, u.oneCell' = true)
    (hsmall : n + m ≤ 1000000000) (hbase : base ≤ w.heap.size)
    (h : ∀ v' w', w'.ownsRow base e size v' (n + m) (xs ++ news) → w.grownBy w' v.ownBlock → (v'.ownBlock = v.ownBlock ∨ v'.ownBlock = some w.heap.size) → wpList P ops Q rest (a.put o.dst v') w') :
    wpList P ops Q (o :: rest) a w := by
  obtain ⟨v', w', hr, h2, h3, h4⟩ := run_app o.type hT hown ao m c hok news hl hnews h1 hsmall hbase
  refine wpList_plain hgd fun K hK => ?_
  unfold Oper.wp
  simp [execOp, ho, resolve, invoke, builtin, hs, hx, hr, Result.andThen]
  exact hK _ _ (h v' w' h2 h3 h4)
end

/-- The cells of a block that has just been made. -/
theorem news_alloc (w : World) (cs : Array Value) (t : TypeId) : ∀ j u, cs.toList[j]? = some u → (w.alloc (.cells cs t)).cell? ⟨w.heap.size, 0 + j, none⟩ = some u := by
  intro j u hu
  rw [Nat.zero_add, World.cell?_alloc_new]
  simpa using hu

/-- A word on a value that speaks of the blocks of S alone. -/
structure Steady {α : Type} (RR : (Nat → Prop) → World → Value → α → Prop) : Prop where
  keep : ∀ {S w w' u x}, RR S w u x → KeepS S w w' → RR S w' u x
  mono : ∀ {S S' : Nat → Prop} {w u x}, RR S w u x → (∀ b, b < w.heap.size → S b → S' b) → RR S' w u x

theorem steady_int : Steady (fun _ _ u (x : Int) => u = .int .i64 x) := ⟨fun h _ => h, fun h _ => h⟩
theorem steady_ints : Steady (α := List Int) (fun S => IntsV S) := ⟨fun h k => h.keep k, fun h k => h.mono k⟩
theorem steady_rows : Steady (α := List (List Int)) (fun S => RowsV S) := ⟨fun h k => h.keep k, fun h k => h.mono k⟩
theorem steady_world : Steady (α := List (List (List Int))) (fun S => WorldV S) := ⟨fun h k => h.keep k, fun h k => h.mono k⟩

/-- v is a row of the call's own (from block B on) whose elements are xs; what they lead to lies from B on, and not in v's own block. -/
def OwnV {α : Type} (RR : (Nat → Prop) → World → Value → α → Prop) (B : Nat) (e : TypeId) (w : World) (v : Value) (xs : List α) : Prop :=
  ∃ us, w.ownsRow B e 1 v xs.length us ∧ us.length = xs.length ∧ ∀ j (h1 : j < us.length) (h2 : j < xs.length), RR (fun b => B ≤ b ∧ some b ≠ v.ownBlock) w us[j] xs[j]

theorem OwnV.nil {α : Type} (RR : (Nat → Prop) → World → Value → α → Prop) (B : Nat) (e : TypeId) (w : World) : OwnV RR B e w (.slice none 0 0) [] :=
  ⟨[], World.ownsRow_nil _ _ _ _, rfl, fun j h => absurd h (by simp)⟩

/-- It reads as a slice. -/
theorem OwnV.sl {α : Type} {RR : (Nat → Prop) → World → Value → α → Prop} (hR : Steady RR) {B : Nat} {e : TypeId} {w : World} {v : Value} {xs : List α} (h : OwnV RR B e w v xs) :
    SlV (RR (B ≤ ·)) (B ≤ ·) w v xs := by
  obtain ⟨us, ⟨h1, h2⟩, hl, hr⟩ := h
  simp only [Nat.mul_one] at h1
  rcases h2 with ⟨rfl, h0⟩ | ⟨g, cap, cur, rfl, hb, hg, hn, hc, hs, ht⟩
  · obtain rfl : xs = [] := List.eq_nil_of_length_eq_zero h0
    exact SlV.nil _ _ w
  · simp only [Nat.mul_one] at hs ht
    refine ⟨some ⟨g, 0, none⟩, cap, rfl, fun _ => ⟨g, 0, rfl⟩, by omega, hc, fun _ => hb, fun j hj => ?_⟩
    refine ⟨us[j]'(by omega), ?_, hR.mono (hr j (by omega) hj) (fun b _ h => h.1)⟩
    rw [slb_some, slo_some, Nat.zero_add, cell_of_row w g j cur e (0, 0) hg]
    have h3 : us[j]? = some (us[j]'(by omega)) := List.getElem?_eq_getElem (by omega)
    rw [← h3, ← ht, List.getElem?_take, if_pos (by omega)]
    simp

theorem OwnV.kept {α : Type} {RR : (Nat → Prop) → World → Value → α → Prop} (hR : Steady RR) {B : Nat} {e : TypeId} {w w' : World} {v : Value} {xs : List α} (h : OwnV RR B e w v xs)
    (hk : KeepS (B ≤ ·) w w') : OwnV RR B e w' v xs := by
  obtain ⟨us, ⟨h1, h2⟩, hl, hr⟩ := h
  refine ⟨us, ⟨h1, ?_⟩, hl, fun j g1 g2 => hR.keep (hr j g1 g2) (fun b hb hlt => hk b hb.1 hlt)⟩
  rcases h2 with h2 | ⟨g, cap, cur, hv, hb, hg, r⟩
  · exact .inl h2
  · exact .inr ⟨g, cap, cur, hv, hb, by rw [hk g hb (Array.getElem?_eq_some_iff.1 hg).1]; exact hg, r⟩

/-- New blocks, and whatever happens from the heap's end on, leave it. -/
theorem OwnV.below {α : Type} {RR : (Nat → Prop) → World → Value → α → Prop} (hR : Steady RR) {B : Nat} {e : TypeId} {w w' : World} {v : Value} {xs : List α} (h : OwnV RR B e w v xs)
    (hk : Below w.heap.size w w') : OwnV RR B e w' v xs := h.kept hR (KeepS.below hk)

/-- A block that is newer than the row's world is none of its own. -/
theorem OwnV.fresh {α : Type} {RR : (Nat → Prop) → World → Value → α → Prop} {B : Nat} {e : TypeId} {w : World} {v : Value} {xs : List α} (h : OwnV RR B e w v xs) (hB : B ≤ w.heap.size) :
    ∀ b, w.heap.size ≤ b → B ≤ b ∧ some b ≠ v.ownBlock := by
  intro b hb
  obtain ⟨us, h1, _⟩ := h
  refine ⟨by omega, fun e => ?_⟩
  have := (h1.lt b e.symm).2
  omega

/-- One more element. -/
theorem OwnV.app {α : Type} {RR : (Nat → Prop) → World → Value → α → Prop} (hR : Steady RR) {B : Nat} {e : TypeId} {w w0 w' : World} {v v' : Value} {xs : List α} {us : List Value} {x : α} {u : Value}
    (hl : us.length = xs.length) (hr : ∀ j (h1 : j < us.length) (h2 : j < xs.length), RR (fun b => B ≤ b ∧ some b ≠ v.ownBlock) w us[j] xs[j])
    (hu : RR (fun b => B ≤ b ∧ some b ≠ v.ownBlock) w u x) (hb : Below w.heap.size w w0)
    (hown : w'.ownsRow B e 1 v' (xs.length + 1) (us ++ [u])) (hg : w0.grownBy w' v.ownBlock) (hn : v'.ownBlock = v.ownBlock ∨ v'.ownBlock = some w0.heap.size) : OwnV RR B e w' v' (xs ++ [x]) := by
  have key : ∀ {u x}, RR (fun b => B ≤ b ∧ some b ≠ v.ownBlock) w u x → RR (fun b => B ≤ b ∧ some b ≠ v'.ownBlock) w' u x := by
    intro u x h
    have hsz := hb.size
    have h1 := hR.mono (S' := fun b => (B ≤ b ∧ some b ≠ v.ownBlock) ∧ b < w.heap.size) h (fun b hlt hb' => ⟨hb', hlt⟩)
    have h2 := hR.keep (w' := w') h1 (fun b hb' _ => (hg.block b (by omega) hb'.1.2).trans (hb.block b hb'.2))
    refine hR.mono h2 (fun b _ hb' => ⟨hb'.1.1, ?_⟩)
    rcases hn with hn | hn
    · rw [hn]; exact hb'.1.2
    · rw [hn]; intro e'; have := Option.some.inj e'; omega
  refine ⟨us ++ [u], by simpa using hown, by simp [hl], fun j h1 h2 => ?_⟩
  by_cases hj : j < us.length
  · rw [List.getElem_append_left hj, List.getElem_append_left (by omega)]
    exact key (hr j hj (by omega))
  · simp at h1
    obtain rfl : j = us.length := by omega
    simp only [List.getElem_append_right (Nat.le_refl _), Nat.sub_self, List.getElem_cons_zero]
    rw [List.getElem_append_right (by omega)]
    simp [hl]
    exact key hu

/-- 'append(s, x)', s a row of the call's own, the one new element u; what is kept. -/
theorem wpList_app1 {P : Program} {t e : TypeId} {bytes : Nat} {α : Type} {RR : (Nat → Prop) → World → Value → α → Prop} (hR : Steady RR) {w : World} {ops : Array Oper} {rest : List Oper} {o : Oper} {a : Act} {Q : Exit → Act → World → Prop} (hgd : o.guard = none) (s x : Operand)
    (ho : o.op = .call { callee := .builtin .append, args := #[s, x], argTypes := #[t, t] }) (hT : AppT P t e 1 bytes)
    {base : Nat} {v : Value} {xs : List α} (hs : a.eval s = v) (hown : OwnV RR base e w v xs)
    {u : Value} {e' : TypeId} (hx : a.eval x = .slice (some ⟨w.heap.size, 0, none⟩) 1 1) (y : α) (hu : RR (fun b => base ≤ b ∧ some b ≠ v.ownBlock) w u y) (h1 : u.oneCell' = true)
    (hsmall : xs.length + 1 ≤ 1000000000) (hbase : base ≤ w.heap.size) {B0 : Nat} {w0 : World} (hb : Below B0 w0 w) (hB : B0 ≤ base)
    (h : ∀ v' w', OwnV RR base e w' v' (xs ++ [y]) → Below B0 w0 w' → (∀ S : Nat → Prop, (∀ b, S b → some b ≠ v.ownBlock) → KeepS S w w') → wpList P ops Q rest (a.put o.dst v') w') :
    wpList P ops Q (o :: rest) a (w.alloc (.cells #[u] e')) := by
  obtain ⟨us, h2, h3, h4⟩ := hown
  refine wpList_app hgd s x ho hT hs (h2.alloc _) _ 1 1 hx (fun _ => ⟨_, _, rfl⟩) [u] rfl (news_alloc w #[u] e') (by simpa using h1) hsmall (by simp; omega) (fun v' w' g1 g2 g3 => ?_)
  have ha : Below w.heap.size w (w.alloc (.cells #[u] e')) := (Below.refl _ _).alloc (Nat.le_refl _) _
  refine h v' w' (OwnV.app hR h3 h4 hu ha g1 g2 g3) ?_ (fun S hS b hb' hlt => ?_)
  · have hB0 : B0 ≤ w.heap.size := by omega
    exact (hb.alloc hB0 _).grown g2 (by simp; omega) (fun k hk => by have := (h2.lt k hk).1; omega)
  · exact (g2.block b (by simp; omega) (hS b hb')).trans (ha.block b hlt)

theorem Try.app22 : AppT Try.prog 22 3 1 8 := appT_mk (z := .int .i64 0) (by kernel_rfl) (by kernel_rfl) rfl (by omega) (by omega)
theorem Try.app63 : AppT Try.prog 63 22 1 24 := appT_mk (z := .slice none 0 0) (by kernel_rfl) (by kernel_rfl) rfl (by omega) (by omega)
theorem Try.app25 : AppT Try.prog 25 63 1 24 := appT_mk (z := .slice none 0 0) (by kernel_rfl) (by kernel_rfl) rfl (by omega) (by omega)

end Go.Proofs.Ytagnjhhbbjbhcaa
