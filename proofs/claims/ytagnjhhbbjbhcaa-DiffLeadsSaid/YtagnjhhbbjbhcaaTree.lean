/- Slices of the call's own whose elements' blocks are apart from each other: a world that is changed in place. One element is borrowed, changed, and handed back. -/
import Derived.Test.YtagnjhhbbjbhcaaOwn
namespace Go.Proofs.Ytagnjhhbbjbhcaa
open Go.RowKit

/-- The blocks of S that were there, and all new ones. -/
def Grow (S : Nat → Prop) (N : Nat) : Nat → Prop := fun b => (S b ∧ b < N) ∨ N ≤ b
theorem grow_from {B N : Nat} (h : B ≤ N) : ∀ b, Grow (B ≤ ·) N b → B ≤ b := by
  intro b hb
  rcases hb with hb | hb
  · exact hb.1
  · exact Nat.le_trans h hb

/-- What lies outside of S has stayed, and no block has gone. -/
structure Turns (S : Nat → Prop) (w w' : World) : Prop where
  os : w'.os = w.os
  tape : w'.tape = w.tape
  output : w'.output = w.output
  size : w.heap.size ≤ w'.heap.size
  block : ∀ b, ¬ S b → b < w.heap.size → w'.heap[b]? = w.heap[b]?

theorem Turns.refl (S : Nat → Prop) (w : World) : Turns S w w := ⟨rfl, rfl, rfl, Nat.le_refl _, fun _ _ _ => rfl⟩
theorem Turns.trans {S : Nat → Prop} {w w1 w2 : World} (h : Turns S w w1) (k : Turns S w1 w2) : Turns S w w2 :=
  ⟨k.os.trans h.os, k.tape.trans h.tape, k.output.trans h.output, Nat.le_trans h.size k.size, fun b hb hlt => (k.block b hb (Nat.lt_of_lt_of_le hlt h.size)).trans (h.block b hb hlt)⟩
theorem Turns.mono {S S' : Nat → Prop} {w w1 : World} (h : Turns S w w1) (hS : ∀ b, b < w.heap.size → S b → S' b) : Turns S' w w1 :=
  ⟨h.os, h.tape, h.output, h.size, fun b hb hlt => h.block b (fun hs => hb (hS b hlt hs)) hlt⟩
theorem Turns.of_below {S : Nat → Prop} {w w1 : World} (h : Below w.heap.size w w1) : Turns S w w1 := ⟨h.os, h.tape, h.output, h.size, fun b _ hlt => h.block b hlt⟩
theorem Turns.below {S : Nat → Prop} {w w1 : World} {B : Nat} (h : Turns S w w1) (hB : B ≤ w.heap.size) (hS : ∀ b, S b → B ≤ b) : Below B w w1 :=
  ⟨h.os, h.tape, h.output, h.size, fun b hb => h.block b (fun hs => by have := hS b hs; omega) (by omega)⟩
theorem Turns.keep {S T : Nat → Prop} {w w1 : World} (h : Turns S w w1) (hT : ∀ b, T b → ¬ S b) : KeepS T w w1 := fun b hb hlt => h.block b (hT b hb) hlt
theorem Turns.setCell {S : Nat → Prop} {w w1 : World} (h : Turns S w w1) (a : Addr) (v : Value) (ha : S a.block) : Turns S w (w1.setCell a v) :=
  h.trans ⟨rfl, rfl, rfl, by simp [World.setCell], fun b hb _ => Below.heap_setCell _ _ _ _ (fun e => hb (e ▸ ha))⟩
theorem Turns.of_grown {S : Nat → Prop} {w w1 : World} {row : Option Nat} (h : w.grownBy w1 row) (hr : ∀ b, row = some b → S b) : Turns S w w1 :=
  ⟨h.os, h.tape, h.output, h.size, fun b hb hlt => h.block b hlt (fun e => hb (hr b e.symm))⟩

/-- A row of numbers of the call's own, in a block of S. -/
def IntsF (S : Nat → Prop) (w : World) (v : Value) (xs : List Int) : Prop :=
  w.ownsRow 0 3 1 v xs.length (xs.map (Value.int .i64)) ∧ ∀ b, v.ownBlock = some b → S b

/-- A row of the call's own, in a block of S, whose elements lie in blocks of S that are apart from each other and from the row's own. -/
def OwnF {α : Type} (RR : (Nat → Prop) → World → Value → α → Prop) (e : TypeId) (S : Nat → Prop) (w : World) (v : Value) (xs : List α) : Prop :=
  (∀ b, v.ownBlock = some b → S b) ∧ ∃ (us : List Value) (Z : Nat → Nat), w.ownsRow 0 e 1 v xs.length us ∧ us.length = xs.length ∧
    ∀ j (h1 : j < us.length) (h2 : j < xs.length), RR (fun b => S b ∧ some b ≠ v.ownBlock ∧ Z b = j) w us[j] xs[j]

theorem ownsRow_keep {S : Nat → Prop} {w w' : World} {base : Nat} {e : TypeId} {size : Nat} {v : Value} {n : Nat} {us : List Value} (h : w.ownsRow base e size v n us) (hS : ∀ b, v.ownBlock = some b → S b) (hk : KeepS S w w') : w'.ownsRow base e size v n us := by
  refine ⟨h.1, ?_⟩
  rcases h.2 with h2 | ⟨g, cap, cur, rfl, hb, hg, r⟩
  · exact .inl h2
  · exact .inr ⟨g, cap, cur, rfl, hb, by rw [hk g (hS g rfl) (Array.getElem?_eq_some_iff.1 hg).1]; exact hg, r⟩

theorem steady_intsF : Steady (α := List Int) IntsF :=
  ⟨fun h k => ⟨ownsRow_keep h.1 h.2 k, h.2⟩, fun h k => ⟨h.1, fun b hb => k b (h.1.lt b hb).2 (h.2 b hb)⟩⟩

theorem steady_ownF {α : Type} {RR : (Nat → Prop) → World → Value → α → Prop} (hR : Steady RR) (e : TypeId) : Steady (α := List α) (OwnF RR e) where
  keep := by
    rintro S w w' v xs ⟨h1, us, Z, h2, h3, h4⟩ hk
    exact ⟨h1, us, Z, ownsRow_keep h2 h1 hk, h3, fun j g1 g2 => hR.keep (h4 j g1 g2) (fun b hb hlt => hk b hb.1 hlt)⟩
  mono := by
    rintro S S' w v xs ⟨h1, us, Z, h2, h3, h4⟩ hS
    exact ⟨fun b hb => hS b (h2.lt b hb).2 (h1 b hb), us, Z, h2, h3, fun j g1 g2 => hR.mono (h4 j g1 g2) (fun b hlt hb => ⟨hS b hlt hb.1, hb.2⟩)⟩

abbrev RowsF := OwnF IntsF 22
abbrev WorldF := OwnF RowsF 63
theorem steady_rowsF : Steady (α := List (List Int)) RowsF := steady_ownF steady_intsF _
theorem steady_worldF : Steady (α := List (List (List Int))) WorldF := steady_ownF steady_rowsF _

/-- It reads as a slice. -/
theorem ownsRow_sl {α : Type} {R : World → Value → α → Prop} {S : Nat → Prop} {w : World} {base : Nat} {e : TypeId} {v : Value} {us : List Value} {xs : List α}
    (h : w.ownsRow base e 1 v xs.length us) (hS : ∀ b, v.ownBlock = some b → S b) (hl : us.length = xs.length) (hR : ∀ j (h1 : j < us.length) (h2 : j < xs.length), R w us[j] xs[j]) : SlV R S w v xs := by
  obtain ⟨h1, h2⟩ := h
  simp only [Nat.mul_one] at h1
  rcases h2 with ⟨rfl, h0⟩ | ⟨g, cap, cur, rfl, hb, hg, hn, hc, hs, ht⟩
  · obtain rfl : xs = [] := List.eq_nil_of_length_eq_zero h0
    exact SlV.nil R S w
  · simp only [Nat.mul_one] at hs ht
    refine ⟨some ⟨g, 0, none⟩, cap, rfl, fun _ => ⟨g, 0, rfl⟩, by omega, hc, fun _ => hS g rfl, fun j hj => ?_⟩
    refine ⟨us[j]'(by omega), ?_, hR j (by omega) hj⟩
    rw [slb_some, slo_some, Nat.zero_add, cell_of_row w g j cur e (0, 0) hg]
    have h3 : us[j]? = some (us[j]'(by omega)) := List.getElem?_eq_getElem (by omega)
    rw [← h3, ← ht, List.getElem?_take, if_pos (by omega)]
    simp

theorem IntsF.sl {S : Nat → Prop} {w : World} {v : Value} {xs : List Int} (h : IntsF S w v xs) : IntsV S w v xs :=
  ownsRow_sl h.1 h.2 (by simp) (fun j h1 h2 => by simp)
theorem OwnF.sl {α : Type} {RR : (Nat → Prop) → World → Value → α → Prop} (hR : Steady RR) {R : (Nat → Prop) → World → Value → α → Prop} (hS : ∀ {S w u x}, RR S w u x → R S w u x)
    {e : TypeId} {S : Nat → Prop} {w : World} {v : Value} {xs : List α} (h : OwnF RR e S w v xs) : SlV (R S) S w v xs := by
  obtain ⟨h1, us, Z, h2, h3, h4⟩ := h
  exact ownsRow_sl h2 h1 h3 (fun j g1 g2 => hS (hR.mono (h4 j g1 g2) (fun b _ hb => hb.1)))
theorem RowsF.sl {S : Nat → Prop} {w : World} {v : Value} {xs : List (List Int)} (h : RowsF S w v xs) : RowsV S w v xs := OwnF.sl (R := fun S => IntsV S) steady_intsF (fun h => IntsF.sl h) h
theorem WorldF.sl {S : Nat → Prop} {w : World} {v : Value} {xs : List (List (List Int))} (h : WorldF S w v xs) : WorldV S w v xs := OwnF.sl (R := fun S => RowsV S) steady_rowsF (fun h => RowsF.sl h) h

theorem OwnF.nil {α : Type} (RR : (Nat → Prop) → World → Value → α → Prop) (e : TypeId) (S : Nat → Prop) (w : World) : OwnF RR e S w (.slice none 0 0) [] :=
  ⟨fun b hb => by simp [Value.ownBlock] at hb, [], fun _ => 0, World.ownsRow_nil _ _ _ _, rfl, fun j h => absurd h (by simp)⟩
theorem IntsF.nil (S : Nat → Prop) (w : World) : IntsF S w (.slice none 0 0) [] := ⟨World.ownsRow_nil _ _ _ _, fun b hb => by simp [Value.ownBlock] at hb⟩

/-- A cell of an owned row is written. -/
theorem ownsRow_set {w : World} {base : Nat} {e : TypeId} {g n cap : Nat} {us : List Value} (h : w.ownsRow base e 1 (.slice (some ⟨g, 0, none⟩) n cap) n us) (j : Nat) (u : Value) :
    (w.setCell ⟨g, j, none⟩ u).ownsRow base e 1 (.slice (some ⟨g, 0, none⟩) n cap) n (us.set j u) := by
  obtain ⟨h1, h2⟩ := h
  refine ⟨by simpa using h1, ?_⟩
  rcases h2 with ⟨h2, _⟩ | ⟨g', cap', cur, hv, hb, hg, hn, hc, hs, ht⟩
  · cases h2
  · cases hv
    refine .inr ⟨g, cap, cur.setIfInBounds j u, rfl, hb, heap_setCell_same w g j cur e u hg, hn, hc, by simpa using hs, ?_⟩
    rw [Array.toList_setIfInBounds, ← ht]
    exact List.take_set ..

/-- An owned row of at least one element is a slice at the head of its block; its cells. -/
theorem ownsRow_form {w : World} {base : Nat} {e : TypeId} {v : Value} {n : Nat} {us : List Value} (h : w.ownsRow base e 1 v n us) (hn : 0 < n) :
    ∃ g cap, v = .slice (some ⟨g, 0, none⟩) n cap ∧ n ≤ cap ∧ cap ≤ maxLen ∧ w.shape? g = some (e, cap) ∧ ∀ j (hj : j < us.length), w.cell? ⟨g, j, none⟩ = some us[j] ∧ w.frozen? ⟨g, j, none⟩ = false := by
  obtain ⟨h1, h2⟩ := h
  rcases h2 with ⟨_, h2⟩ | ⟨g, cap, cur, hv, hb, hg, hn, hc, hs, ht⟩
  · omega
  · simp only [Nat.mul_one] at h1 hs ht
    refine ⟨g, cap, hv, hn, hc, by simp [World.shape?, hg, hs], fun j hj => ⟨?_, frozen_of_row w g j cur e hg⟩⟩
    rw [cell_of_row w g j cur e (0, 0) hg]
    have h3 : us[j]? = some us[j] := List.getElem?_eq_getElem hj
    rw [← h3, ← ht, List.getElem?_take, if_pos (by omega)]
    simp

/-- ONE ELEMENT IS BORROWED: the cell in which its value stands; the value and its blocks; and how it is handed back: changed where it lies, or a new value stored in the cell. -/
theorem OwnF.borrow {α : Type} {RR : (Nat → Prop) → World → Value → α → Prop} (hR : Steady RR) {e : TypeId} {S : Nat → Prop} {w : World} {v : Value} {xs : List α} (h : OwnF RR e S w v xs) (j : Nat) (hj : j < xs.length) :
    ∃ g cap u T, v = .slice (some ⟨g, 0, none⟩) xs.length cap ∧ xs.length ≤ cap ∧ cap ≤ maxLen ∧ S g ∧ w.cell? ⟨g, j, none⟩ = some u ∧ w.frozen? ⟨g, j, none⟩ = false ∧ RR T w u xs[j] ∧ (∀ b, T b → S b ∧ b ≠ g ∧ b < w.heap.size) ∧
      (∀ w2 x', Turns T w w2 → RR (Grow T w.heap.size) w2 u x' → OwnF RR e (Grow S w.heap.size) w2 v (xs.set j x')) ∧
      (∀ w2 u' x', Turns T w w2 → RR (Grow T w.heap.size) w2 u' x' → w2.cell? ⟨g, j, none⟩ = some u ∧ w2.frozen? ⟨g, j, none⟩ = false ∧ OwnF RR e (Grow S w.heap.size) (w2.setCell ⟨g, j, none⟩ u') v (xs.set j x') ∧ Turns (fun b => T b ∨ b = g) w (w2.setCell ⟨g, j, none⟩ u')) := by
  obtain ⟨h1, us, Z, h2, h3, h4⟩ := h
  obtain ⟨g, cap, rfl, h5, h6, _, h7⟩ := ownsRow_form h2 (by omega)
  have hg : S g := h1 g rfl
  have hgl : g < w.heap.size := (h2.lt g rfl).2
  have hj' : j < us.length := by omega
  obtain ⟨c1, c2⟩ := h7 j hj'
  let T : Nat → Prop := fun b => (S b ∧ some b ≠ some g ∧ Z b = j) ∧ b < w.heap.size
  have hT : ∀ b, T b → S b ∧ b ≠ g ∧ b < w.heap.size := fun b hb => ⟨hb.1.1, fun e => hb.1.2.1 (by rw [e]), hb.2⟩
  have hgT : ¬ T g := fun hb => (hT g hb).2.1 rfl
  -- the other elements, and the row itself, behind a turn of T
  have row : ∀ w2, Turns T w w2 → w2.ownsRow 0 e 1 (.slice (some ⟨g, 0, none⟩) xs.length cap) xs.length us := fun w2 ht =>
    ownsRow_keep (S := fun b => b = g) h2 (fun b hb => by simpa [Value.ownBlock] using hb.symm) (ht.keep fun b hb => by rw [hb]; exact hgT)
  have back : ∀ w2 w3 (u' : Value) x', Turns T w w2 → RR (Grow T w.heap.size) w2 u' x' → (∀ b, b ≠ g → b < w2.heap.size → w3.heap[b]? = w2.heap[b]?) →
      w3.ownsRow 0 e 1 (.slice (some ⟨g, 0, none⟩) xs.length cap) xs.length (us.set j u') → OwnF RR e (Grow S w.heap.size) w3 (.slice (some ⟨g, 0, none⟩) xs.length cap) (xs.set j x') := by
    intro w2 w3 u' x' ht hr hk hrow
    refine ⟨fun b hb => ?_, us.set j u', fun b => if b < w.heap.size then Z b else j, by simpa using hrow, by simpa using h3, fun i g1 g2 => ?_⟩
    · obtain rfl : g = b := by simpa [Value.ownBlock] using hb
      exact .inl ⟨hg, hgl⟩
    · by_cases hij : j = i
      · subst hij
        simp only [List.getElem_set_self]
        have hr2 := hR.mono (S' := fun b => Grow S w.heap.size b ∧ some b ≠ some g ∧ (if b < w.heap.size then Z b else j) = j) hr (fun b _ hb => by
          rcases hb with hb | hb
          · exact ⟨.inl ⟨hb.1.1.1, hb.2⟩, hb.1.1.2.1, by rw [if_pos hb.2]; exact hb.1.1.2.2⟩
          · exact ⟨.inr hb, fun e => by have := Option.some.inj e; omega, by rw [if_neg (by omega)]⟩)
        exact hR.keep hr2 (fun b hb hlt => hk b (fun e => hb.2.1 (by rw [e]; rfl)) hlt)
      · have g1' : i < us.length := by simpa using g1
        have g2' : i < xs.length := by simpa using g2
        rw [List.getElem_set_ne hij, List.getElem_set_ne hij]
        have hr1 := hR.mono (S' := fun b => (S b ∧ some b ≠ some g ∧ Z b = i) ∧ b < w.heap.size) (h4 i g1' g2') (fun b hlt hb => ⟨hb, hlt⟩)
        have hr2 := hR.keep hr1 (ht.keep fun b hb hb' => hij (hb'.1.2.2.symm.trans hb.1.2.2))
        have hr3 := hR.keep (w' := w3) hr2 (fun b hb hlt => hk b (fun e => hb.1.2.1 (by rw [e])) hlt)
        exact hR.mono hr3 (fun b _ hb => ⟨.inl ⟨hb.1.1, hb.2⟩, hb.1.2.1, by show (if b < w.heap.size then Z b else j) = i; rw [if_pos hb.2]; exact hb.1.2.2⟩)
  refine ⟨g, cap, us[j], T, rfl, h5, h6, hg, c1, c2, hR.mono (h4 j hj' hj) (fun b hlt hb => ⟨hb, hlt⟩), hT, fun w2 x' ht hr => ?_, fun w2 u' x' ht hr => ?_⟩
  · exact back w2 w2 us[j] x' ht hr (fun _ _ _ => rfl) (by rw [List.set_getElem_self]; exact row w2 ht)
  · have c3 : w2.heap[g]? = w.heap[g]? := ht.block g hgT hgl
    refine ⟨(World.cell?_of_block (a := ⟨g, j, none⟩) c3).trans c1, (World.frozen?_of_block (a := ⟨g, j, none⟩) c3).trans c2, ?_, ?_⟩
    · exact back w2 _ u' x' ht hr (fun b hb _ => Below.heap_setCell w2 ⟨g, j, none⟩ u' b hb) (ownsRow_set (row w2 ht) j u')
    · exact (ht.mono fun b _ hb => .inl hb).setCell ⟨g, j, none⟩ u' (.inr rfl)

/-- The cells of a slice value that reads as a slice. -/
theorem SlV.news {α : Type} {R : World → Value → α → Prop} {S : Nat → Prop} {w : World} {ao : Option Addr} {m c : Nat} {ys : List α} (h : SlV R S w (.slice ao m c) ys) :
    m = ys.length ∧ Slok ao m ∧ ∃ us : List Value, us.length = m ∧ (∀ j u, us[j]? = some u → w.cell? ⟨slb ao, slo ao + j, none⟩ = some u) ∧ ∀ j (h1 : j < us.length) (h2 : j < ys.length), R w us[j] ys[j] := by
  obtain ⟨a, cap, hv, h1, h2, h3, h4, h5⟩ := h
  cases hv
  refine ⟨rfl, h1, (List.range ys.length).map (fun j => (w.cell? ⟨slb ao, slo ao + j, none⟩).getD undef), by simp, fun j u hu => ?_, fun j g1 g2 => ?_⟩
  · have hj : j < ys.length := by
      have := (List.getElem?_eq_some_iff.1 hu).1
      simpa using this
    obtain ⟨u', hu', _⟩ := h5 j hj
    rw [List.getElem?_eq_getElem (by simpa using hj)] at hu
    simp only [List.getElem_map, List.getElem_range] at hu
    rw [hu'] at hu
    rw [hu', ← hu]
    rfl
  · obtain ⟨u', hu', hr⟩ := h5 j g2
    simp only [List.getElem_map, List.getElem_range, hu']
    exact hr

section
variable {P : Program} {t e : TypeId} {bytes : Nat} {α : Type} {RR : (Nat → Prop) → World → Value → α → Prop} {w : World} {ops : Array Oper} {rest : List Oper} {o : Oper} {a : Act} {Q : Exit → Act → World → Prop}

/-- 'append(s, x...)' to a row whose elements are apart; the new elements lie in blocks that are newer than the row's world. -/
theorem wpList_appF (hR : Steady RR) (hgd : o.guard = none) (s x : Operand)
    (ho : o.op = .call { callee := .builtin .append, args := #[s, x], argTypes := #[t, t] }) (hT : AppT P t e 1 bytes)
    {S : Nat → Prop} {w1 : World} {v : Value} {xs : List α} (hs : a.eval s = v) (hown : OwnF RR e S w1 v xs) (hb : Below w1.heap.size w1 w)
    {ao : Option Addr} {m c : Nat} (hx : a.eval x = .slice ao m c) (hok : Slok ao m) (news : List Value) (hl : news.length = m)
    (hnews : ∀ j u, news[j]? = some u → w.cell? ⟨slb ao, slo ao + j, none⟩ = some u) (h1 : ∀ u ∈ news, u.oneCell' = true)
    (ys : List α) (hy : ys.length = m) (Zn : Nat → Nat) (hu : ∀ i (g1 : i < news.length) (g2 : i < ys.length), RR (fun b => w1.heap.size ≤ b ∧ Zn b = i) w news[i] ys[i])
    (hsmall : xs.length + m ≤ 1000000000)
    (h : ∀ v' w', OwnF RR e (Grow S w1.heap.size) w' v' (xs ++ ys) → Turns (fun b => some b = v.ownBlock) w w' → wpList P ops Q rest (a.put o.dst v') w') :
    wpList P ops Q (o :: rest) a w := by
  obtain ⟨f1, us, Z, f2, f3, f4⟩ := hown
  have hsz := hb.size
  have f2' : w.ownsRow 0 e 1 v xs.length us := ownsRow_keep (S := fun _ => True) f2 (fun _ _ => trivial) (KeepS.below hb)
  refine wpList_app hgd s x ho hT hs f2' ao m c hx hok news (by simpa using hl) hnews h1 hsmall (Nat.zero_le _) (fun v' w' g1 g2 g3 => ?_)
  refine h v' w' ⟨fun b hb' => ?_, us ++ news, fun b => if b < w1.heap.size then Z b else xs.length + Zn b, ?_, ?_, fun j k1 k2 => ?_⟩ (Turns.of_grown g2 fun b hb' => hb'.symm)
  · rcases g3 with g3 | g3
    · rw [g3] at hb'; exact .inl ⟨f1 b hb', (f2.lt b hb').2⟩
    · rw [g3] at hb'; exact .inr (by have := Option.some.inj hb'; omega)
  · rw [List.length_append, hy]; exact g1
  · simp [f3, hl, hy]
  · have other : ∀ {u y}, ∀ S' : Nat → Prop, RR S' w u y → (∀ b, b < w.heap.size → S' b → some b ≠ v.ownBlock) → (∀ b, b < w.heap.size → S' b → Grow S w1.heap.size b ∧ (if b < w1.heap.size then Z b else xs.length + Zn b) = j) →
        RR (fun b => Grow S w1.heap.size b ∧ some b ≠ v'.ownBlock ∧ (if b < w1.heap.size then Z b else xs.length + Zn b) = j) w' u y := by
      intro u y S' hr hne hS'
      have r1 := hR.mono (S' := fun b => S' b ∧ b < w.heap.size) hr (fun b hlt hb' => ⟨hb', hlt⟩)
      have r2 := hR.keep (w' := w') r1 (fun b hb' _ => g2.block b hb'.2 (hne b hb'.2 hb'.1))
      refine hR.mono r2 (fun b _ hb' => ⟨(hS' b hb'.2 hb'.1).1, ?_, (hS' b hb'.2 hb'.1).2⟩)
      rcases g3 with g3 | g3
      · rw [g3]; exact hne b hb'.2 hb'.1
      · rw [g3]; intro e'; have := Option.some.inj e'; omega
    by_cases hj : j < us.length
    · rw [List.getElem_append_left hj, List.getElem_append_left (by omega)]
      have r0 := hR.mono (S' := fun b => (S b ∧ some b ≠ v.ownBlock ∧ Z b = j) ∧ b < w1.heap.size) (f4 j hj (by omega)) (fun b hlt hb' => ⟨hb', hlt⟩)
      have r1 := hR.keep (w' := w) r0 (fun b hb' _ => hb.block b hb'.2)
      exact other _ r1 (fun b _ hb' => hb'.1.2.1) (fun b _ hb' => ⟨.inl ⟨hb'.1.1, hb'.2⟩, by rw [if_pos hb'.2]; exact hb'.1.2.2⟩)
    · have k1' : j < us.length + news.length := by simpa using k1
      rw [List.getElem_append_right (by omega), List.getElem_append_right (by omega)]
      have e1 : j - us.length = j - xs.length := by omega
      have hr := hu (j - us.length) (by omega) (by omega)
      simp only [e1] at hr ⊢
      refine other _ hr (fun b _ hb' e' => ?_) (fun b _ hb' => ⟨.inr hb'.1, by rw [if_neg (by omega), hb'.2]; omega⟩)
      have := (f2.lt b e'.symm).2
      omega

/-- 'append(s, x)': one new element. -/
theorem wpList_appF1 (hR : Steady RR) (hgd : o.guard = none) (s x : Operand)
    (ho : o.op = .call { callee := .builtin .append, args := #[s, x], argTypes := #[t, t] }) (hT : AppT P t e 1 bytes)
    {S : Nat → Prop} {w1 : World} {v : Value} {xs : List α} (hs : a.eval s = v) (hown : OwnF RR e S w1 v xs) (hb : Below w1.heap.size w1 w)
    {u : Value} {e' : TypeId} (hx : a.eval x = .slice (some ⟨w.heap.size, 0, none⟩) 1 1) (y : α) (hu : RR (fun b => w1.heap.size ≤ b) w u y) (h1 : u.oneCell' = true)
    (hsmall : xs.length + 1 ≤ 1000000000)
    (h : ∀ v' w', OwnF RR e (Grow S w1.heap.size) w' v' (xs ++ [y]) → Turns (fun b => some b = v.ownBlock) w w' → wpList P ops Q rest (a.put o.dst v') w') :
    wpList P ops Q (o :: rest) a (w.alloc (.cells #[u] e')) := by
  have ha : Below w.heap.size w (w.alloc (.cells #[u] e')) := (Below.refl _ _).alloc (Nat.le_refl _) _
  refine wpList_appF hR hgd s x ho hT hs hown (hb.trans (ha.mono hb.size)) hx (fun _ => ⟨_, _, rfl⟩) [u] rfl (news_alloc w #[u] e') (by simpa using h1) [y] rfl (fun _ => 0) ?_ hsmall (fun v' w' g1 g2 => h v' w' g1 ((Turns.of_below ha).trans ⟨g2.os, g2.tape, g2.output, g2.size, g2.block⟩))
  intro i g1 g2
  obtain rfl : i = 0 := by simp at g1; omega
  exact hR.mono (hR.keep hu (KeepS.below ha)) (fun b _ hb' => ⟨hb', rfl⟩)

/-- 'append(s, x...)' of numbers. -/
theorem wpList_appI (hgd : o.guard = none) (s x : Operand)
    (ho : o.op = .call { callee := .builtin .append, args := #[s, x], argTypes := #[t, t] }) (hT : AppT P t 3 1 bytes)
    {S : Nat → Prop} {w1 : World} {v : Value} {xs : List Int} (hs : a.eval s = v) (hown : IntsF S w1 v xs) (hb : Below w1.heap.size w1 w)
    {ao : Option Addr} {m c : Nat} (hx : a.eval x = .slice ao m c) {T : Nat → Prop} {ys : List Int} (hy : IntsV T w (.slice ao m c) ys)
    (hsmall : xs.length + m ≤ 1000000000)
    (h : ∀ v' w', IntsF (Grow S w1.heap.size) w' v' (xs ++ ys) → Turns (fun b => some b = v.ownBlock) w w' → wpList P ops Q rest (a.put o.dst v') w') :
    wpList P ops Q (o :: rest) a w := by
  obtain ⟨rfl, hok, us, l1, l2, l3⟩ := SlV.news hy
  have hus : us = ys.map (Value.int .i64) := by
    refine List.ext_getElem (by simp [l1]) (fun i g1 g2 => ?_)
    simpa using l3 i g1 (by simpa using g2)
  have hsz := hb.size
  have f2' : w.ownsRow 0 3 1 v xs.length (xs.map (Value.int .i64)) := ownsRow_keep (S := fun _ => True) hown.1 (fun _ _ => trivial) (KeepS.below hb)
  refine wpList_app hgd s x ho hT hs f2' ao ys.length c hx hok us (by simpa using l1) l2 ?_ hsmall (Nat.zero_le _) (fun v' w' g1 g2 g3 => h v' w' ⟨?_, fun b hb' => ?_⟩ (Turns.of_grown g2 fun b hb' => hb'.symm))
  · rw [hus]; intro u hu; obtain ⟨y, _, rfl⟩ := List.mem_map.1 hu; rfl
  · rw [List.length_append, List.map_append, ← hus]; exact g1
  · rcases g3 with g3 | g3
    · rw [g3] at hb'; exact .inl ⟨hown.2 b hb', (hown.1.lt b hb').2⟩
    · rw [g3] at hb'; exact .inr (by have := Option.some.inj hb'; omega)
end

end Go.Proofs.Ytagnjhhbbjbhcaa
