/- slices.SortFunc at changes, by the shelf. -/
import Derived.Test.YteepdnamkcgndaaM15
import Derived.Test.YteepdnamkcgndaaM14
import Derived.Test.YteepdnamkcgndaaM18
namespace Go.Proofs.Yteepdnamkcgndaa
open Go.RowKit Go.Shelf Go.Lib Go.Sort

/-- A change and the value of its list. -/
abbrev ElC := { p : Value × Chg // (∃ a n c, p.1 = .slice a n c) ∧ GoodC p.2 }
instance : Inhabited ElC := ⟨⟨(.slice none 0 0, ⟨0, 0, 0, 0, 0, []⟩), ⟨_, _, _, rfl⟩, ⟨by simp [Lil], by simp [Lil], by simp⟩⟩⟩
def encC (x : ElC) : List Value := x.1.2.cells x.1.1
def cfC (x y : ElC) : Int := placeI x.1.2 y.1.2
def ltP (c d : Chg) : Bool := decide (c.index < d.index) || (decide (c.index = d.index) && decide (c.field < d.field))
theorem ltC_eq (x y : ElC) : ltOf cfC x y = ltP x.1.2 y.1.2 := by
  unfold ltOf cfC placeI ltP
  by_cases h : x.1.2.index = y.1.2.index
  · rw [if_pos h, decide_eq_true h, decide_eq_false (show ¬ x.1.2.index < y.1.2.index by omega), Bool.false_or, Bool.true_and, decide_eq_decide]; omega
  · rw [if_neg h, decide_eq_false h, Bool.false_and, Bool.or_false, decide_eq_decide]; omega
theorem ltP_iff {c d : Chg} : ltP c d = true ↔ c.index < d.index ∨ c.index = d.index ∧ c.field < d.field := by
  unfold ltP
  simp only [Bool.or_eq_true, Bool.and_eq_true, decide_eq_true_eq]
theorem ltP_not {c d : Chg} : ltP c d = false ↔ d.index < c.index ∨ c.index = d.index ∧ d.field ≤ c.field := by
  rw [Bool.eq_false_iff, ne_eq, ltP_iff]
  omega
theorem swoC : SWO (ltOf cfC) where
  irrefl x := by rw [ltC_eq, ltP_not]; omega
  trans x y z h1 h2 := by rw [ltC_eq, ltP_iff] at *; omega
  ntrans x y z h1 h2 := by rw [ltC_eq, ltP_not] at *; omega

theorem sortK_block {α : Type} [Inhabited α] (enc : α → List Value) (k : Nat) (w : World) (g n : Nat) (d : Array α) (os : Array Obj) {b : Nat} (hb : b < w.heap.size) (hne : b ≠ g) : (sortWorldK enc k w g 0 n d os).heap[b]? = w.heap[b]? := by
  unfold sortWorldK putRowK
  rw [heap_grow_old _ _ (by simpa [putRow, mapBlock] using hb)]
  unfold putRow mapBlock
  simp only [Array.getElem?_modify, heap_ahead]
  rw [if_neg (Ne.symm hne)]
theorem sortK_row {α : Type} [Inhabited α] (enc : α → List Value) (k : Nat) (w : World) (g n : Nat) (d : Array α) (os : Array Obj) {c : Array Value} {e : TypeId} {fr : Nat × Nat} (h : w.heap[g]? = some (.cells c e fr)) : (sortWorldK enc k w g 0 n d os).heap[g]? = some (.cells (putCells id 0 (flatK enc k d) c) e fr) := by
  have hb := (Array.getElem?_eq_some_iff.1 h).1
  unfold sortWorldK putRowK
  rw [heap_grow_old _ _ (by simpa [putRow, mapBlock] using hb)]
  unfold putRow mapBlock
  simp only [Array.getElem?_modify, heap_ahead, if_true, h]
  rfl
theorem sortK_turns {α : Type} [Inhabited α] (enc : α → List Value) (k : Nat) (w : World) (g n : Nat) (d : Array α) (os : Array Obj) : Turns (· = g) w (sortWorldK enc k w g 0 n d os) :=
  ⟨rfl, rfl, rfl, by simp [sortWorldK, putRowK, putRow, mapBlock], fun b hb hlt => sortK_block enc k w g n d os hlt hb⟩

theorem elsC : ∀ (us : List Value) (xs : List Chg), us.length = xs.length → (∀ u ∈ us, ∃ a n c, u = .slice a n c) → GoodL xs → ∃ dl : List ElC, dl.map (fun x => x.1.1) = us ∧ dl.map (fun x => x.1.2) = xs
  | [], [], _, _, _ => ⟨[], rfl, rfl⟩
  | u :: us, x :: xs, hl, h, hg => by
    obtain ⟨dl, e1, e2⟩ := elsC us xs (by simpa using hl) (fun v hv => h v (List.mem_cons_of_mem _ hv)) (fun c hc => hg c (List.mem_cons_of_mem _ hc))
    exact ⟨⟨(u, x), h u (List.mem_cons_self ..), hg x (List.mem_cons_self ..)⟩ :: dl, by simp [e1], by simp [e2]⟩
  | [], _ :: _, h, _, _ => by simp at h
  | _ :: _, [], h, _, _ => by simp at h

/-- The flat row of the sorted elements. -/
theorem flatK_C (d : Array ElC) : (flatK encC 6 d).toList = flatC (d.toList.map (fun x => x.1.2)) (d.toList.map (fun x => x.1.1)) := by
  apply List.ext_getElem?
  intro q
  rw [flatC_get _ _ (by simp)]
  by_cases hq : q / 6 < d.size
  · rw [dif_pos (by simpa using hq)]
    have h6 : q < d.size * 6 := by omega
    have h1 := get_flatK encC 6 d q h6
    have h2 : (flatK encC 6 d).toList[q]? = some ((flatK encC 6 d)[q]!) := by
      rw [Array.getElem?_toList, Array.getElem?_eq_getElem (by simpa using h6), getElem!_pos (flatK encC 6 d) q (by simpa using h6)]
    rw [h2, h1, getElem!_pos d (q / 6) hq]
    have hl : (encC d[q / 6]).length = 6 := rfl
    rw [getElem!_pos (encC d[q / 6]) (q % 6) (by rw [hl]; omega)]
    simp only [List.getElem_map, Array.getElem_toList]
    exact (List.getElem?_eq_getElem _).symm
  · rw [dif_neg (by simpa using hq)]
    refine List.getElem?_eq_none ?_
    simp
    omega

theorem sortC_any (S : Nat → Prop) (B : Nat) (w : World) (a : Option Addr) (l c : Nat) (xs : List Chg) (hg : GoodL xs) (h : OwnC S B 59 w (.slice a l c) xs) (hn : xs.length ≤ 1000000) :
    Calls Try.prog 50 #[.slice a l c, .func (.func 49) #[] #[]] w fun e w' => e = .returned (.tuple #[]) ∧ ∃ ys, Mer.SortS ys xs ∧ OwnC S B 59 w' (.slice a l c) ys ∧ Turns (fun b => some b = (Value.slice a l c).ownBlock) w w' := by
  obtain ⟨us, ⟨h1, h1'⟩, h2, h3⟩ := h
  rcases h1' with ⟨h0, h00⟩ | ⟨g, cap, cur, he, hbg, hgr, hroom, hcm, hsz, htk⟩
  · cases h0
    obtain rfl : xs = [] := by
      exact List.eq_nil_of_length_eq_zero h00
    have hS := AnyF.slices_SortFunc_none (P := Try.prog) (ρ := Try.sortQ_ren) { Try.sortQ with } none 0 (.func (.func 49) #[] #[]) w
    refine Calls.mono hS ?_
    rintro e w' ⟨rfl, rfl⟩
    exact ⟨rfl, [], ⟨List.Perm.refl _, List.Pairwise.nil⟩, OwnC.nil _ _ _ _, Turns.refl _ _⟩
  · cases he
    obtain ⟨dl, e1, e2⟩ := elsC us xs h2 (fun u hu => by
      obtain ⟨j, hj, rfl⟩ := List.getElem_of_mem hu
      obtain ⟨a, cap, e, -⟩ := (h3 j hj (by omega)).form
      exact ⟨_, _, _, e⟩) hg
    have hdl : dl.length = xs.length := by rw [← e2, List.length_map]
    have hlt := (Array.getElem?_eq_some_iff.1 hgr).1
    have hfl : (flatK encC 6 dl.toArray).toList = flatC xs us := by
      rw [flatK_C]
      simp only [e1, e2]
    have hlen := flatC_len xs us h2
    have hH : HoldsK encC 6 w g 0 dl.toArray := fun j hj => by
      have hj' : j < xs.length * 6 := by simpa [hdl] using hj
      have e3 : (flatK encC 6 dl.toArray)[j]! = (flatC xs us)[j]'(by rw [hlen]; exact hj') := by
        rw [getElem!_pos (flatK encC 6 dl.toArray) j hj, ← Array.getElem_toList]
        congr 1
      have e4 : cur[j]? = (flatC xs us)[j]? := by
        rw [← htk, List.getElem?_take, if_pos hj']
        simp
      rw [List.getElem?_eq_getElem (by rw [hlen]; exact hj')] at e4
      rw [Nat.zero_add]
      constructor
      · rw [e3]
        simp [World.cell?, hgr, e4]
      · simp [World.frozen?, hgr]
    have hcmp : CmpLays Try.prog 49 #[] encC 6 cfC g 0 dl.toArray.size w := fun m os dk hs x y => by
      obtain ⟨⟨u, c1⟩, ⟨a1, n1, p1, hu⟩, gc⟩ := x
      obtain ⟨⟨v, c2⟩, ⟨a2, n2, p2, hv⟩, gd⟩ := y
      simp only at hu hv gc gd
      subst hu hv
      refine Calls.mono (place_any c1 c2 (lil5.1 gc.ints).2.1 gc.field (lil5.1 gd.ints).2.1 gd.field a1 a2 n1 n2 p1 p2 _) ?_
      rintro e w' ⟨e1, e2⟩
      exact ⟨e1, 0, _, by rw [e2, alloc_eq_grow, alloc_eq_grow, grow_grow]; rfl⟩
    have hS := AnyQ.slices_SortFunc Try.sortQ 6 (fun w => by kernel_rfl) (fun w => by kernel_rfl) encC (fun _ => rfl) (fun x v hv => by
      obtain ⟨⟨u, c1⟩, ⟨a1, n1, p1, hu⟩, gc⟩ := x
      simp only at hu
      subst hu
      simp only [encC, Chg.cells, List.mem_cons, List.not_mem_nil, or_false] at hv
      rcases hv with h | h | h | h | h | h <;> rw [h] <;> rfl) cfC swoC 49 #[] g 0 c dl.toArray w (fn_enters Try.func49 (by kernel_rfl) rfl) hcmp hH hlt (by simp; omega)
    have hdz : dl.toArray.size = xs.length := by simp [hdl]
    rw [hdz] at hS
    refine Calls.mono hS ?_
    rintro e w' ⟨rfl, d', n, os, ⟨p1, -, p3⟩, hsort, rfl⟩
    rw [hdz] at p1
    have x1 : d'.extract 0 xs.length = d' := by rw [← p1]; simp
    have x2 : dl.toArray.extract 0 xs.length = dl.toArray := by rw [← hdz]; simp
    rw [x1, x2] at p3
    have hperm : d'.toList.Perm dl := by simpa using p3
    have hk : KeepS (fun b => S b ∧ some b ≠ some g) w (sortWorldK encC 6 w g 0 n d' os) := fun b hb hlt' => sortK_block encC 6 w g n d' os hlt' (fun e => hb.2 (by rw [e]))
    have hlen' : d'.toList.length = xs.length := by simpa using p1
    have hmem : ∀ x ∈ d'.toList, IntsV (fun b => S b ∧ some b ≠ some g) w x.1.1 x.1.2.values := fun x hx => by
      obtain ⟨j, hj, ej⟩ := List.getElem_of_mem (hperm.mem_iff.1 hx)
      have q1 : us[j]'(by rw [← e1]; simpa using hj) = x.1.1 := by simp [← e1, ej]
      have q2 : xs[j]'(by rw [← e2]; simpa using hj) = x.1.2 := by simp [← e2, ej]
      have := h3 j (by rw [← e1]; simpa using hj) (by rw [← e2]; simpa using hj)
      rw [q1, q2] at this
      exact this
    refine ⟨rfl, d'.toList.map (fun x => x.1.2), ⟨?_, ?_⟩, ?_, ?_⟩
    · have := hperm.map (fun x => x.1.2)
      rw [e2] at this
      exact this
    · rw [List.pairwise_iff_getElem]
      intro i j hi hj hij
      have hi' : i < d'.size := by simpa using hi
      have hj' : j < d'.size := by simpa using hj
      have := hsort i j (Nat.zero_le _) hij (by omega)
      rw [ltC_eq, getElem!_pos d' i hi', getElem!_pos d' j hj', ltP_not] at this
      simp only [List.getElem_map, Array.getElem_toList]
      unfold Mer.leS
      omega
    · refine ⟨d'.toList.map (fun x => x.1.1), ⟨by rw [flatC_len _ _ (by simp)], .inr ⟨g, c, putCells id 0 (flatK encC 6 d') cur, by simp [hlen'], hbg, sortK_row encC 6 w g n d' os hgr, by simp [p1]; omega, hcm, by simp [putCells, hsz], ?_⟩⟩, by simp, fun j k1 k2 => ?_⟩
      · rw [← flatK_C]
        apply List.ext_getElem?
        intro j
        rw [List.getElem?_take]
        simp only [List.length_map, Array.length_toList, putCells, Array.getElem?_toList, Array.getElem?_mapIdx]
        by_cases hj : j < d'.size * 6
        · have hjc : j < cur.size := by rw [hsz]; have := Nat.mul_le_mul_right 6 (show d'.size ≤ c by omega); omega
          rw [if_pos hj, Array.getElem?_eq_getElem hjc, Array.getElem?_eq_getElem (by simpa using hj)]
          simp [hj, getElem!_pos]
        · rw [if_neg hj, Array.getElem?_eq_none (by simp; omega)]
      · simp only [List.getElem_map]
        exact IntsV.keep (hmem _ (List.getElem_mem (by simpa using k1))) hk
    · have := sortK_turns encC 6 w g n d' os
      exact ⟨this.os, this.tape, this.output, this.size, fun b hb hl => this.block b (fun e => hb (by rw [e]; rfl)) hl⟩

end Go.Proofs.Yteepdnamkcgndaa
