/- slices.Sort, Compact at ints, by the shelf. -/
import Derived.Test.YteepdnamkcgndaaM15
import Derived.Test.YteepdnamkcgndaaM18
import Derived.Lib.RowBridge
namespace Go.Proofs.Yteepdnamkcgndaa
open Go.RowKit Go.Shelf Go.Lib Go.Sort

/-- A row of ints of the call's own. -/
abbrev OwnI (B : Nat) (w : World) (v : Value) (xs : List Int) : Prop := OwnV (fun _ _ u (x : Int) => u = .int .i64 x) B 3 w v xs
theorem OwnI.row {B : Nat} {w : World} {v : Value} {xs : List Int} (h : OwnI B w v xs) : w.ownsRow B 3 1 v xs.length (xs.map (Value.int .i64)) := by
  obtain ⟨us, h1, h2, h3⟩ := h
  have : us = xs.map (Value.int .i64) := by
    refine List.ext_getElem (by simp [h2]) (fun i g1 g2 => ?_)
    rw [List.getElem_map]
    exact h3 i g1 (by simpa using g2)
  rw [← this]; exact h1
theorem OwnI.of {B : Nat} {w : World} {v : Value} {xs : List Int} (h : w.ownsRow B 3 1 v xs.length (xs.map (Value.int .i64))) : OwnI B w v xs :=
  ⟨_, h, by simp, fun j g1 g2 => by simp⟩

theorem rowW_block (enc : Int → Value) (w : World) (g n : Nat) (d : Array Int) (os : Array Obj) {b : Nat} (hb : b < w.heap.size) (hne : b ≠ g) : (grow (putRow enc (Sort.ahead w n) g 0 d) os).heap[b]? = w.heap[b]? := by
  rw [heap_grow_old _ _ (by simpa [putRow, mapBlock] using hb)]
  unfold putRow mapBlock
  simp only [Array.getElem?_modify, heap_ahead]
  rw [if_neg (Ne.symm hne)]
theorem rowW_row (enc : Int → Value) (w : World) (g n : Nat) (d : Array Int) (os : Array Obj) {c : Array Value} {e : TypeId} {fr : Nat × Nat} (h : w.heap[g]? = some (.cells c e fr)) : (grow (putRow enc (Sort.ahead w n) g 0 d) os).heap[g]? = some (.cells (putCells enc 0 d c) e fr) := by
  have hb := (Array.getElem?_eq_some_iff.1 h).1
  rw [heap_grow_old _ _ (by simpa [putRow, mapBlock] using hb)]
  unfold putRow mapBlock
  simp only [Array.getElem?_modify, heap_ahead, if_true, h]
  rfl
theorem rowW_turns (enc : Int → Value) (w : World) (g n : Nat) (d : Array Int) (os : Array Obj) : Turns (· = g) w (grow (putRow enc (Sort.ahead w n) g 0 d) os) :=
  ⟨rfl, rfl, rfl, by simp [putRow, mapBlock], fun b hb hlt => rowW_block enc w g n d os hlt hb⟩
theorem row_holds {w : World} {g : Nat} {cur : Array Value} {xs : List Int} (hg : w.heap[g]? = some (.cells cur 3 (0, 0))) (ht : cur.toList.take xs.length = xs.map (Value.int .i64)) : Holds (Value.int .i64) w g 0 xs.toArray := fun j hj => by
  have hj' : j < xs.length := by simpa using hj
  have e4 : cur[j]? = (xs.map (Value.int .i64))[j]? := by
    rw [← ht, List.getElem?_take, if_pos hj']
    simp
  have e5 : (xs.map (Value.int .i64))[j]? = some (.int .i64 xs[j]) := by simp [hj']
  rw [e5] at e4
  have e6 : xs.toArray[j]! = xs[j] := by simp [getElem!_pos, hj']
  rw [Nat.zero_add, e6]
  exact ⟨by simp [World.cell?, hg, e4], by simp [World.frozen?, hg]⟩
theorem put_take {cur : Array Value} {ys : List Int} {k : Nat} (hk : ys.length ≤ k) (hc : k ≤ cur.size) (zs : List Int) (hz : zs.length = k) (hzs : zs.take ys.length = ys) : (putCells (Value.int .i64) 0 zs.toArray cur).toList.take ys.length = ys.map (Value.int .i64) := by
  apply List.ext_getElem?
  intro j
  rw [List.getElem?_take]
  by_cases hj : j < ys.length
  · rw [if_pos hj]
    have hjc : j < cur.size := by omega
    simp only [putCells, Array.getElem?_toList, Array.getElem?_mapIdx, Array.getElem?_eq_getElem hjc]
    have hy : ys[j]? = zs[j]? := by
      have := congrArg (fun l => l[j]?) hzs
      simp only [List.getElem?_take, if_pos hj] at this
      exact this.symm
    have hjz : j < zs.length := by omega
    rw [List.getElem?_map, hy, List.getElem?_eq_getElem hjz]
    simp [hjz, getElem!_pos]
  · rw [if_neg hj, List.getElem?_eq_none (by simp; omega)]

theorem sortI_any (B : Nat) (xs : List Int) (hn : xs.length ≤ 1000000) (v : Value) (w : World) (h : OwnI B w v xs) :
    Calls Try.prog 25 #[v] w fun e w' => e = .returned (.tuple #[]) ∧ OwnI B w' v (xs.mergeSort fun x y => decide (x ≤ y)) ∧ Turns (fun b => some b = v.ownBlock) w w' := by
  obtain ⟨h1, h1'⟩ := h.row
  rcases h1' with ⟨rfl, h00⟩ | ⟨g, cap, cur, rfl, hbg, hgr, hroom, hcm, hsz, htk⟩
  · obtain rfl : xs = [] := List.eq_nil_of_length_eq_zero h00
    refine Calls.mono (Any.slices_Sort_int_none Try.lays189 none 0 w) ?_
    rintro e w' ⟨rfl, rfl⟩
    exact ⟨rfl, by rw [show ([] : List Int).mergeSort (fun x y => decide (x ≤ y)) = [] by simp]; exact OwnV.nil _ _ _ _, Turns.refl _ _⟩
  · have hlt := (Array.getElem?_eq_some_iff.1 hgr).1
    simp only [Nat.mul_one] at htk hsz
    have hH := row_holds hgr htk
    have hS := Any.slices_Sort_int Try.lays189 g 0 cap xs w hH hlt (by omega)
    refine Calls.mono hS ?_
    rintro e w' ⟨rfl, n, os, rfl⟩
    have hlen : (xs.mergeSort fun x y => decide (x ≤ y)).length = xs.length := List.length_mergeSort _
    refine ⟨rfl, OwnI.of ⟨by simp, .inr ⟨g, cap, putCells (Value.int .i64) 0 (xs.mergeSort fun x y => decide (x ≤ y)).toArray cur, by rw [hlen], hbg, rowW_row _ w g n _ os hgr, by rw [hlen]; exact hroom, hcm, by simp [putCells, hsz], ?_⟩⟩, ?_⟩
    · rw [Nat.mul_one]
      exact put_take (k := (xs.mergeSort fun x y => decide (x ≤ y)).length) (Nat.le_refl _) (by rw [hlen, hsz]; exact hroom) _ rfl (List.take_of_length_le (Nat.le_refl _))
    · have := rowW_turns (Value.int .i64) w g n (xs.mergeSort fun x y => decide (x ≤ y)).toArray os
      exact ⟨this.os, this.tape, this.output, this.size, fun b hb hl => this.block b (fun e => hb (by rw [e]; rfl)) hl⟩

theorem compactI_any (B : Nat) (xs : List Int) (hn : xs.length ≤ 1000000) (v : Value) (w : World) (h : OwnI B w v xs) :
    Calls Try.prog 26 #[v] w fun e w' => ∃ x, e = .returned x ∧ IntsV (B ≤ ·) w' x (Lib.compact xs) ∧ Turns (fun b => some b = v.ownBlock) w w' := by
  obtain ⟨h1, h1'⟩ := h.row
  rcases h1' with ⟨rfl, h00⟩ | ⟨g, cap, cur, rfl, hbg, hgr, hroom, hcm, hsz, htk⟩
  · obtain rfl : xs = [] := List.eq_nil_of_length_eq_zero h00
    refine Calls.mono (Any.slices_Compact_int_empty Try.laysNm220 none 0 w) ?_
    rintro e w' ⟨rfl, rfl⟩
    exact ⟨_, rfl, SlV.nil _ _ _, Turns.refl _ _⟩
  · have hlt := (Array.getElem?_eq_some_iff.1 hgr).1
    simp only [Nat.mul_one] at htk hsz
    have hH := row_holds hgr htk
    have hS := Any.slices_Compact_int Try.laysNm220 g 0 cap xs w hH (by omega) hroom
    refine Calls.mono hS ?_
    rintro e w' ⟨rfl, n, rfl⟩
    have hle := Lib.compact_length_le xs
    have hg := rowW_row (Value.int .i64) w g n (Lib.compact xs ++ List.replicate (xs.length - (Lib.compact xs).length) 0).toArray #[] hgr
    have ht := rowW_turns (Value.int .i64) w g n (Lib.compact xs ++ List.replicate (xs.length - (Lib.compact xs).length) 0).toArray #[]
    rw [grow_empty] at hg ht
    have hO : OwnI B (putRow (Value.int .i64) (Sort.ahead w n) g 0 (Lib.compact xs ++ List.replicate (xs.length - (Lib.compact xs).length) 0).toArray) (.slice (some ⟨g, 0, none⟩) (Lib.compact xs).length cap) (Lib.compact xs) := by
      refine OwnI.of ⟨by simp, .inr ⟨g, cap, _, rfl, hbg, hg, by omega, hcm, by simp [putCells, hsz], ?_⟩⟩
      rw [Nat.mul_one]
      exact put_take (k := xs.length) hle (by rw [hsz]; exact hroom) _ (by simp; omega) (by simp)
    exact ⟨_, rfl, hO.sl steady_int, ⟨ht.os, ht.tape, ht.output, ht.size, fun b hb hl => ht.block b (fun e => hb (by rw [e]; rfl)) hl⟩⟩

end Go.Proofs.Yteepdnamkcgndaa
