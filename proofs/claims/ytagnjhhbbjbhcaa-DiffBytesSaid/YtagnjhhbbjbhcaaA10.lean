/- odd: a world with something changed. odd: a world with something changed: the walk. DiffFinds: for all arguments it returns true. -/
import Derived.Test.YtagnjhhbbjbhcaaA9
import Derived.Test.YtagnjhhbbjbhcaaA6
import Derived.Test.YtagnjhhbbjbhcaaA8
import Derived.Test.YtagnjhhbbjbhcaaA4
import Derived.Test.YtagnjhhbbjbhcaaA3
import Derived.ProofKit
import Derived.OpenShut
namespace Go.Proofs.Ytagnjhhbbjbhcaa
open Go.RowKit

/-- No part of a world is longer than 1000. -/
def Tiny (W : List (List (List Int))) : Prop := W.length ≤ 1000 ∧ ∀ rows ∈ W, rows.length ≤ 1000 ∧ ∀ r ∈ rows, r.length ≤ 1000
theorem Tiny.small {W : List (List (List Int))} (h : Tiny W) : Small W :=
  ⟨by have := h.1; omega, fun rows hr => ⟨by have := (h.2 rows hr).1; omega, fun r hr' => by have := (h.2 rows hr).2 r hr'; omega⟩⟩
theorem Tiny.set {W : List (List (List Int))} (h : Tiny W) {k : Nat} {R : List (List Int)} (hR : R.length ≤ 100000 ∧ ∀ r ∈ R, r.length ≤ 100000) : Small (W.set k R) := by
  refine ⟨by rw [List.length_set]; have := h.1; omega, fun rows hr => ?_⟩
  rcases mem_set hr with rfl | hr
  · exact hR
  · exact h.small.2 rows hr

/-- A block that was just built is a row of the call's own. -/
theorem ownsRow_blk {w : World} {b : Nat} {t : TypeId} (us : List Value) (h : w.heap[b]? = some (.cells us.toArray t (0, 0))) (hs : us.length ≤ 100000) : w.ownsRow 0 t 1 (.slice (some ⟨b, 0, none⟩) us.length us.length) us.length us :=
  ⟨by simp, .inr ⟨b, us.length, us.toArray, rfl, Nat.zero_le _, h, Nat.le_refl _, by unfold maxLen; omega, by simp, by simp⟩⟩
theorem intsF_blk {S : Nat → Prop} {w : World} {b : Nat} (xs : List Int) (h : w.heap[b]? = some (.cells (xs.map (Value.int .i64)).toArray 3 (0, 0))) (hs : xs.length ≤ 100000) (hb : S b) : IntsF S w (.slice (some ⟨b, 0, none⟩) xs.length xs.length) xs := by
  have h1 := ownsRow_blk (xs.map (Value.int .i64)) h (by simpa using hs)
  simp only [List.length_map] at h1
  exact ⟨h1, fun b' hb' => by simp [Value.ownBlock] at hb'; exact hb' ▸ hb⟩
/-- One record. -/
theorem rowsF_one {S : Nat → Prop} {w : World} {b c : Nat} (xs : List Int) (hx : w.heap[b]? = some (.cells (xs.map (Value.int .i64)).toArray 3 (0, 0))) (hs : xs.length ≤ 100000)
    (h : w.heap[c]? = some (.cells #[.slice (some ⟨b, 0, none⟩) xs.length xs.length] 22 (0, 0))) (hb : S b) (hc : S c) (hbc : b ≠ c) : RowsF S w (.slice (some ⟨c, 0, none⟩) 1 1) [xs] := by
  refine ⟨fun b' hb' => by simp [Value.ownBlock] at hb'; exact hb' ▸ hc, [.slice (some ⟨b, 0, none⟩) xs.length xs.length], fun _ => 0, ownsRow_blk [_] h (by simp), rfl, fun j h1 h2 => ?_⟩
  obtain rfl : j = 0 := by simp at h1; omega
  refine intsF_blk xs hx hs ⟨hb, fun e => ?_, rfl⟩
  simp [Value.ownBlock] at e
  exact hbc e

def zeroCells (n : Nat) : Array Value := ((List.replicate n (0 : Int)).map (Value.int .i64)).toArray
theorem madeCells_zero (n : Nat) : madeCells (Value.int .i64 0).cells (n * 1) = zeroCells n := by
  apply Array.ext
  · simp [madeCells, zeroCells]
  · intro i h1 h2
    simp [madeCells, zeroCells, Value.cells, Nat.mod_one]
/-- 'make([]int, n)'. -/
theorem run_mkZero {P : Program} {t e : TypeId} {b : Nat} (ht : P.underlying t = some (.slice e)) (hi : (P.info? e).map (fun i => (i.zero, i.size, i.bytes)) = some (some (.int .i64 0), 1, b)) (hb : b ≤ 1000)
    (n : Nat) (hn : n ≤ 1000000) (w : World) :
    (Instr.makeSlice t (.int .i64 (n : Int)) (.int .i64 (n : Int))).run P w = .ok (.slice (some ⟨w.heap.size, 0, none⟩) n n) (w.alloc (.cells (zeroCells n) e)) := by
  obtain ⟨i, h1, h2, h3, h4⟩ := info_parts hi
  have hy : (i.bytes : Int) * (n : Int) ≤ 281474976710656 := by
    have h : i.bytes * n ≤ 1000 * 1000000 := Nat.mul_le_mul (by omega) hn
    have : ((i.bytes * n : Nat) : Int) ≤ 281474976710656 := by omega
    rwa [Int.natCast_mul] at this
  have hr := run_make (P := P) w t e i (.int .i64 0) ht h1 h2 .i64 .i64 (n : Int) (n : Int) (by omega) (by omega) hy (by omega)
  rw [h3, Int.toNat_natCast, madeCells_zero] at hr
  exact hr
theorem made_zero (w : World) (n : Nat) (hn : n ≤ 100000) : IntsF (fun b => w.heap.size ≤ b) (w.alloc (.cells (zeroCells n) 3)) (.slice (some ⟨w.heap.size, 0, none⟩) n n) (List.replicate n 0) := by
  have h := intsF_blk (S := fun b => w.heap.size ≤ b) (w := w.alloc (.cells (zeroCells n) 3)) (b := w.heap.size) (List.replicate n 0) (heap_new _ _ rfl) (by simpa using hn) (Nat.le_refl _)
  simpa using h

end Go.Proofs.Ytagnjhhbbjbhcaa

namespace Go.Proofs.Ytagnjhhbbjbhcaa
open Go.RowKit

set_option maxRecDepth 100000 in
set_option maxHeartbeats 8000000 in
theorem odd_any (W : List (List (List Int))) (hW : Tiny W) (p1 p2 p3 : Int) (a1 : -9223372036854775808 ≤ p1) (a2 : p1 ≤ 9223372036854775807) (b1 : -9223372036854775808 ≤ p2) (b2 : p2 ≤ 9223372036854775807) (c1 : -9223372036854775808 ≤ p3) (c2 : p3 ≤ 9223372036854775807)
    (u : Value) (S : Nat → Prop) (w : World) (hu : WorldV S w u W) :
    Calls Try.prog 11 #[u, .int .i64 p1, .int .i64 p2, .int .i64 p3] w fun e w' => ∃ x, e = .returned x ∧ ∃ W', Small W' ∧ WorldV AnyB w' x W' ∧ Below w.heap.size w w' := by
  have HC := hid (copy_any W hW.small u S w hu)
  have hW1 := hW.1
  have HW := hid hW
  clear hu hW
  go_enter Try.func11, Try.ntmps11
  go_wp2_with fail
  refine HC.out.mono ?_
  rintro e w1 ⟨x, rfl, hx, hb1⟩
  have hz1 := hb1.size
  obtain ⟨aa, cg, e1, hoka, hcg1, hcg2⟩ := (WorldF.sl hx).form
  subst e1
  have HX := hid hx
  clear hx
  rcases Nat.eq_zero_or_pos W.length with h0 | h0
  · -- no kinds
    obtain rfl : W = [] := List.eq_nil_of_length_eq_zero h0
    simp only [List.length_nil] at HX hoka hcg1 ⊢
    clear h0
    go_wp2_with (at_builtin; go_must (refine wpList_appF1 steady_rowsF rfl _ _ rfl Try.app25 rfl HX.out (((Below.refl _ _).alloc (Nat.le_refl _) _).alloc (by simp) _) (by exact congrArg (fun b => Value.slice (some ⟨b, 0, none⟩) 1 1) (show w1.heap.size + 1 + 1 = ((w1.alloc (.cells #[.int .i64 p3] 3)).alloc (.cells #[.slice (some ⟨w1.heap.size, 0, none⟩) 1 1] 22)).heap.size by simp)) [[p3]] (rowsF_one (b := w1.heap.size) (c := w1.heap.size + 1) [p3] (heap_step _ (heap_new _ _ rfl)) (by simp) (heap_new _ _ (by simp)) (Nat.le_refl _) (by omega) (by omega)) rfl (by simp) ?_))
    intro v' w4 hR4 ht4
    have hv := WorldV.mono (S' := AnyB) (WorldF.sl hR4) (fun _ _ _ => trivial)
    obtain ⟨av', lv', cv', rfl⟩ : ∃ a l c, v' = .slice a l c := by obtain ⟨a, c, e, _⟩ := hv.form; exact ⟨_, _, _, e⟩
    have HV := hid hv
    have hb4 : Below w.heap.size w w4 := (hb1.trans (((((Below.refl _ _).alloc (Nat.le_refl _) _).alloc (by simp) _) : Below w1.heap.size w1 ((w1.alloc (.cells #[.int .i64 p3] 3)).alloc (.cells #[.slice (some ⟨w1.heap.size, 0, none⟩) 1 1] 22))).mono hz1)).trans (ht4.below (by simp; omega) (fun b hb => HX.out.1 b hb.symm))
    clear hv hR4 ht4
    go_wp2
    go_ret
    exact ⟨_, rfl, _, ⟨by simp, by simp⟩, HV.out, hb4⟩
  · have hlen : (0 : Int) < W.length := by omega
    have hne : ((W.length : Int) == 0) = false := beqF (by omega)
    go_wp2_with fail
    refine (around_any p1 W.length _ a1 a2 (by omega) (by omega)).mono ?_
    rintro e w' ⟨rfl, rfl⟩
    have hk := around_lt p1 W.length (by omega)
    generalize around p1 W.length = kz at *
    obtain ⟨k, rfl⟩ := Int.eq_ofNat_of_zero_le hk.1
    have hkl : k < W.length := by omega
    go_wp2_with fail
    refine (around_any p2 6 _ b1 b2 (by omega) (by omega)).mono ?_
    rintro e w' ⟨rfl, rfl⟩
    have hh := around_lt p2 6 (by omega)
    generalize around p2 6 = hv at *
    have hr := HW.out.2 _ (List.getElem_mem hkl)
    obtain ⟨g0, ak, ck, T1, e1, hBg, hbg, hcg, hfg, hokk, hmk, hmax2, hRg, hT, hback⟩ := kind_b rfl hz1 HX.out hkl
    subst e1
    have hrl := hr.1
    have HR := hid hr.2
    have HRg := hid hRg
    have HT := hid hT
    have HB := hid hback
    have HL := hid (rfl : W[k].length = W[k].length)
    clear hr hRg hT hback
    generalize hrows : W[k] = rows at *
    have HSet : Hid (∀ R : List (List Int), R.length ≤ 100000 → (∀ r ∈ R, r.length ≤ 100000) → Small (W.set k R)) := hid (fun R h1 h2 => HW.out.set ⟨h1, h2⟩)
    have hcase : hv = 0 ∨ hv = 1 ∨ hv = 2 ∨ hv = 3 ∨ hv = 4 ∨ hv = 5 := by omega
    rcases hcase with rfl | rfl | rfl | rfl | rfl | rfl
    · have hz := around_lt p3 12 (by omega)
      obtain ⟨z, hzz⟩ := Int.eq_ofNat_of_zero_le hz.1
      have HZ := hid hzz
      have hz12 : z < 12 := by omega
      clear hzz hz
      have hmk := fun W => run_mkZero (P := Try.prog) (t := 22) (e := 3) (b := 8) (by kernel_rfl) (by kernel_rfl) (by omega) z (by omega) W
      have hk0 : (0 : Int) ≤ k := by omega
      have hk1 : (k : Int) < W.length := by omega
      go_wp2
      refine wp_region_held 11 [(true, 0), (true, 1), (true, 2), (true, 3), (true, 4), (true, 5), (true, 6), (false, 7), (false, 8), (false, 9), (false, 10)]
        (fun W => W.cell? ⟨g0, k, none⟩ = some (.slice ak rows.length ck)) (by kernel_rfl) (by kernel_rfl) hcg ?_
      intro hne
      refine wpSteps_pre 7 (by decide) ?_
      simp only [List.take_succ_cons, List.take_zero]
      have hx0 : ∀ x : Held (fun W => W.cell? ⟨g0, k, none⟩ = some (.slice ak rows.length ck)), x.1.cell? ⟨g0, k, none⟩ = some (.slice ak rows.length ck) := fun x => x.2
      repeat (go_big_quiet_step (fail))
      refine wpQuiet_nil ?_
      refine wpSteps_one rfl ?_
      clear hx0 hne
      go_wp2_with fail
      refine (around_any p3 12 _ c1 c2 (by omega) (by omega)).mono ?_
      rintro e w' ⟨rfl, rfl⟩
      rw [HZ.out]
      go_wp2
      refine qn_mk ⟨InHeld.of hcg, ?_⟩
      refine wpSteps_one rfl ?_
      go_wp2
      have hI : IntsF (fun b => w1.heap.size ≤ b) ((w1.drewN 1).alloc (.cells (zeroCells z) 3)) (.slice (some ⟨w1.heap.size, 0, none⟩) z z) (List.replicate z 0) := made_zero (w1.drewN 1) z (by omega)
      have hb2 : Below w1.heap.size w1 ((w1.drewN 1).alloc (.cells (zeroCells z) 3)) := (below_drewN (Below.refl _ _) 1).alloc (Nat.le_refl _) _
      have hc2 : ((w1.drewN 1).alloc (.cells (zeroCells z) 3)).cell? ⟨g0, k, none⟩ = some (.slice ak rows.length ck) := cell_later hb2 hcg
      generalize hW2 : World.alloc _ _ = w2 at *
      clear hW2 hmk
      refine qn_mk ⟨InHeld.of hc2, ?_⟩
      refine wpSteps_one rfl ?_
      go_wp2
      have hc3 : (w2.alloc (.cells #[.slice (some ⟨w1.heap.size, 0, none⟩) z z] 22)).cell? ⟨g0, k, none⟩ = some (.slice ak rows.length ck) := cell_later ((Below.refl _ _).alloc (Nat.le_refl _) _) hc2
      refine qn_mk ⟨InHeld.of hc3, ?_⟩
      clear hc3
      refine wpSteps_one rfl ?_
      go_wp2_with (at_builtin; go_must (refine wpList_appF1 steady_intsF rfl _ _ rfl Try.app63 rfl HRg.out hb2 rfl (List.replicate z 0) hI rfl (by omega) ?_))
      intro v' w4 hR4 ht4
      obtain ⟨av', lv', cv', rfl⟩ : ∃ a l c, v' = .slice a l c := by obtain ⟨a, c, e, _⟩ := (RowsF.sl hR4).form; exact ⟨_, _, _, e⟩
      have htT : Turns T1 w1 w4 := (Turns.of_below hb2).trans (ht4.mono fun b _ hb => HRg.out.1 b hb.symm)
      obtain ⟨k1, k2, k3, k4⟩ := HB.out w4 _ (rows ++ [List.replicate z 0]) htT hR4
      have K3 := hid (WorldV.mono (S' := AnyB) (WorldF.sl k3) (fun _ _ _ => trivial))
      have K4 := hid (hb1.trans (k4.mono (Nat.le_refl _)))
      have K5 := hid (HSet.out (rows ++ [List.replicate z 0]) (by simp; omega) (fun r hr => by
        rcases List.mem_append.1 hr with hr | hr
        · have := HR.out r hr; omega
        · rw [List.mem_singleton.1 hr]; simp; omega))
      clear k3 k4 HB HRg hR4 ht4 hc2 hI htT
      go_wp2
      refine qn_mk ⟨InHeld.of k1, ?_⟩
      refine wpSteps_done ?_
      clear hcg hfg
      go_wp2
      go_ret
      exact ⟨_, rfl, _, K5.out, K3.out, K4.out⟩
    · go_wp2_with (at_builtin; go_must (refine wpList_appF steady_rowsF rfl _ _ rfl Try.app25 rfl HX.out ((Below.refl _ _).alloc (Nat.le_refl _) _) rfl (fun _ => ⟨_, _, rfl⟩) [.slice none 0 0, .slice none 0 0, .slice none 0 0, .slice none 0 0] rfl (news_alloc w1 #[.slice none 0 0, .slice none 0 0, .slice none 0 0, .slice none 0 0] 63) (by simp [Value.oneCell']) [[], [], [], []] rfl (fun _ => 0) (fun i h1 h2 => by
        have h3 : i = 0 ∨ i = 1 ∨ i = 2 ∨ i = 3 := by simp at h1; omega
        rcases h3 with rfl | rfl | rfl | rfl <;> exact OwnF.nil _ _ _ _) (by omega) ?_))
      intro v' w4 hR4 ht4
      obtain ⟨av', lv', cv', rfl⟩ : ∃ a l c, v' = .slice a l c := by obtain ⟨a, c, e, _⟩ := (WorldF.sl hR4).form; exact ⟨_, _, _, e⟩
      have K3 := hid (WorldV.mono (S' := AnyB) (WorldF.sl hR4) (fun _ _ _ => trivial))
      have K4 : Hid (Below w.heap.size w w4) := hid ((hb1.alloc hz1 _).trans (ht4.below (by simp; omega) (fun b hb => by simp [Value.ownBlock] at hb; omega)))
      have K5 : Hid (Small (W ++ [[], [], [], []])) := hid ⟨by simp; omega, fun rows hr => by
        rcases List.mem_append.1 hr with hr | hr
        · exact HW.out.small.2 rows hr
        · simp at hr; subst hr; simp⟩
      clear hR4 ht4 HB HRg
      go_wp2
      go_ret
      exact ⟨_, rfl, _, K5.out, K3.out, K4.out⟩
    · have hx := WorldV.mono (S' := AnyB) (WorldF.sl (OwnF.take HX.out hkl)) (fun _ _ _ => trivial)
      have K3 := hid hx
      have K5 : Hid (Small (W.take k)) := hid ⟨by rw [List.length_take]; omega, fun rows hr => HW.out.small.2 rows (List.mem_of_mem_take hr)⟩
      have hk0 : (0 : Int) ≤ k := by omega
      have hk1 : (k : Int) < W.length := by omega
      clear hx HB HRg
      go_wp2
      go_ret
      exact ⟨_, rfl, _, K5.out, K3.out, hb1⟩
    · have hz := around_lt p3 5 (by omega)
      obtain ⟨z, hzz⟩ := Int.eq_ofNat_of_zero_le hz.1
      have HZ := hid hzz
      have hz12 : z < 5 := by omega
      clear hzz hz
      have hk0 : (0 : Int) ≤ k := by omega
      have hk1 : (k : Int) < W.length := by omega
      have HX0 : Hid (WorldF (w.heap.size ≤ ·) w1 (.slice (some ⟨g0, 0, none⟩) W.length cg) (W.set k (rows ++ List.replicate 0 [1]))) := hid (by
        have e : W.set k (rows ++ List.replicate 0 [1]) = W := by rw [List.replicate_zero, List.append_nil, ← hrows]; exact List.set_getElem_self _
        rw [e]; exact HX.out)
      clear hcg hfg HB HRg hrows
      go_wp2
      go_loopw [11] (fun i wr => ∃ q : Nat, q ≤ 514 ∧ i = .int .i64 q ∧ Hid (WorldF (w.heap.size ≤ ·) wr (.slice (some ⟨g0, 0, none⟩) W.length cg) (W.set k (rows ++ List.replicate q [1]))) ∧ Below w.heap.size w wr) (fun i _ => 514 - (intOf i).toNat)
      case atStart => exact ⟨0, by omega, rfl, HX0, hb1⟩
      case round =>
        obtain ⟨q, hq, rfl, HX1, hb⟩ := hrel
        go_wp2_with fail
        refine (around_any p3 5 _ c1 c2 (by omega) (by omega)).mono ?_
        rintro e w' ⟨rfl, rfl⟩
        rw [HZ.out]
        by_cases hlt : q < 509 + z
        · have hkX : k < (W.set k (rows ++ List.replicate q [1])).length := by simpa using hkl
          obtain ⟨g, ak', ck', T2, e1, hBg', hbg', hcg', hfg', hokk', hmk', hmax', hRg', hT', hback'⟩ := kind_b (by simp) hb.size HX1.out hkX
          have hgg : g0 = g := by cases e1; rfl
          subst hgg
          rw [List.getElem_set_self] at hRg'
          simp only [List.getElem_set_self] at hcg' hokk' hmk' hback'
          have hlq : (rows ++ List.replicate q [1]).length ≤ 2000 := by simp; omega
          have HRg' := hid hRg'
          have HT' := hid hT'
          have HB' := hid (fun w2 u' => hback' w2 u' (rows ++ List.replicate (q + 1) [1]))
          have HSS : Hid ((rows ++ List.replicate q [1]) ++ [[1]] = rows ++ List.replicate (q + 1) [1]) := hid (by rw [List.append_assoc, ← List.replicate_succ'])
          rw [List.set_set] at HB'
          clear hRg' hT' hback' hokk' hmk'
          generalize rows ++ List.replicate q [1] = R1 at *
          have hI := intsF_blk (S := fun b => wr.heap.size ≤ b) (w := wr.alloc (.cells #[.int .i64 1] 3)) (b := wr.heap.size) [1] (heap_new _ _ rfl) (by simp) (Nat.le_refl _)
          have hb2 : Below wr.heap.size wr (wr.alloc (.cells #[.int .i64 1] 3)) := (Below.refl _ _).alloc (Nat.le_refl _) _
          go_wp2_with (at_builtin; go_must (refine wpList_appF1 steady_intsF rfl _ _ rfl Try.app63 rfl HRg'.out hb2 (by exact congrArg (fun b => Value.slice (some ⟨b, 0, none⟩) 1 1) (show wr.heap.size + 1 = (wr.alloc (.cells #[.int .i64 1] 3)).heap.size by simp)) [1] hI rfl (by omega) ?_))
          intro v' w4 hR4 ht4
          obtain ⟨av', lv', cv', rfl⟩ : ∃ a l c, v' = .slice a l c := by obtain ⟨a, c, e, _⟩ := (RowsF.sl hR4).form; exact ⟨_, _, _, e⟩
          have htT : Turns T2 wr w4 := (Turns.of_below hb2).trans (ht4.mono fun b _ hb => HRg'.out.1 b hb.symm)
          rw [HSS.out] at hR4
          obtain ⟨k1, k2, k3, k4⟩ := HB'.out w4 _ htT hR4
          have K3 := hid k3
          have K4 : Hid (Below w.heap.size w (w4.setCell ⟨g0, k, none⟩ (.slice av' lv' cv'))) := hid (hb.trans (k4.mono (Nat.le_refl _)))
          clear k3 k4 HB' HRg' hR4 ht4 hI htT hcg' hfg'
          go_wp2
          go_roundw
          case rel => exact ⟨q + 1, by omega, by go_num, K3, K4.out⟩
          case measure => simp [intOf]; omega
        · have K3 := hid (WorldV.mono (S' := AnyB) (WorldF.sl HX1.out) (fun _ _ _ => trivial))
          have K5 : Hid (Small (W.set k (rows ++ List.replicate q [1]))) := hid (HSet.out _ (by simp; omega) (fun r hr => by
            rcases List.mem_append.1 hr with hr | hr
            · have := HR.out r hr; omega
            · rw [(List.mem_replicate.1 hr).2]; simp))
          go_wp2
          go_ret
          exact ⟨_, rfl, _, K5.out, K3.out, hb⟩
    · have hr1 := rowsF_one (S := Grow T1 w1.heap.size) (w := (w1.alloc (.cells #[] 3)).alloc (.cells #[.slice (some ⟨w1.heap.size, 0, none⟩) 0 0] 22)) (b := w1.heap.size) (c := w1.heap.size + 1) [] (heap_step _ (heap_new _ _ rfl)) (by simp) (heap_new _ _ (by simp)) (.inr (Nat.le_refl _)) (.inr (by omega)) (by omega)
      obtain ⟨k1, k2, k3, k4⟩ := HB.out _ _ _ (Turns.of_below (((Below.refl _ _).alloc (Nat.le_refl _) _).alloc (by simp) _)) hr1
      rw [World.setCell_alloc_past _ _ _ _ (by simp; omega), World.setCell_alloc_past _ _ _ _ hbg] at k3 k4
      have K3 := hid (WorldV.mono (S' := AnyB) (WorldF.sl k3) (fun _ _ _ => trivial))
      have K4 := hid (hb1.trans (k4.mono (Nat.le_refl _)))
      have K5 := hid (HSet.out [[]] (by simp) (by simp))
      clear k3 k4 HB HRg hr1
      go_wp2
      go_ret
      exact ⟨_, rfl, _, K5.out, by simpa using K3.out, K4.out⟩
    · obtain ⟨k1, k2, k3, k4⟩ := HB.out w1 (.slice none 0 0) [] (Turns.refl _ _) (OwnF.nil _ _ _ _)
      have K3 := hid (WorldV.mono (S' := AnyB) (WorldF.sl k3) (fun _ _ _ => trivial))
      have K4 := hid (hb1.trans (k4.mono (Nat.le_refl _)))
      have K5 := hid (HSet.out [] (by simp) (by simp))
      clear k3 k4 HB HRg
      go_wp2
      go_ret
      exact ⟨_, rfl, _, K5.out, by simpa using K3.out, K4.out⟩

end Go.Proofs.Ytagnjhhbbjbhcaa

namespace Go.Proofs.Ytagnjhhbbjbhcaa
open Go.RowKit

theorem wf_bounds {n : Int} (h : (Lit.int .i64 n).wf = true) : -9223372036854775808 ≤ n ∧ n ≤ 9223372036854775807 := by
  simp [Lit.wf, IntKind.min, IntKind.max, IntKind.signed, IntKind.bits] at h
  omega

/-- A slice of integers that came in, as the shell of a row's proof tells it. -/
theorem row_ints {w : World} {a : Option Addr} {len cap : Nat} {zs : List Int}
    (h : (a = none ∧ len = 0 ∧ cap = 0 ∧ zs = []) ∨ ∃ x, a = some x ∧ len ≤ cap ∧ cap ≤ maxLen ∧ zs.length = cap ∧ (∀ i, i < zs.length → w.cell? (x.add i) = some (.int .i64 (zs.getD i 0))) ∧ ∀ n ∈ zs, (Lit.int .i64 n).wf = true) :
    IntsV AnyB w (.slice a len cap) (zs.take len) ∧ Fit (zs.take len) := by
  rcases h with ⟨rfl, rfl, rfl, rfl⟩ | ⟨x, rfl, h1, h2, h3, h4, h5⟩
  · exact ⟨SlV.nil _ _ _, fun x hx => by simp at hx⟩
  · have hl : (zs.take len).length = len := by rw [List.length_take]; omega
    refine ⟨⟨some x, cap, by rw [hl], fun h0 => ?_, by omega, h2, fun _ => trivial, fun j hj => ?_⟩, fun n hn => ?_⟩
    · obtain ⟨b, o, e, _⟩ := ints_at h4 (by omega)
      exact ⟨b, o, by rw [e]⟩
    · obtain ⟨b, o, e, hc⟩ := ints_at h4 (by omega)
      subst e
      refine ⟨_, hc j (by omega), ?_⟩
      rw [List.getElem_take, getD_eq (by omega)]
    · exact wf_bounds (h5 n (List.mem_of_mem_take hn))

theorem ShapeW.tiny {s : List Int} {W : List (List (List Int))} (h : ShapeW s W) (hs : ShapeOk s) : Tiny W := by
  refine ⟨by have := h.1; have := hs.1; omega, fun rows hr => ?_⟩
  obtain ⟨k, hk, rfl⟩ := List.getElem_of_mem hr
  obtain ⟨h1, h2⟩ := h.2 k hk
  refine ⟨by omega, fun r hr => ?_⟩
  have h3 := (h2 r hr).1
  have h4 : s.getD k 0 ∈ s := by rw [getD_eq (by have := h.1; omega)]; exact List.getElem_mem _
  have := hs.2 _ h4
  omega

theorem flatMap_len {n b : Nat} {f : Nat → List Chg} (h : ∀ k, k < n → (f k).length ≤ b) : ((List.range n).flatMap f).length ≤ n * b := by
  induction n with
  | zero => simp
  | succ n ih =>
    have h1 := ih (fun k hk => h k (by omega))
    have h2 := h n (by omega)
    rw [List.range_succ, List.flatMap_append, List.length_append]
    simp only [List.flatMap_cons, List.flatMap_nil, List.append_nil]
    rw [Nat.add_mul]
    omega

theorem diffC_len (A B : List (List (List Int))) : (diffC A B).length ≤ 40000 := by
  unfold diffC
  split
  · rename_i h
    obtain ⟨h1, h2, h3, _⟩ := h
    have h4 := h1.2.1
    have h5 := flatMap_len (n := A.length) (b := 6144) (f := fun k : Nat => kindDiff (k : Int) (A.getD k []) (B.getD k [])) (fun k hk => by
      have ha := shaped_kind h1 (List.getElem_mem hk)
      have hb := shaped_kind h2 (List.getElem_mem (show k < B.length by omega))
      rw [getD_eq hk, getD_eq (show k < B.length by omega)]
      have h6 := bestM_len (kind := (k : Int)) (a := A[k]) (b := B[k]) (fun r hr => (ha.2 r hr).1) (min A[k].length B[k].length) (by omega)
      unfold kindDiff
      omega)
    unfold diffL
    omega
  · simp

theorem lit6 (w : World) (t : TypeId) {va vb vc vd ve vf : Value} {A B C D E F : List (List (List Int))} (hA : WorldV AnyB w va A) (hB : WorldV AnyB w vb B) (hC : WorldV AnyB w vc C) (hD : WorldV AnyB w vd D) (hE : WorldV AnyB w ve E) (hF : WorldV AnyB w vf F) :
    SlV (WorldV AnyB) AnyB (w.alloc (.cells #[va, vb, vc, vd, ve, vf] t)) (.slice (some ⟨w.heap.size, 0, none⟩) 6 6) [A, B, C, D, E, F] := by
  have hb : Below w.heap.size w (w.alloc (.cells #[va, vb, vc, vd, ve, vf] t)) := (Below.refl _ _).alloc (Nat.le_refl _) _
  refine sl_blk [va, vb, vc, vd, ve, vf] [A, B, C, D, E, F] (heap_new _ _ rfl) rfl (by simp) (fun j g1 g2 => ?_)
  match j, g1 with
  | 0, _ => exact hA.keep (KeepS.below hb)
  | 1, _ => exact hB.keep (KeepS.below hb)
  | 2, _ => exact hC.keep (KeepS.below hb)
  | 3, _ => exact hD.keep (KeepS.below hb)
  | 4, _ => exact hE.keep (KeepS.below hb)
  | 5, _ => exact hF.keep (KeepS.below hb)

set_option maxRecDepth 100000 in
set_option maxHeartbeats 8000000 in
theorem finds_any (l m k : List Int) (hl : Fit l) (hm : Fit m) (hk : Fit k) (al am ak : Option Addr) (nl nm nk cl cm ck : Nat) (w : World) (vl : IntsV AnyB w (.slice al nl cl) l) (vm : IntsV AnyB w (.slice am nm cm) m) (vk : IntsV AnyB w (.slice ak nk ck) k)
    (p1 p2 p3 : Int) (h1 : -9223372036854775808 ≤ p1 ∧ p1 ≤ 9223372036854775807) (h2 : -9223372036854775808 ≤ p2 ∧ p2 ≤ 9223372036854775807) (h3 : -9223372036854775808 ≤ p3 ∧ p3 ≤ 9223372036854775807) :
    Calls Try.prog 3 #[.slice al nl cl, .slice am nm cm, .slice ak nk ck, .int .i64 p1, .int .i64 p2, .int .i64 p3] w fun e w' => e = .returned (.bool true) ∧ Below w.heap.size w w' := by
  have sl := shapeL_ok l
  have sm := shapeL_ok m
  have A0 := worldL_shape (shapeL l) l sl
  go_enter Try.func3, Try.ntmps3
  go_wp2_with fail
  refine (shape_any l hl _ _ w vl).mono ?_
  rintro e w1 ⟨s, rfl, hs, b1⟩
  have hs' := IntsV.mono (S' := AnyB) hs (fun _ _ _ => trivial)
  obtain ⟨as_, cs_, rfl, -, -, -⟩ := hs'.form
  have vl1 : IntsV AnyB w1 _ l := vl.keep (KeepS.below b1)
  go_wp2_with fail
  refine (world_any (shapeL l) sl l hl _ _ _ _ w1 hs' vl1).mono ?_
  rintro e w2 ⟨va, rfl, ha, b2⟩
  have hA2 := WorldV.mono (S' := AnyB) ha (fun _ _ _ => trivial)
  have b02 : Below w.heap.size w w2 := b1.trans (b2.mono b1.size)
  have hs2 := IntsV.keep hs' (KeepS.below b2)
  have vm2 : IntsV AnyB w2 _ m := vm.keep (KeepS.below b02)
  have vk2 : IntsV AnyB w2 _ k := vk.keep (KeepS.below b02)
  clear vl vl1 vm vk hs hs' ha b1 b2
  go_wp2_with fail
  refine (world_any (shapeL l) sl m hm _ _ _ _ w2 hs2 vm2).mono ?_
  rintro e w3 ⟨vb, rfl, hb, b3⟩
  have hB3 := WorldV.mono (S' := AnyB) hb (fun _ _ _ => trivial)
  have hA3 := WorldV.keep hA2 (KeepS.below b3)
  have hs3 := IntsV.keep hs2 (KeepS.below b3)
  have vm3 := IntsV.keep vm2 (KeepS.below b3)
  have vk3 := IntsV.keep vk2 (KeepS.below b3)
  have b03 : Below w.heap.size w w3 := b02.trans (b3.mono b02.size)
  clear hA2 hs2 vm2 vk2 hb b3 b02
  go_wp2_with fail
  refine (near_any _ (shapeL l) k A0 sl (shapeL_pos l) hk _ _ _ _ _ _ w3 hA3 hs3 vk3).mono ?_
  rintro e w4 ⟨vc, C, rfl, hc, C0, b4⟩
  have hC4 := WorldV.mono (S' := AnyB) (WorldF.sl hc) (fun _ _ _ => trivial)
  have hA4 := WorldV.keep hA3 (KeepS.below b4)
  have hB4 := WorldV.keep hB3 (KeepS.below b4)
  have vm4 := IntsV.keep vm3 (KeepS.below b4)
  have b04 : Below w.heap.size w w4 := b03.trans (b4.mono b03.size)
  clear hA3 hB3 hs3 vm3 vk3 hc b4 b03
  go_wp2_with fail
  refine (shape_any m hm _ _ w4 vm4).mono ?_
  rintro e w5 ⟨s2, rfl, hs5, b5⟩
  have hs5' := IntsV.mono (S' := AnyB) hs5 (fun _ _ _ => trivial)
  obtain ⟨as2, cs2, rfl, -, -, -⟩ := hs5'.form
  have hC5 := WorldV.keep hC4 (KeepS.below b5)
  have hA5 := WorldV.keep hA4 (KeepS.below b5)
  have hB5 := WorldV.keep hB4 (KeepS.below b5)
  have vm5 := IntsV.keep vm4 (KeepS.below b5)
  have b05 : Below w.heap.size w w5 := b04.trans (b5.mono b04.size)
  clear hC4 hA4 hB4 vm4 hs5 b5 b04
  go_wp2_with fail
  refine (world_any (shapeL m) sm m hm _ _ _ _ w5 hs5' vm5).mono ?_
  rintro e w6 ⟨vd, rfl, hd, b6⟩
  have hD6 := WorldV.mono (S' := AnyB) hd (fun _ _ _ => trivial)
  have hC6 := WorldV.keep hC5 (KeepS.below b6)
  have hA6 := WorldV.keep hA5 (KeepS.below b6)
  have hB6 := WorldV.keep hB5 (KeepS.below b6)
  have b06 : Below w.heap.size w w6 := b05.trans (b6.mono b05.size)
  clear hC5 hA5 hB5 vm5 hd b6 b05 hs5'
  go_wp2_with fail
  refine (odd_any _ (A0.tiny sl) p1 p2 p3 h1.1 h1.2 h2.1 h2.2 h3.1 h3.2 _ _ w6 hA6).mono ?_
  rintro e w7 ⟨ve, rfl, E, E0, hE7, b7⟩
  have hD7 := WorldV.keep hD6 (KeepS.below b7)
  have hC7 := WorldV.keep hC6 (KeepS.below b7)
  have hA7 := WorldV.keep hA6 (KeepS.below b7)
  have hB7 := WorldV.keep hB6 (KeepS.below b7)
  have b07 : Below w.heap.size w w7 := b06.trans (b7.mono b06.size)
  clear hD6 hC6 hA6 hB6 b7 b06
  have HSm : Hid (∀ X ∈ [worldL (shapeL l) l, worldL (shapeL l) m, C, worldL (shapeL m) m, E, []], Small X) := hid (by
    intro X hX
    simp only [List.mem_cons, List.not_mem_nil, or_false] at hX
    rcases hX with rfl | rfl | rfl | rfl | rfl | rfl
    · exact (A0.tiny sl).small
    · exact ((worldL_shape (shapeL l) m sl).tiny sl).small
    · exact (C0.tiny sl).small
    · exact ((worldL_shape (shapeL m) m sm).tiny sm).small
    · exact E0
    · exact ⟨by simp, by simp⟩)
  obtain ⟨xa, ya, ea, -⟩ := hA7.form
  obtain ⟨xb, yb, eb, -⟩ := hB7.form
  obtain ⟨xc, yc, ec, -⟩ := hC7.form
  obtain ⟨xd, yd, ed, -⟩ := hD7.form
  obtain ⟨xe, ye, ee, -⟩ := hE7.form
  subst ea eb ec ed ee
  have HSl := lit6 w7 25 hA7 hB7 hC7 hD7 hE7 (SlV.nil _ _ _)
  have hWl : [worldL (shapeL l) l, worldL (shapeL l) m, C, worldL (shapeL m) m, E, []].length = 6 := rfl
  have HWl := hid hWl
  clear hWl hA7 hB7 hC7 hD7 hE7 C0 E0 A0 sl sm
  generalize [worldL (shapeL l) l, worldL (shapeL l) m, C, worldL (shapeL m) m, E, []] = Ws at *
  have b08 := b07.alloc b07.size (.cells #[.slice xa (worldL (shapeL l) l).length ya, .slice xb (worldL (shapeL l) m).length yb, .slice xc C.length yc, .slice xd (worldL (shapeL m) m).length yd, .slice xe E.length ye, .slice none 0 0] 25)
  have HSL := hid HSl
  clear HSl b07
  have hSm : ∀ j (h : j < Ws.length), Small Ws[j] := fun j h => HSm.out _ (List.getElem_mem h)
  have HSmall := hid hSm
  have hg7 : w7.heap.size < w7.heap.size + 1 := Nat.lt_succ_self _
  clear hSm HSm
  go_wp2
  go_loopw [16] (fun i wr => ∃ q : Nat, q ≤ 6 ∧ i = .int .i64 q ∧ Below w.heap.size w wr ∧ Hid (SlV (WorldV AnyB) AnyB wr (.slice (some ⟨w7.heap.size, 0, none⟩) 6 6) Ws)) (fun i _ => 6 - (intOf i).toNat)
  case atStart => exact ⟨0, by omega, rfl, b08, HSL⟩
  case round =>
    obtain ⟨q, hq, rfl, bq, HSq⟩ := hrel
    by_cases hlt : q < 6
    · have hq6 : (q : Int) < 6 := by omega
      obtain ⟨wo, rfl⟩ : ∃ wo : World, wo = wr := ⟨_, rfl⟩
      go_wp2
      go_loopw [17] (fun i wr => ∃ r : Nat, r ≤ 6 ∧ i = .int .i64 r ∧ Below w.heap.size w wr ∧ Hid (SlV (WorldV AnyB) AnyB wr (.slice (some ⟨w7.heap.size, 0, none⟩) 6 6) Ws)) (fun i _ => 6 - (intOf i).toNat)
      case atStart => exact ⟨0, by omega, rfl, bq, HSq⟩
      case round =>
        obtain ⟨r, hr, rfl, br, HSr⟩ := hrel
        by_cases hlr : r < 6
        · have hr6 : (r : Int) < 6 := by omega
          have hq0 : (0 : Int) ≤ q := by omega
          have hr0 : (0 : Int) ≤ r := by omega
          have hqW : q < Ws.length := by rw [HWl.out]; exact hlt
          have hrW : r < Ws.length := by rw [HWl.out]; exact hlr
          obtain ⟨u1, d1, hbk, hw1⟩ := HSr.out.at hqW
          obtain ⟨u2, d2, -, hw2⟩ := HSr.out.at hrW
          simp only [slb_some, slo_some, Nat.zero_add] at d1 d2 hbk
          have HX := hid (HSmall.out q hqW)
          have HY := hid (HSmall.out r hrW)
          generalize Ws[q] = X at *
          generalize Ws[r] = Y at *
          obtain ⟨x1, y1, e1, -⟩ := hw1.form
          obtain ⟨x2, y2, e2, -⟩ := hw2.form
          subst e1 e2
          have HW1 := hid hw1
          have HW2 := hid hw2
          clear hw1 hw2 hqW hrW
          have hdl := diffC_len X Y
          go_wp2
          have hg := Grew.cell (w := wr)
          refine wp_region_grewS 13 [(true, 0), (true, 1), (true, 2), (true, 3), (true, 4), (true, 5), (true, 6), (true, 7), (false, 8), (true, 9), (true, 10), (true, 11), (true, 12)] (by kernel_rfl) (by kernel_rfl) ?_
          refine wpSteps_pre 8 (by decide) ?_
          simp only [List.take_succ_cons, List.take_zero]
          repeat (go_big_quiet_step (fail))
          refine wpQuiet_nil ?_
          refine wpSteps_one rfl ?_
          clear hg
          go_wp2_with fail
          have ba : Below wr.heap.size wr (wr.drewN 1) := below_drewN (Below.refl _ _) 1
          refine (pdiff_any X Y HX.out HY.out _ _ AnyB AnyB _ (HW1.out.keep (KeepS.below ba)) (HW2.out.keep (KeepS.below ba))).mono ?_
          rintro e w9 ⟨z1, rfl, hz1, b9⟩
          have b9r : Below wr.heap.size wr w9 := ba.trans (b9.mono ba.size)
          go_wp2
          refine qn_mk ⟨InGrew.of b9r, ?_⟩
          refine wpSteps_quiet rfl ?_
          repeat (go_big_quiet_step (fail))
          refine wpQuiet_nil ?_
          refine wpSteps_quiet rfl ?_
          repeat (go_big_quiet_step (fail))
          refine wpQuiet_nil ?_
          refine wpSteps_quiet rfl ?_
          repeat (go_big_quiet_step (fail))
          refine wpQuiet_nil ?_
          refine wpSteps_quiet rfl ?_
          repeat (go_big_quiet_step (fail))
          refine wpQuiet_nil ?_
          refine wpSteps_done ?_
          go_wp2
          have d1' := cell_later b9r d1
          have d2' := cell_later b9r d2
          have hz9 := b9r.size
          have hbk' : w7.heap.size < w9.heap.size := by omega
          have hz1' := hid hz1
          have HW1' := hid (HW1.out.keep (KeepS.below b9r))
          have HW2' := hid (HW2.out.keep (KeepS.below b9r))
          have b9w : Below w.heap.size w w9 := br.trans (b9r.mono br.size)
          have HSr9 : Hid (SlV (WorldV AnyB) AnyB w9 (.slice (some ⟨w7.heap.size, 0, none⟩) 6 6) Ws) := hid (SlV.keep HSr.out (KeepS.below b9r) (fun _ _ h => WorldV.keep h (KeepS.below b9r)))
          clear hz1 d1 d2 hbk b9 b9r ba HW1 HW2 HSr br hz9
          have hg := Grew.cell (w := w9)
          refine wp_region_grewS 13 [(true, 0), (true, 1), (true, 2), (true, 3), (true, 4), (true, 5), (true, 6), (true, 7), (false, 8), (true, 9), (true, 10), (true, 11), (true, 12)] (by kernel_rfl) (by kernel_rfl) ?_
          refine wpSteps_pre 8 (by decide) ?_
          simp only [List.take_succ_cons, List.take_zero]
          repeat (go_big_quiet_step (fail))
          refine wpQuiet_nil ?_
          refine wpSteps_one rfl ?_
          clear hg
          go_wp2_with fail
          have ba : Below w9.heap.size w9 (w9.drewN 1) := below_drewN (Below.refl _ _) 1
          refine (rdiff_any X Y HX.out HY.out _ _ AnyB AnyB _ (HW1'.out.keep (KeepS.below ba)) (HW2'.out.keep (KeepS.below ba))).mono ?_
          rintro e w10 ⟨z2, rfl, hz2, b10⟩
          have b10r : Below w9.heap.size w9 w10 := ba.trans (b10.mono ba.size)
          go_wp2
          refine qn_mk ⟨InGrew.of b10r, ?_⟩
          refine wpSteps_quiet rfl ?_
          repeat (go_big_quiet_step (fail))
          refine wpQuiet_nil ?_
          refine wpSteps_quiet rfl ?_
          repeat (go_big_quiet_step (fail))
          refine wpQuiet_nil ?_
          refine wpSteps_quiet rfl ?_
          repeat (go_big_quiet_step (fail))
          refine wpQuiet_nil ?_
          refine wpSteps_quiet rfl ?_
          repeat (go_big_quiet_step (fail))
          refine wpQuiet_nil ?_
          refine wpSteps_done ?_
          have b10w : Below w.heap.size w w10 := b9w.trans (b10r.mono b9w.size)
          have HSr10 : Hid (SlV (WorldV AnyB) AnyB w10 (.slice (some ⟨w7.heap.size, 0, none⟩) 6 6) Ws) := hid (SlV.keep HSr9.out (KeepS.below b10r) (fun _ _ h => WorldV.keep h (KeepS.below b10r)))
          have hz1 : ChV AnyB w10 z1 (diffC X Y) := hz1'.out.keep (KeepS.below b10r)
          clear d1' d2' hbk' hz1' HW1' HW2' HSr9 b10 b10r ba b9w
          generalize diffE X Y = de at *
          generalize diffC X Y = dc at *
          have hde : (de != de) = false := bneF rfl
          have HZ1 := hid hz1
          have HZ2 := hid hz2
          clear hz1 hz2
          go_wp2_with fail
          refine (plain_any dc (by omega) z1 AnyB w10 HZ1.out).mono ?_
          rintro e w11 ⟨z3, rfl, hz3, b11⟩
          have HZ3 := hid hz3
          have HZ22 := hid (HZ2.out.keep (KeepS.below b11))
          clear hz3
          go_wp2_with fail
          refine (sameAll_any dc dc z3 z2 AnyB AnyB w11 HZ3.out HZ22.out).mono ?_
          rintro e w12 ⟨rfl, b12⟩
          rw [decide_eq_true (rfl : dc = dc)]
          have b1012 : Below w10.heap.size w10 w12 := b11.trans (b12.mono b11.size)
          have b12w : Below w.heap.size w w12 := b10w.trans (b1012.mono b10w.size)
          have HSr12 : Hid (SlV (WorldV AnyB) AnyB w12 (.slice (some ⟨w7.heap.size, 0, none⟩) 6 6) Ws) := hid (SlV.keep HSr10.out (KeepS.below b1012) (fun _ _ h => WorldV.keep h (KeepS.below b1012)))
          clear HZ1 HZ2 HZ3 HZ22 b11 b12 b1012 b10w HSr10
          go_wp2
          go_roundw
          case rel => exact ⟨r + 1, by omega, by go_num, b12w, HSr12⟩
          case measure => simp [intOf]; omega
        · have hr6 : ¬ (r : Int) < 6 := by omega
          go_wp2
          go_roundw
          case rel => exact ⟨q + 1, by omega, by go_num, br, HSr⟩
          case measure => simp [intOf]; omega
    · have hq6 : ¬ (q : Int) < 6 := by omega
      go_wp2_with fail
      refine (lives_any wr).mono ?_
      rintro e w9 ⟨rfl, b9⟩
      have b9w : Below w.heap.size w w9 := bq.trans (b9.mono bq.size)
      clear b9
      go_wp2
      go_ret
      exact ⟨rfl, b9w⟩

end Go.Proofs.Ytagnjhhbbjbhcaa
