/- DiffFinds: for all arguments it returns true. -/
import Derived.Test.YtagnjhhbbjbhcaaNear
import Derived.Test.YtagnjhhbbjbhcaaOdd2
import Derived.Test.YtagnjhhbbjbhcaaLives
import Derived.Test.YtagnjhhbbjbhcaaRDiff
import Derived.ProofKit
import Derived.OpenShut
namespace Go.Proofs.Ytagnjhhbbjbhcaa
open Go.RowKit

theorem wf_bounds {n : Int} (h : (Lit.int .i64 n).wf = true) : -9223372036854775808 ≤ n ∧ n ≤ 9223372036854775807 := by
  simp [Lit.wf, IntKind.min, IntKind.max, IntKind.signed, IntKind.bits] at h
  omega

/-- A slice of integers that came in, as the shell of a row's proof tells it. -/
theorem row_ints {w : World} {a : Option Addr} {len cap : Nat} {zs : List Int}
    (h : (a = none ∧ len = 0 ∧ cap = 0 ∧ zs = []) ∨ ∃ x, a = some x ∧ len ≤ cap ∧ cap ≤ maxLen ∧ zs.length = cap ∧ (∀ i, i < zs.length → w.cell? (x.add i) = some (.int .i64 (zs.getD i 0))) ∧ ∀ n ∈ zs, (Lit.int .i64 n).wf = true) :
    IntsV AnyB w (.slice a len cap) (zs.take len) ∧ Fit (zs.take len) := by
  rcases h with ⟨rfl, rfl, rfl, rfl⟩ | ⟨x, rfl, h1, h2, h3, h4, h5⟩
  · exact ⟨SlV.nil _ _ _, fun x hx => by simp at hx⟩
  · have hl : (zs.take len).length = len := by rw [List.length_take]; omega
    refine ⟨⟨some x, cap, by rw [hl], fun h0 => ?_, by omega, h2, fun _ => trivial, fun j hj => ?_⟩, fun n hn => ?_⟩
    · obtain ⟨b, o, e, _⟩ := ints_at h4 (by omega)
      exact ⟨b, o, by rw [e]⟩
    · obtain ⟨b, o, e, hc⟩ := ints_at h4 (by omega)
      subst e
      refine ⟨_, hc j (by omega), ?_⟩
      rw [List.getElem_take, getD_eq (by omega)]
    · exact wf_bounds (h5 n (List.mem_of_mem_take hn))

theorem ShapeW.tiny {s : List Int} {W : List (List (List Int))} (h : ShapeW s W) (hs : ShapeOk s) : Tiny W := by
  refine ⟨by have := h.1; have := hs.1; omega, fun rows hr => ?_⟩
  obtain ⟨k, hk, rfl⟩ := List.getElem_of_mem hr
  obtain ⟨h1, h2⟩ := h.2 k hk
  refine ⟨by omega, fun r hr => ?_⟩
  have h3 := (h2 r hr).1
  have h4 : s.getD k 0 ∈ s := by rw [getD_eq (by have := h.1; omega)]; exact List.getElem_mem _
  have := hs.2 _ h4
  omega

theorem flatMap_len {n b : Nat} {f : Nat → List Chg} (h : ∀ k, k < n → (f k).length ≤ b) : ((List.range n).flatMap f).length ≤ n * b := by
  induction n with
  | zero => simp
  | succ n ih =>
    have h1 := ih (fun k hk => h k (by omega))
    have h2 := h n (by omega)
    rw [List.range_succ, List.flatMap_append, List.length_append]
    simp only [List.flatMap_cons, List.flatMap_nil, List.append_nil]
    rw [Nat.add_mul]
    omega

theorem diffC_len (A B : List (List (List Int))) : (diffC A B).length ≤ 40000 := by
  unfold diffC
  split
  · rename_i h
    obtain ⟨h1, h2, h3, _⟩ := h
    have h4 := h1.2.1
    have h5 := flatMap_len (n := A.length) (b := 6144) (f := fun k : Nat => kindDiff (k : Int) (A.getD k []) (B.getD k [])) (fun k hk => by
      have ha := shaped_kind h1 (List.getElem_mem hk)
      have hb := shaped_kind h2 (List.getElem_mem (show k < B.length by omega))
      rw [getD_eq hk, getD_eq (show k < B.length by omega)]
      have h6 := bestM_len (kind := (k : Int)) (a := A[k]) (b := B[k]) (fun r hr => (ha.2 r hr).1) (min A[k].length B[k].length) (by omega)
      unfold kindDiff
      omega)
    unfold diffL
    omega
  · simp

theorem lit6 (w : World) (t : TypeId) {va vb vc vd ve vf : Value} {A B C D E F : List (List (List Int))} (hA : WorldV AnyB w va A) (hB : WorldV AnyB w vb B) (hC : WorldV AnyB w vc C) (hD : WorldV AnyB w vd D) (hE : WorldV AnyB w ve E) (hF : WorldV AnyB w vf F) :
    SlV (WorldV AnyB) AnyB (w.alloc (.cells #[va, vb, vc, vd, ve, vf] t)) (.slice (some ⟨w.heap.size, 0, none⟩) 6 6) [A, B, C, D, E, F] := by
  have hb : Below w.heap.size w (w.alloc (.cells #[va, vb, vc, vd, ve, vf] t)) := (Below.refl _ _).alloc (Nat.le_refl _) _
  refine sl_blk [va, vb, vc, vd, ve, vf] [A, B, C, D, E, F] (heap_new _ _ rfl) rfl (by simp) (fun j g1 g2 => ?_)
  match j, g1 with
  | 0, _ => exact hA.keep (KeepS.below hb)
  | 1, _ => exact hB.keep (KeepS.below hb)
  | 2, _ => exact hC.keep (KeepS.below hb)
  | 3, _ => exact hD.keep (KeepS.below hb)
  | 4, _ => exact hE.keep (KeepS.below hb)
  | 5, _ => exact hF.keep (KeepS.below hb)

set_option maxRecDepth 100000 in
set_option maxHeartbeats 8000000 in
theorem finds_any (l m k : List Int) (hl : Fit l) (hm : Fit m) (hk : Fit k) (al am ak : Option Addr) (nl nm nk cl cm ck : Nat) (w : World) (vl : IntsV AnyB w (.slice al nl cl) l) (vm : IntsV AnyB w (.slice am nm cm) m) (vk : IntsV AnyB w (.slice ak nk ck) k)
    (p1 p2 p3 : Int) (h1 : -9223372036854775808 ≤ p1 ∧ p1 ≤ 9223372036854775807) (h2 : -9223372036854775808 ≤ p2 ∧ p2 ≤ 9223372036854775807) (h3 : -9223372036854775808 ≤ p3 ∧ p3 ≤ 9223372036854775807) :
    Calls Try.prog 3 #[.slice al nl cl, .slice am nm cm, .slice ak nk ck, .int .i64 p1, .int .i64 p2, .int .i64 p3] w fun e w' => e = .returned (.bool true) ∧ Below w.heap.size w w' := by
  have sl := shapeL_ok l
  have sm := shapeL_ok m
  have A0 := worldL_shape (shapeL l) l sl
  go_enter Try.func3, Try.ntmps3
  go_wp2_with fail
  refine (shape_any l hl _ _ w vl).mono ?_
  rintro e w1 ⟨s, rfl, hs, b1⟩
  have hs' := IntsV.mono (S' := AnyB) hs (fun _ _ _ => trivial)
  obtain ⟨as_, cs_, rfl, -, -, -⟩ := hs'.form
  have vl1 : IntsV AnyB w1 _ l := vl.keep (KeepS.below b1)
  go_wp2_with fail
  refine (world_any (shapeL l) sl l hl _ _ _ _ w1 hs' vl1).mono ?_
  rintro e w2 ⟨va, rfl, ha, b2⟩
  have hA2 := WorldV.mono (S' := AnyB) ha (fun _ _ _ => trivial)
  have b02 : Below w.heap.size w w2 := b1.trans (b2.mono b1.size)
  have hs2 := IntsV.keep hs' (KeepS.below b2)
  have vm2 : IntsV AnyB w2 _ m := vm.keep (KeepS.below b02)
  have vk2 : IntsV AnyB w2 _ k := vk.keep (KeepS.below b02)
  clear vl vl1 vm vk hs hs' ha b1 b2
  go_wp2_with fail
  refine (world_any (shapeL l) sl m hm _ _ _ _ w2 hs2 vm2).mono ?_
  rintro e w3 ⟨vb, rfl, hb, b3⟩
  have hB3 := WorldV.mono (S' := AnyB) hb (fun _ _ _ => trivial)
  have hA3 := WorldV.keep hA2 (KeepS.below b3)
  have hs3 := IntsV.keep hs2 (KeepS.below b3)
  have vm3 := IntsV.keep vm2 (KeepS.below b3)
  have vk3 := IntsV.keep vk2 (KeepS.below b3)
  have b03 : Below w.heap.size w w3 := b02.trans (b3.mono b02.size)
  clear hA2 hs2 vm2 vk2 hb b3 b02
  go_wp2_with fail
  refine (near_any _ (shapeL l) k A0 sl (shapeL_pos l) hk _ _ _ _ _ _ w3 hA3 hs3 vk3).mono ?_
  rintro e w4 ⟨vc, C, rfl, hc, C0, b4⟩
  have hC4 := WorldV.mono (S' := AnyB) (WorldF.sl hc) (fun _ _ _ => trivial)
  have hA4 := WorldV.keep hA3 (KeepS.below b4)
  have hB4 := WorldV.keep hB3 (KeepS.below b4)
  have vm4 := IntsV.keep vm3 (KeepS.below b4)
  have b04 : Below w.heap.size w w4 := b03.trans (b4.mono b03.size)
  clear hA3 hB3 hs3 vm3 vk3 hc b4 b03
  go_wp2_with fail
  refine (shape_any m hm _ _ w4 vm4).mono ?_
  rintro e w5 ⟨s2, rfl, hs5, b5⟩
  have hs5' := IntsV.mono (S' := AnyB) hs5 (fun _ _ _ => trivial)
  obtain ⟨as2, cs2, rfl, -, -, -⟩ := hs5'.form
  have hC5 := WorldV.keep hC4 (KeepS.below b5)
  have hA5 := WorldV.keep hA4 (KeepS.below b5)
  have hB5 := WorldV.keep hB4 (KeepS.below b5)
  have vm5 := IntsV.keep vm4 (KeepS.below b5)
  have b05 : Below w.heap.size w w5 := b04.trans (b5.mono b04.size)
  clear hC4 hA4 hB4 vm4 hs5 b5 b04
  go_wp2_with fail
  refine (world_any (shapeL m) sm m hm _ _ _ _ w5 hs5' vm5).mono ?_
  rintro e w6 ⟨vd, rfl, hd, b6⟩
  have hD6 := WorldV.mono (S' := AnyB) hd (fun _ _ _ => trivial)
  have hC6 := WorldV.keep hC5 (KeepS.below b6)
  have hA6 := WorldV.keep hA5 (KeepS.below b6)
  have hB6 := WorldV.keep hB5 (KeepS.below b6)
  have b06 : Below w.heap.size w w6 := b05.trans (b6.mono b05.size)
  clear hC5 hA5 hB5 vm5 hd b6 b05 hs5'
  go_wp2_with fail
  refine (odd_any _ (A0.tiny sl) p1 p2 p3 h1.1 h1.2 h2.1 h2.2 h3.1 h3.2 _ _ w6 hA6).mono ?_
  rintro e w7 ⟨ve, rfl, E, E0, hE7, b7⟩
  have hD7 := WorldV.keep hD6 (KeepS.below b7)
  have hC7 := WorldV.keep hC6 (KeepS.below b7)
  have hA7 := WorldV.keep hA6 (KeepS.below b7)
  have hB7 := WorldV.keep hB6 (KeepS.below b7)
  have b07 : Below w.heap.size w w7 := b06.trans (b7.mono b06.size)
  clear hD6 hC6 hA6 hB6 b7 b06
  have HSm : Hid (∀ X ∈ [worldL (shapeL l) l, worldL (shapeL l) m, C, worldL (shapeL m) m, E, []], Small X) := hid (by
    intro X hX
    simp only [List.mem_cons, List.not_mem_nil, or_false] at hX
    rcases hX with rfl | rfl | rfl | rfl | rfl | rfl
    · exact (A0.tiny sl).small
    · exact ((worldL_shape (shapeL l) m sl).tiny sl).small
    · exact (C0.tiny sl).small
    · exact ((worldL_shape (shapeL m) m sm).tiny sm).small
    · exact E0
    · exact ⟨by simp, by simp⟩)
  obtain ⟨xa, ya, ea, -⟩ := hA7.form
  obtain ⟨xb, yb, eb, -⟩ := hB7.form
  obtain ⟨xc, yc, ec, -⟩ := hC7.form
  obtain ⟨xd, yd, ed, -⟩ := hD7.form
  obtain ⟨xe, ye, ee, -⟩ := hE7.form
  subst ea eb ec ed ee
  have HSl := lit6 w7 25 hA7 hB7 hC7 hD7 hE7 (SlV.nil _ _ _)
  have hWl : [worldL (shapeL l) l, worldL (shapeL l) m, C, worldL (shapeL m) m, E, []].length = 6 := rfl
  have HWl := hid hWl
  clear hWl hA7 hB7 hC7 hD7 hE7 C0 E0 A0 sl sm
  generalize [worldL (shapeL l) l, worldL (shapeL l) m, C, worldL (shapeL m) m, E, []] = Ws at *
  have b08 := b07.alloc b07.size (.cells #[.slice xa (worldL (shapeL l) l).length ya, .slice xb (worldL (shapeL l) m).length yb, .slice xc C.length yc, .slice xd (worldL (shapeL m) m).length yd, .slice xe E.length ye, .slice none 0 0] 25)
  have HSL := hid HSl
  clear HSl b07
  have hSm : ∀ j (h : j < Ws.length), Small Ws[j] := fun j h => HSm.out _ (List.getElem_mem h)
  have HSmall := hid hSm
  have hg7 : w7.heap.size < w7.heap.size + 1 := Nat.lt_succ_self _
  clear hSm HSm
  go_wp2
  go_loopw [16] (fun i wr => ∃ q : Nat, q ≤ 6 ∧ i = .int .i64 q ∧ Below w.heap.size w wr ∧ Hid (SlV (WorldV AnyB) AnyB wr (.slice (some ⟨w7.heap.size, 0, none⟩) 6 6) Ws)) (fun i _ => 6 - (intOf i).toNat)
  case atStart => exact ⟨0, by omega, rfl, b08, HSL⟩
  case round =>
    obtain ⟨q, hq, rfl, bq, HSq⟩ := hrel
    by_cases hlt : q < 6
    · have hq6 : (q : Int) < 6 := by omega
      obtain ⟨wo, rfl⟩ : ∃ wo : World, wo = wr := ⟨_, rfl⟩
      go_wp2
      go_loopw [17] (fun i wr => ∃ r : Nat, r ≤ 6 ∧ i = .int .i64 r ∧ Below w.heap.size w wr ∧ Hid (SlV (WorldV AnyB) AnyB wr (.slice (some ⟨w7.heap.size, 0, none⟩) 6 6) Ws)) (fun i _ => 6 - (intOf i).toNat)
      case atStart => exact ⟨0, by omega, rfl, bq, HSq⟩
      case round =>
        obtain ⟨r, hr, rfl, br, HSr⟩ := hrel
        by_cases hlr : r < 6
        · have hr6 : (r : Int) < 6 := by omega
          have hq0 : (0 : Int) ≤ q := by omega
          have hr0 : (0 : Int) ≤ r := by omega
          have hqW : q < Ws.length := by rw [HWl.out]; exact hlt
          have hrW : r < Ws.length := by rw [HWl.out]; exact hlr
          obtain ⟨u1, d1, hbk, hw1⟩ := HSr.out.at hqW
          obtain ⟨u2, d2, -, hw2⟩ := HSr.out.at hrW
          simp only [slb_some, slo_some, Nat.zero_add] at d1 d2 hbk
          have HX := hid (HSmall.out q hqW)
          have HY := hid (HSmall.out r hrW)
          generalize Ws[q] = X at *
          generalize Ws[r] = Y at *
          obtain ⟨x1, y1, e1, -⟩ := hw1.form
          obtain ⟨x2, y2, e2, -⟩ := hw2.form
          subst e1 e2
          have HW1 := hid hw1
          have HW2 := hid hw2
          clear hw1 hw2 hqW hrW
          have hdl := diffC_len X Y
          go_wp2
          have hg := Grew.cell (w := wr)
          refine wp_region_grewS 13 [(true, 0), (true, 1), (true, 2), (true, 3), (true, 4), (true, 5), (true, 6), (true, 7), (false, 8), (true, 9), (true, 10), (true, 11), (true, 12)] (by kernel_rfl) (by kernel_rfl) ?_
          refine wpSteps_pre 8 (by decide) ?_
          simp only [List.take_succ_cons, List.take_zero]
          repeat (go_big_quiet_step (fail))
          refine wpQuiet_nil ?_
          refine wpSteps_one rfl ?_
          clear hg
          go_wp2_with fail
          have ba : Below wr.heap.size wr (wr.drewN 1) := below_drewN (Below.refl _ _) 1
          refine (pdiff_any X Y HX.out HY.out _ _ AnyB AnyB _ (HW1.out.keep (KeepS.below ba)) (HW2.out.keep (KeepS.below ba))).mono ?_
          rintro e w9 ⟨z1, rfl, hz1, b9⟩
          have b9r : Below wr.heap.size wr w9 := ba.trans (b9.mono ba.size)
          go_wp2
          refine qn_mk ⟨InGrew.of b9r, ?_⟩
          refine wpSteps_quiet rfl ?_
          repeat (go_big_quiet_step (fail))
          refine wpQuiet_nil ?_
          refine wpSteps_quiet rfl ?_
          repeat (go_big_quiet_step (fail))
          refine wpQuiet_nil ?_
          refine wpSteps_quiet rfl ?_
          repeat (go_big_quiet_step (fail))
          refine wpQuiet_nil ?_
          refine wpSteps_quiet rfl ?_
          repeat (go_big_quiet_step (fail))
          refine wpQuiet_nil ?_
          refine wpSteps_done ?_
          go_wp2
          have d1' := cell_later b9r d1
          have d2' := cell_later b9r d2
          have hz9 := b9r.size
          have hbk' : w7.heap.size < w9.heap.size := by omega
          have hz1' := hid hz1
          have HW1' := hid (HW1.out.keep (KeepS.below b9r))
          have HW2' := hid (HW2.out.keep (KeepS.below b9r))
          have b9w : Below w.heap.size w w9 := br.trans (b9r.mono br.size)
          have HSr9 : Hid (SlV (WorldV AnyB) AnyB w9 (.slice (some ⟨w7.heap.size, 0, none⟩) 6 6) Ws) := hid (SlV.keep HSr.out (KeepS.below b9r) (fun _ _ h => WorldV.keep h (KeepS.below b9r)))
          clear hz1 d1 d2 hbk b9 b9r ba HW1 HW2 HSr br hz9
          have hg := Grew.cell (w := w9)
          refine wp_region_grewS 13 [(true, 0), (true, 1), (true, 2), (true, 3), (true, 4), (true, 5), (true, 6), (true, 7), (false, 8), (true, 9), (true, 10), (true, 11), (true, 12)] (by kernel_rfl) (by kernel_rfl) ?_
          refine wpSteps_pre 8 (by decide) ?_
          simp only [List.take_succ_cons, List.take_zero]
          repeat (go_big_quiet_step (fail))
          refine wpQuiet_nil ?_
          refine wpSteps_one rfl ?_
          clear hg
          go_wp2_with fail
          have ba : Below w9.heap.size w9 (w9.drewN 1) := below_drewN (Below.refl _ _) 1
          refine (rdiff_any X Y HX.out HY.out _ _ AnyB AnyB _ (HW1'.out.keep (KeepS.below ba)) (HW2'.out.keep (KeepS.below ba))).mono ?_
          rintro e w10 ⟨z2, rfl, hz2, b10⟩
          have b10r : Below w9.heap.size w9 w10 := ba.trans (b10.mono ba.size)
          go_wp2
          refine qn_mk ⟨InGrew.of b10r, ?_⟩
          refine wpSteps_quiet rfl ?_
          repeat (go_big_quiet_step (fail))
          refine wpQuiet_nil ?_
          refine wpSteps_quiet rfl ?_
          repeat (go_big_quiet_step (fail))
          refine wpQuiet_nil ?_
          refine wpSteps_quiet rfl ?_
          repeat (go_big_quiet_step (fail))
          refine wpQuiet_nil ?_
          refine wpSteps_quiet rfl ?_
          repeat (go_big_quiet_step (fail))
          refine wpQuiet_nil ?_
          refine wpSteps_done ?_
          have b10w : Below w.heap.size w w10 := b9w.trans (b10r.mono b9w.size)
          have HSr10 : Hid (SlV (WorldV AnyB) AnyB w10 (.slice (some ⟨w7.heap.size, 0, none⟩) 6 6) Ws) := hid (SlV.keep HSr9.out (KeepS.below b10r) (fun _ _ h => WorldV.keep h (KeepS.below b10r)))
          have hz1 : ChV AnyB w10 z1 (diffC X Y) := hz1'.out.keep (KeepS.below b10r)
          clear d1' d2' hbk' hz1' HW1' HW2' HSr9 b10 b10r ba b9w
          generalize diffE X Y = de at *
          generalize diffC X Y = dc at *
          have hde : (de != de) = false := bneF rfl
          have HZ1 := hid hz1
          have HZ2 := hid hz2
          clear hz1 hz2
          go_wp2_with fail
          refine (plain_any dc (by omega) z1 AnyB w10 HZ1.out).mono ?_
          rintro e w11 ⟨z3, rfl, hz3, b11⟩
          have HZ3 := hid hz3
          have HZ22 := hid (HZ2.out.keep (KeepS.below b11))
          clear hz3
          go_wp2_with fail
          refine (sameAll_any dc dc z3 z2 AnyB AnyB w11 HZ3.out HZ22.out).mono ?_
          rintro e w12 ⟨rfl, b12⟩
          rw [decide_eq_true (rfl : dc = dc)]
          have b1012 : Below w10.heap.size w10 w12 := b11.trans (b12.mono b11.size)
          have b12w : Below w.heap.size w w12 := b10w.trans (b1012.mono b10w.size)
          have HSr12 : Hid (SlV (WorldV AnyB) AnyB w12 (.slice (some ⟨w7.heap.size, 0, none⟩) 6 6) Ws) := hid (SlV.keep HSr10.out (KeepS.below b1012) (fun _ _ h => WorldV.keep h (KeepS.below b1012)))
          clear HZ1 HZ2 HZ3 HZ22 b11 b12 b1012 b10w HSr10
          go_wp2
          go_roundw
          case rel => exact ⟨r + 1, by omega, by go_num, b12w, HSr12⟩
          case measure => simp [intOf]; omega
        · have hr6 : ¬ (r : Int) < 6 := by omega
          go_wp2
          go_roundw
          case rel => exact ⟨q + 1, by omega, by go_num, br, HSr⟩
          case measure => simp [intOf]; omega
    · have hq6 : ¬ (q : Int) < 6 := by omega
      go_wp2_with fail
      refine (lives_any wr).mono ?_
      rintro e w9 ⟨rfl, b9⟩
      have b9w : Below w.heap.size w w9 := bq.trans (b9.mono bq.size)
      clear b9
      go_wp2
      go_ret
      exact ⟨rfl, b9w⟩

end Go.Proofs.Ytagnjhhbbjbhcaa
