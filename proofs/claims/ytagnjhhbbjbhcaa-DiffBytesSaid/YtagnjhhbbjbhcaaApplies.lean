/- DiffApplies: for all arguments it returns true. -/
import Derived.Test.YtagnjhhbbjbhcaaRApply
import Derived.Test.YtagnjhhbbjbhcaaEncode
import Derived.Test.YtagnjhhbbjbhcaaRTurn
namespace Go.Proofs.Ytagnjhhbbjbhcaa
open Go.RowKit

theorem GoodC.enc {c : Chg} (h : GoodC c) : EncOk c := by
  refine ⟨fun x hx => ?_, fun x hx => ?_, by have := h.len; omega⟩
  · have := h.ints x hx; omega
  · have := h.vals x hx; omega
theorem GoodL.enc {cs : List Chg} (h : GoodL cs) : ∀ c ∈ cs, EncOk c := fun c hc => (h c hc).enc
theorem GoodL.nil : GoodL [] := fun c hc => absurd hc (by simp)

theorem lit6C (w : World) (t : TypeId) {va vb vc vd ve vf : Value} {A B C D E F : List Chg} (hA : ChV AnyB w va A) (hB : ChV AnyB w vb B) (hC : ChV AnyB w vc C) (hD : ChV AnyB w vd D) (hE : ChV AnyB w ve E) (hF : ChV AnyB w vf F) :
    SlV (fun w => ChV AnyB w) AnyB (w.alloc (.cells #[va, vb, vc, vd, ve, vf] t)) (.slice (some ⟨w.heap.size, 0, none⟩) 6 6) [A, B, C, D, E, F] := by
  have hb : Below w.heap.size w (w.alloc (.cells #[va, vb, vc, vd, ve, vf] t)) := (Below.refl _ _).alloc (Nat.le_refl _) _
  refine sl_blk [va, vb, vc, vd, ve, vf] [A, B, C, D, E, F] (heap_new _ _ rfl) rfl (by simp) (fun j g1 g2 => ?_)
  match j, g1 with
  | 0, _ => exact hA.keep (KeepS.below hb)
  | 1, _ => exact hB.keep (KeepS.below hb)
  | 2, _ => exact hC.keep (KeepS.below hb)
  | 3, _ => exact hD.keep (KeepS.below hb)
  | 4, _ => exact hE.keep (KeepS.below hb)
  | 5, _ => exact hF.keep (KeepS.below hb)

theorem lit3W (w : World) (t : TypeId) {va vb vc : Value} {A B C : List (List (List Int))} (hA : WorldV AnyB w va A) (hB : WorldV AnyB w vb B) (hC : WorldV AnyB w vc C) :
    SlV (WorldV AnyB) AnyB (w.alloc (.cells #[va, vb, vc] t)) (.slice (some ⟨w.heap.size, 0, none⟩) 3 3) [A, B, C] := by
  have hb : Below w.heap.size w (w.alloc (.cells #[va, vb, vc] t)) := (Below.refl _ _).alloc (Nat.le_refl _) _
  refine sl_blk [va, vb, vc] [A, B, C] (heap_new _ _ rfl) rfl (by simp) (fun j g1 g2 => ?_)
  match j, g1 with
  | 0, _ => exact hA.keep (KeepS.below hb)
  | 1, _ => exact hB.keep (KeepS.below hb)
  | 2, _ => exact hC.keep (KeepS.below hb)

theorem tdiv9 {p : Int} (h1 : -9223372036854775808 ≤ p) (h2 : p ≤ 9223372036854775807) : -9223372036854775808 ≤ p.tdiv 9 ∧ p.tdiv 9 ≤ 9223372036854775807 := by
  by_cases h : 0 ≤ p
  · rw [Int.tdiv_eq_ediv_of_nonneg h]; omega
  · have e : p.tdiv 9 = -((-p).tdiv 9) := by rw [Int.neg_tdiv]; omega
    rw [e, Int.tdiv_eq_ediv_of_nonneg (by omega)]; omega

set_option maxRecDepth 100000 in
set_option maxHeartbeats 16000000 in
theorem applies_any (l m k : List Int) (hl : Fit l) (hm : Fit m) (hk : Fit k) (al am ak : Option Addr) (nl nm nk cl cm ck : Nat) (w : World) (vl : IntsV AnyB w (.slice al nl cl) l) (vm : IntsV AnyB w (.slice am nm cm) m) (vk : IntsV AnyB w (.slice ak nk ck) k)
    (p1 p2 p3 : Int) (h1 : -9223372036854775808 ≤ p1 ∧ p1 ≤ 9223372036854775807) (h2 : -9223372036854775808 ≤ p2 ∧ p2 ≤ 9223372036854775807) (h3 : -9223372036854775808 ≤ p3 ∧ p3 ≤ 9223372036854775807) :
    Calls Try.prog 6 #[.slice al nl cl, .slice am nm cm, .slice ak nk ck, .int .i64 p1, .int .i64 p2, .int .i64 p3] w fun e w' => e = .returned (.bool true) ∧ Below w.heap.size w w' := by
  have sl := shapeL_ok l
  have A0 := worldL_shape (shapeL l) l sl
  have B0 := worldL_shape (shapeL l) m sl
  go_enter Try.func6, Try.ntmps6
  go_wp2_with fail
  refine (shape_any l hl _ _ w vl).mono ?_
  rintro e w1 ⟨s, rfl, hs, b1⟩
  have hs' := IntsV.mono (S' := AnyB) hs (fun _ _ _ => trivial)
  obtain ⟨as_, cs_, rfl, -, -, -⟩ := hs'.form
  have vl1 : IntsV AnyB w1 _ l := vl.keep (KeepS.below b1)
  go_wp2_with fail
  refine (world_any (shapeL l) sl l hl _ _ _ _ w1 hs' vl1).mono ?_
  rintro e w2 ⟨va, rfl, ha, b2⟩
  have hA2 := WorldV.mono (S' := AnyB) ha (fun _ _ _ => trivial)
  have b02 : Below w.heap.size w w2 := b1.trans (b2.mono b1.size)
  have hs2 := IntsV.keep hs' (KeepS.below b2)
  have vm2 : IntsV AnyB w2 _ m := vm.keep (KeepS.below b02)
  have vk2 : IntsV AnyB w2 _ k := vk.keep (KeepS.below b02)
  clear vl vl1 vm vk hs hs' ha b1 b2
  go_wp2_with fail
  refine (world_any (shapeL l) sl m hm _ _ _ _ w2 hs2 vm2).mono ?_
  rintro e w3 ⟨vb, rfl, hb, b3⟩
  have hB3 := WorldV.mono (S' := AnyB) hb (fun _ _ _ => trivial)
  have hA3 := WorldV.keep hA2 (KeepS.below b3)
  have hs3 := IntsV.keep hs2 (KeepS.below b3)
  have vk3 := IntsV.keep vk2 (KeepS.below b3)
  have b03 : Below w.heap.size w w3 := b02.trans (b3.mono b02.size)
  clear hA2 hs2 vm2 vk2 hb b3 b02
  generalize worldL (shapeL l) l = A at *
  generalize worldL (shapeL l) m = B at *
  have hSA := A0.small sl
  have hSB := B0.small sl
  have n1 := diffC_len_small A0 B0 sl
  have G1 := hid (diffC_good A0 B0 sl)
  obtain ⟨xa, ya, rfl, -⟩ := hA3.form
  obtain ⟨xb, yb, rfl, -⟩ := hB3.form
  go_wp2_with fail
  refine (rdiff_any A B hSA hSB _ _ AnyB AnyB w3 hA3 hB3).mono ?_
  rintro e w4 ⟨z1, rfl, hz1, b4⟩
  have hA4 := WorldV.keep hA3 (KeepS.below b4)
  have hB4 := WorldV.keep hB3 (KeepS.below b4)
  have hs4 := IntsV.keep hs3 (KeepS.below b4)
  have vk4 := IntsV.keep vk3 (KeepS.below b4)
  have b04 : Below w.heap.size w w4 := b03.trans (b4.mono b03.size)
  obtain ⟨q1, r1, rfl, -⟩ := hz1.form
  clear hA3 hB3 hs3 vk3 b4 b03
  go_wp2_with fail
  refine (bent_any (diffC A B) (by omega) G1.out p1 p2 p3 h1.1 h1.2 h2.1 h2.2 h3.1 h3.2 _ AnyB w4 hz1).mono ?_
  rintro e w5 ⟨z2, rfl, D, hz2, hDl, hDg, b5⟩
  have GD := hid hDg
  have hA5 := WorldV.keep hA4 (KeepS.below b5)
  have hB5 := WorldV.keep hB4 (KeepS.below b5)
  have hs5 := IntsV.keep hs4 (KeepS.below b5)
  have vk5 := IntsV.keep vk4 (KeepS.below b5)
  have hz15 := ChV.keep hz1 (KeepS.below b5)
  have b05 : Below w.heap.size w w5 := b04.trans (b5.mono b04.size)
  obtain ⟨q2, r2, rfl, -⟩ := hz2.form
  clear hA4 hB4 hs4 vk4 hz1 b5 b04 hDg
  go_wp2_with fail
  refine (near_any _ (shapeL l) k A0 sl (shapeL_pos l) hk _ _ _ _ _ _ w5 hA5 hs5 vk5).mono ?_
  rintro e w6 ⟨vn, N, rfl, hn, N0, b6⟩
  have hN6 := WorldV.mono (S' := AnyB) (WorldF.sl hn) (fun _ _ _ => trivial)
  have hA6 := WorldV.keep hA5 (KeepS.below b6)
  have hB6 := WorldV.keep hB5 (KeepS.below b6)
  have hz16 := ChV.keep hz15 (KeepS.below b6)
  have hz26 := ChV.keep hz2 (KeepS.below b6)
  have b06 : Below w.heap.size w w6 := b05.trans (b6.mono b05.size)
  obtain ⟨xn, yn, rfl, -⟩ := hN6.form
  clear hA5 hB5 hs5 vk5 hz15 hz2 hn b6 b05
  have hSN := N0.small sl
  have n2 := diffC_len_small A0 N0 sl
  have G2 := hid (diffC_good A0 N0 sl)
  have hTA := hid (A0.tiny sl)
  clear A0 B0 N0 sl
  go_wp2_with fail
  refine (rdiff_any A N hSA hSN _ _ AnyB AnyB w6 hA6 hN6).mono ?_
  rintro e w7 ⟨z3, rfl, hz3, b7⟩
  have hA7 := WorldV.keep hA6 (KeepS.below b7)
  have hB7 := WorldV.keep hB6 (KeepS.below b7)
  have hz17 := ChV.keep hz16 (KeepS.below b7)
  have hz27 := ChV.keep hz26 (KeepS.below b7)
  have b07 : Below w.heap.size w w7 := b06.trans (b7.mono b06.size)
  obtain ⟨q3, r3, rfl, -⟩ := hz3.form
  clear hA6 hB6 hz16 hz26 hN6 b7 b06
  have ht9 := tdiv9 h2.1 h2.2
  go_wp2_with fail
  refine (bent_any D (by omega) GD.out p3 (p2.tdiv 9) p1 h3.1 h3.2 ht9.1 ht9.2 h1.1 h1.2 _ AnyB w7 hz27).mono ?_
  rintro e w8 ⟨z4, rfl, E, hz4, hEl, hEg, b8⟩
  have GE := hid hEg
  have hA8 := WorldV.keep hA7 (KeepS.below b8)
  have hB8 := WorldV.keep hB7 (KeepS.below b8)
  have hz18 := ChV.keep hz17 (KeepS.below b8)
  have hz28 := ChV.keep hz27 (KeepS.below b8)
  have hz38 := ChV.keep hz3 (KeepS.below b8)
  have b08 : Below w.heap.size w w8 := b07.trans (b8.mono b07.size)
  obtain ⟨q4, r4, rfl, -⟩ := hz4.form
  clear hA7 hB7 hz17 hz27 hz3 b8 b07 hEg ht9
  go_wp2_with fail
  refine (rturn_any (diffC A B) (by omega) _ AnyB w8 hz18).mono ?_
  rintro e w9 ⟨z5, rfl, hz5, b9⟩
  have hA9 := WorldV.keep hA8 (KeepS.below b9)
  have hB9 := WorldV.keep hB8 (KeepS.below b9)
  have hz19 := ChV.keep hz18 (KeepS.below b9)
  have hz29 := ChV.keep hz28 (KeepS.below b9)
  have hz39 := ChV.keep hz38 (KeepS.below b9)
  have hz49 := ChV.keep hz4 (KeepS.below b9)
  have b09 : Below w.heap.size w w9 := b08.trans (b9.mono b08.size)
  obtain ⟨q5, r5, rfl, -⟩ := hz5.form
  have hL9 := lit6C w9 34 hz19 hz29 hz49 hz5 hz39 (ChV.nil AnyB w9)
  have bL9 : Below w9.heap.size w9 (w9.alloc (.cells #[.slice q1 (diffC A B).length r1, .slice q2 D.length r2, .slice q4 E.length r4, .slice q5 (turnL (diffC A B)).length r5, .slice q3 (diffC A N).length r3, .slice none 0 0] 34)) := (Below.refl _ _).alloc (Nat.le_refl _) _
  have hA10 := WorldV.keep hA9 (KeepS.below bL9)
  have hB10 := WorldV.keep hB9 (KeepS.below bL9)
  have b010 := b09.trans (bL9.mono b09.size)
  clear hA8 hB8 hz18 hz28 hz38 hz4 hz19 hz29 hz39 hz49 hz5 b9 b08 bL9 hA9 hB9
  obtain ⟨Ls, hLs⟩ : ∃ Ls, Ls = [diffC A B, D, E, turnL (diffC A B), diffC A N, []] := ⟨_, rfl⟩
  have hvals : Hid (∀ j (h : j < Ls.length), Ls[j].length ≤ 1000 ∧ GoodL Ls[j]) := hid (by
    subst hLs
    intro j hj
    match j, hj with
    | 0, _ => exact ⟨by simp; omega, G1.out⟩
    | 1, _ => exact ⟨by simp; omega, GD.out⟩
    | 2, _ => exact ⟨by simp; omega, GE.out⟩
    | 3, _ => exact ⟨by simp [turnL_len]; omega, turnL_good G1.out⟩
    | 4, _ => exact ⟨by simp; omega, G2.out⟩
    | 5, _ => exact ⟨by simp, GoodL.nil⟩)
  have hL6 : Ls.length = 6 := by rw [hLs]; rfl
  rw [← hLs] at hL9
  have HL9 := hid hL9
  clear hL9 G1 GD GE G2 hLs hDl hEl n1 n2
  go_wp2_with fail
  refine (odd_any A hTA.out p1 p2 p3 h1.1 h1.2 h2.1 h2.2 h3.1 h3.2 _ AnyB _ hA10).mono ?_
  rintro e w11 ⟨vo, rfl, O, hSO, ho, b11⟩
  have HL11 := hid (SlV.keep HL9.out (KeepS.below b11) (fun u x h => ChV.keep h (KeepS.below b11)))
  have hA11 := WorldV.keep hA10 (KeepS.below b11)
  have hB11 := WorldV.keep hB10 (KeepS.below b11)
  have b011 := b010.trans (b11.mono b010.size)
  have hlt9 : w9.heap.size < w11.heap.size := by have := b11.size; simp at this; omega
  obtain ⟨xo, yo, rfl, -⟩ := ho.form
  have hW11 := lit3W w11 25 hA11 hB11 ho
  have bW11 : Below w11.heap.size w11 (w11.alloc (.cells #[.slice xa A.length ya, .slice xb B.length yb, .slice xo O.length yo] 25)) := (Below.refl _ _).alloc (Nat.le_refl _) _
  have HL12 := hid (SlV.keep HL11.out (KeepS.below bW11) (fun u x h => ChV.keep h (KeepS.below bW11)))
  have b012 := b011.trans (bW11.mono b011.size)
  obtain ⟨Ws, hWs⟩ : ∃ Ws, Ws = [A, B, O] := ⟨_, rfl⟩
  have hsm : Hid (∀ j (h : j < Ws.length), Small Ws[j]) := hid (by
    subst hWs
    intro j hj
    match j, hj with
    | 0, _ => exact hSA
    | 1, _ => exact hSB
    | 2, _ => exact hSO)
  have hW3 : Ws.length = 3 := by rw [hWs]; rfl
  rw [← hWs] at hW11
  have HW12 := hid hW11
  clear hW11 hA11 hB11 ho b11 HL9 HL11 hA10 hB10 b010 b09 b011 bW11 hTA hSA hSB hSN hSO hWs
  obtain ⟨w12, hw12⟩ : ∃ w12, w12 = w11.alloc (.cells #[.slice xa A.length ya, .slice xb B.length yb, .slice xo O.length yo] 25) := ⟨_, rfl⟩
  rw [← hw12] at HL12 HW12 b012
  have HB12 := hid b012
  clear b012
  go_wp2
  rw [← hw12]
  have hgs : w11.heap.size < w12.heap.size := by rw [hw12]; simp
  obtain ⟨N9, hN9⟩ : ∃ n, n = w9.heap.size := ⟨_, rfl⟩
  obtain ⟨N11, hN11⟩ : ∃ n, n = w11.heap.size := ⟨_, rfl⟩
  rw [← hN9, ← hN11]
  rw [← hN9] at HL12 hlt9
  rw [← hN11] at HW12 hgs hlt9
  clear hw12 hN9 hN11
  go_loopw [23] (fun i wr => ∃ q : Nat, q ≤ 6 ∧ i = .int .i64 q ∧ Below w12.heap.size w12 wr) (fun i _ => 6 - (intOf i).toNat)
  case atStart => exact ⟨0, by omega, rfl, Below.refl _ _⟩
  case round =>
    obtain ⟨q, hq, rfl, hb⟩ := hrel
    by_cases hlt : q < 6
    · have hql : q < Ls.length := by omega
      obtain ⟨hLl, hLg⟩ := hvals.out q hql
      have HAT := hid (fun W (h : Below w12.heap.size w12 W) => (SlV.keep HL12.out (KeepS.below h) (fun u x h' => ChV.keep h' (KeepS.below h))).at (hL6 ▸ hql : q < Ls.length))
      generalize Ls[q] = L at *
      have hq6 : (q : Int) < 6 := by omega
      have hq0 : (0 : Int) ≤ q := by omega
      obtain ⟨wo, rfl⟩ : ∃ wo : World, wo = wr := ⟨_, rfl⟩
      go_wp2
      go_loopw [24] (fun i wr => ∃ p : Nat, p ≤ 3 ∧ i = .int .i64 p ∧ Below w12.heap.size w12 wr) (fun i _ => 3 - (intOf i).toNat)
      case atStart => exact ⟨0, by omega, rfl, hb⟩
      case round =>
        obtain ⟨p, hp, rfl, hb2⟩ := hrel
        by_cases hlt2 : p < 3
        · have hpl : p < Ws.length := by omega
          have hSm := hsm.out p hpl
          have HAW := hid (fun W (h : Below w12.heap.size w12 W) => (SlV.keep HW12.out (KeepS.below h) (fun u x h' => WorldV.keep h' (KeepS.below h))).at (hW3 ▸ hpl : p < Ws.length))
          generalize Ws[p] = V at *
          have hp3 : (p : Int) < 3 := by omega
          have hp0 : (0 : Int) ≤ p := by omega
          obtain ⟨uL, hcL, hbL, hrL⟩ := HAT.out wr hb2
          obtain ⟨uW, hcW, hbW, hrW⟩ := HAW.out wr hb2
          simp only [slb_some, slo_some, Nat.zero_add] at hcL hbL hcW hbW
          obtain ⟨aL, cL, rfl, -⟩ := hrL.form
          obtain ⟨aW, cW, rfl, -⟩ := hrW.form
          have HRL := hid hrL
          have HRW := hid hrW
          clear hrL hrW
          go_wp2
          have hg := Grew.cell (w := wr)
          refine wp_region_grewS 14 [(true, 0), (true, 1), (true, 2), (true, 3), (true, 4), (true, 5), (true, 6), (true, 7), (false, 8), (false, 9), (true, 10), (true, 11), (true, 12), (true, 13)] (by kernel_rfl) (by kernel_rfl) ?_
          refine wpSteps_pre 8 (by decide) ?_
          simp only [List.take_succ_cons, List.take_zero]
          repeat (go_big_quiet_step (fail))
          refine wpQuiet_nil ?_
          refine wpSteps_one rfl ?_
          clear hg
          go_wp2_with fail
          refine (own_any L (by omega) _ AnyB _ (HRL.out.keep (KeepS.below (below_drewN (Below.refl _ _) 1)))).mono ?_
          rintro e w13 ⟨y, rfl, hy, b13⟩
          have hbb : Below wr.heap.size wr w13 := (below_drewN (Below.refl _ _) 1).trans b13
          obtain ⟨ay, cy, rfl, -⟩ := hy.form
          have HBB := hid hbb
          have HY := hid hy
          have HW13 := hid (WorldV.keep HRW.out (KeepS.below hbb))
          clear hbb hy b13
          go_wp2
          refine qn_mk ⟨InGrew.of HBB.out, ?_⟩
          refine wpSteps_one rfl ?_
          go_wp2_with fail
          refine (applyP_any V hSm L (by omega) hLg.values _ _ AnyB AnyB w13 HW13.out HY.out).mono ?_
          rintro e w14 ⟨x, rfl, hx, b14⟩
          have hbb : Below wr.heap.size wr w14 := HBB.out.trans (b14.mono HBB.out.size)
          obtain ⟨ax, cx, rfl, -⟩ := hx.form
          have HBB2 := hid hbb
          have HX := hid hx
          have HRL14 := hid (ChV.keep HRL.out (KeepS.below hbb))
          have HRW14 := hid (WorldV.keep HRW.out (KeepS.below hbb))
          have hcL2 := cell_later hbb hcL
          have hcW2 := cell_later hbb hcW
          have hz14 := hbb.size
          have hbL14 : N9 < w14.heap.size := by omega
          have hbW14 : N11 < w14.heap.size := by omega
          have hb14 : Below w12.heap.size w12 w14 := hb2.trans (hbb.mono hb2.size)
          have HB14 := hid hb14
          clear hbb hx b14 HY HW13 HBB HRL HRW hcL hcW hb14
          go_wp2
          refine qn_mk ⟨InGrew.of HBB2.out, ?_⟩
          refine wpSteps_quiet rfl ?_
          repeat (go_big_quiet_step (fail))
          refine wpQuiet_nil ?_
          refine wpSteps_quiet rfl ?_
          repeat (go_big_quiet_step (fail))
          refine wpQuiet_nil ?_
          refine wpSteps_quiet rfl ?_
          repeat (go_big_quiet_step (fail))
          refine wpQuiet_nil ?_
          refine wpSteps_quiet rfl ?_
          repeat (go_big_quiet_step (fail))
          refine wpQuiet_nil ?_
          refine wpSteps_done ?_
          clear HBB2
          generalize hAL : applyL V L = AL at *
          have HAL := hid hAL
          clear hAL
          go_wp2
          have hg := Grew.cell (w := w14)
          refine wp_region_grewS 13 [(true, 0), (true, 1), (true, 2), (true, 3), (true, 4), (true, 5), (true, 6), (true, 7), (false, 8), (true, 9), (true, 10), (true, 11), (true, 12)] (by kernel_rfl) (by kernel_rfl) ?_
          refine wpSteps_pre 8 (by decide) ?_
          simp only [List.take_succ_cons, List.take_zero]
          repeat (go_big_quiet_step (fail))
          refine wpQuiet_nil ?_
          refine wpSteps_one rfl ?_
          clear hg
          have hd14 : Below w14.heap.size w14 (w14.drewN 1) := below_drewN (Below.refl _ _) 1
          go_wp2_with fail
          refine (rapply_any V hSm L (by omega) hLg.values _ _ AnyB AnyB _ (WorldV.keep HRW14.out (KeepS.below hd14)) (ChV.keep HRL14.out (KeepS.below hd14))).mono ?_
          rw [HAL.out]
          rintro e w15 ⟨y, rfl, hy, b15⟩
          have hbb : Below w14.heap.size w14 w15 := hd14.trans b15
          obtain ⟨ay2, cy2, rfl, -⟩ := hy.form
          have HBB := hid hbb
          have HY := hid hy
          have HX15 := hid (WorldV.keep HX.out (KeepS.below hbb))
          have HB15 := hid (HB14.out.trans (hbb.mono HB14.out.size))
          clear hbb hy b15 hd14 HX HB14 HRW14 HRL14 hcL2 hcW2
          go_wp2
          refine qn_mk ⟨InGrew.of HBB.out, ?_⟩
          refine wpSteps_quiet rfl ?_
          repeat (go_big_quiet_step (fail))
          refine wpQuiet_nil ?_
          refine wpSteps_quiet rfl ?_
          repeat (go_big_quiet_step (fail))
          refine wpQuiet_nil ?_
          refine wpSteps_quiet rfl ?_
          repeat (go_big_quiet_step (fail))
          refine wpQuiet_nil ?_
          refine wpSteps_quiet rfl ?_
          repeat (go_big_quiet_step (fail))
          refine wpQuiet_nil ?_
          refine wpSteps_done ?_
          obtain ⟨ec, WL⟩ := AL
          simp only at HX15 HY ⊢
          have hne : (ec != ec) = false := bneF rfl
          go_wp2_with fail
          refine (sameWorld_any WL WL _ _ AnyB AnyB w15 HX15.out HY.out).mono ?_
          rw [decide_eq_true (rfl : WL = WL)]
          rintro e w16 ⟨rfl, b16⟩
          have hb16 := HB15.out.trans (b16.mono HB15.out.size)
          have HB16 := hid hb16
          clear b16 hb16
          go_wp2
          go_roundw
          case rel => exact ⟨p + 1, by omega, by go_num, HB16.out⟩
          case measure => simp [intOf]; omega
        · obtain rfl : p = 3 := by omega
          obtain ⟨uL, hcL, hbL, hrL⟩ := HAT.out wr hb2
          simp only [slb_some, slo_some, Nat.zero_add] at hcL hbL
          obtain ⟨aL, cL, rfl, -⟩ := hrL.form
          have HRL := hid hrL
          clear hrL
          go_wp2
          have hg := Grew.cell (w := wr)
          refine wp_region_grewS 27 [(true, 0), (true, 1), (true, 2), (true, 3), (true, 7), (true, 8), (true, 9), (true, 10), (false, 4), (false, 5), (false, 6), (false, 11), (false, 12), (true, 13), (true, 14), (true, 15), (true, 16), (true, 17), (true, 18), (true, 21), (true, 22), (true, 23), (true, 24), (false, 19), (false, 20), (false, 25), (false, 26)] (by kernel_rfl) (by kernel_rfl) ?_
          refine wpSteps_pre 4 (by decide) ?_
          simp only [List.take_succ_cons, List.take_zero]
          repeat (go_big_quiet_step (fail))
          refine wpQuiet_nil ?_
          refine wpSteps_quiet rfl ?_
          repeat (go_big_quiet_step (fail))
          refine wpQuiet_nil ?_
          refine wpSteps_quiet rfl ?_
          repeat (go_big_quiet_step (fail))
          refine wpQuiet_nil ?_
          refine wpSteps_quiet rfl ?_
          repeat (go_big_quiet_step (fail))
          refine wpQuiet_nil ?_
          refine wpSteps_quiet rfl ?_
          repeat (go_big_quiet_step (fail))
          refine wpQuiet_nil ?_
          refine wpSteps_one rfl ?_
          clear hg
          have hz := hb2.size
          have HB2 := hid hb2
          go_wp2_with fail
          refine (own_any L (by omega) _ AnyB _ (HRL.out.keep (KeepS.below (below_drewN (Below.refl _ _) 1)))).mono ?_
          rintro e w13 ⟨y, rfl, hy, b13⟩
          obtain ⟨ay, cy, rfl, -⟩ := hy.form
          have HBB := hid ((below_drewN (Below.refl wr.heap.size wr) 1).trans b13)
          have HY := hid hy
          clear hy b13
          go_wp2
          refine qn_mk ⟨InGrew.of HBB.out, ?_⟩
          refine wpSteps_one rfl ?_
          go_wp2_with fail
          refine (pturn_any L (by omega) hLg.values _ AnyB w13 HY.out).mono ?_
          rintro e w14 ⟨y2, rfl, hy, b14⟩
          obtain ⟨ay2, cy2, rfl, -⟩ := hy.form
          have HBB2 := hid (HBB.out.trans (b14.mono HBB.out.size))
          have HY2 := hid hy
          clear hy b14 HBB HY
          go_wp2
          refine qn_mk ⟨InGrew.of HBB2.out, ?_⟩
          refine wpSteps_one rfl ?_
          go_wp2_with fail
          refine (plain_any (turnL L) (by rw [turnL_len]; omega) _ AnyB w14 HY2.out).mono ?_
          rintro e w15 ⟨y3, rfl, hy, b15⟩
          obtain ⟨ay3, cy3, rfl, -⟩ := hy.form
          have HBB3 := hid (HBB2.out.trans (b15.mono HBB2.out.size))
          have HY3 := hid hy
          have HL15 := hid (ChV.keep HRL.out (KeepS.below HBB3.out))
          clear hy b15 HBB2 HY2
          go_wp2
          refine qn_mk ⟨InGrew.of HBB3.out, ?_⟩
          refine wpSteps_one rfl ?_
          go_wp2_with fail
          refine (rturn_any L (by omega) _ AnyB w15 HL15.out).mono ?_
          rintro e w16 ⟨y4, rfl, hy, b16⟩
          obtain ⟨ay4, cy4, rfl, -⟩ := hy.form
          have HBB4 := hid (HBB3.out.trans (b16.mono HBB3.out.size))
          have HY34 := hid (ChV.keep HY3.out (KeepS.below b16))
          have HY4 := hid hy
          clear hy b16 HBB3 HY3 HL15
          go_wp2
          refine qn_mk ⟨InGrew.of HBB4.out, ?_⟩
          refine wpSteps_one rfl ?_
          go_wp2_with fail
          refine (sameAll_any (turnL L) (turnL L) _ _ AnyB AnyB w16 HY34.out HY4.out).mono ?_
          rw [decide_eq_true (rfl : turnL L = turnL L)]
          rintro e w17 ⟨rfl, b17⟩
          have HBB5 := hid (HBB4.out.trans (b17.mono HBB4.out.size))
          have HL17 := hid (ChV.keep HRL.out (KeepS.below HBB5.out))
          clear b17 HBB4 HY34 HY4
          go_wp2
          refine qn_mk ⟨InGrew.of HBB5.out, ?_⟩
          have hg := Grew.cell (w := wr)
          refine wpSteps_quiet rfl ?_
          repeat (go_big_quiet_step (fail))
          refine wpQuiet_nil ?_
          refine wpSteps_quiet rfl ?_
          repeat (go_big_quiet_step (fail))
          refine wpQuiet_nil ?_
          refine wpSteps_quiet rfl ?_
          repeat (go_big_quiet_step (fail))
          refine wpQuiet_nil ?_
          refine wpSteps_quiet rfl ?_
          repeat (go_big_quiet_step (fail))
          refine wpQuiet_nil ?_
          refine wpSteps_quiet rfl ?_
          repeat (go_big_quiet_step (fail))
          refine wpQuiet_nil ?_
          refine wpSteps_quiet rfl ?_
          repeat (go_big_quiet_step (fail))
          refine wpQuiet_nil ?_
          refine wpSteps_quiet rfl ?_
          repeat (go_big_quiet_step (fail))
          refine wpQuiet_nil ?_
          refine wpSteps_quiet rfl ?_
          repeat (go_big_quiet_step (fail))
          refine wpQuiet_nil ?_
          refine wpSteps_quiet rfl ?_
          repeat (go_big_quiet_step (fail))
          refine wpQuiet_nil ?_
          refine wpSteps_quiet rfl ?_
          repeat (go_big_quiet_step (fail))
          refine wpQuiet_nil ?_
          refine wpSteps_one rfl ?_
          clear hg
          go_wp2_with fail
          refine (own_any L (by omega) _ AnyB _ HL17.out).mono ?_
          rintro e w18 ⟨y5, rfl, hy, b18⟩
          obtain ⟨ay5, cy5, rfl, -⟩ := hy.form
          have HBB6 := hid (HBB5.out.trans (b18.mono HBB5.out.size))
          have HY5 := hid hy
          clear hy b18 HBB5 HL17
          go_wp2
          refine qn_mk ⟨InGrew.of HBB6.out, ?_⟩
          refine wpSteps_one rfl ?_
          go_wp2_with fail
          refine (pencode_any L (by omega) hLg.enc _ AnyB w18 HY5.out).mono ?_
          rintro e w19 ⟨y6, rfl, hy, b19⟩
          have hys := ownB_sl hy
          obtain ⟨ay6, cy6, rfl, -⟩ := hys.form
          have HBB7 := hid (HBB6.out.trans (b19.mono HBB6.out.size))
          have HY6 := hid hys
          have HL19 := hid (ChV.keep HRL.out (KeepS.below HBB7.out))
          clear hy hys b19 HBB6 HY5
          go_wp2
          refine qn_mk ⟨InGrew.of HBB7.out, ?_⟩
          refine wpSteps_one rfl ?_
          go_wp2_with fail
          refine (rencode_any L (by omega) hLg.enc _ AnyB w19 HL19.out).mono ?_
          rintro e w20 ⟨y7, rfl, hy, b20⟩
          have hys := ownB_sl hy
          obtain ⟨ay7, cy7, rfl, -⟩ := hys.form
          have HBB8 := hid (HBB7.out.trans (b20.mono HBB7.out.size))
          have HY7 := hid hys
          have HY67 := hid (BytesV.keep HY6.out (KeepS.below b20))
          clear hy hys b20 HBB7 HY6 HL19
          go_wp2
          refine qn_mk ⟨InGrew.of HBB8.out, ?_⟩
          refine wpSteps_one rfl ?_
          go_wp2_with fail
          refine (sameB_any (encCs L) (encCs L) _ _ AnyB AnyB w20 HY67.out HY7.out).mono ?_
          rw [decide_eq_true (rfl : encCs L = encCs L)]
          rintro e w21 ⟨rfl, n21, rfl⟩
          have HBB9 := hid (below_drewN HBB8.out n21)
          clear HBB8 HY67 HY7
          go_wp2
          refine qn_mk ⟨InGrew.of HBB9.out, ?_⟩
          refine wpSteps_done ?_
          have HB9 := hid (HB2.out.trans (HBB9.out.mono hz))
          clear HBB9
          go_wp2
          go_roundw
          case rel => exact ⟨q + 1, by omega, by go_num, HB9.out⟩
          case measure => simp [intOf]; omega
    · go_wp2_with fail
      refine (lives_any wr).mono ?_
      rintro e w17 ⟨rfl, b17⟩
      have b017 : Below w.heap.size w w17 := (HB12.out.trans (hb.mono HB12.out.size)).trans (b17.mono (by have := HB12.out.size; have := hb.size; omega))
      have B17 := hid b017
      clear b17 b017
      go_wp2
      go_ret
      exact ⟨rfl, B17.out⟩

end Go.Proofs.Ytagnjhhbbjbhcaa
