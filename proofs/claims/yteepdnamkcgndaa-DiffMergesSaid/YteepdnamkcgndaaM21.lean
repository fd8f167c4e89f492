/- The law DiffMerges. -/
import Derived.Test.YteepdnamkcgndaaM20
import Derived.Test.YteepdnamkcgndaaM13
import Derived.Test.YteepdnamkcgndaaM10
namespace Go.Proofs.Yteepdnamkcgndaa
open Go.RowKit

theorem lit6C (w : World) (t : TypeId) {va vb vc vd ve vf : Value} {A B C D E F : List Chg} (hA : ChV AnyB w va A) (hB : ChV AnyB w vb B) (hC : ChV AnyB w vc C) (hD : ChV AnyB w vd D) (hE : ChV AnyB w ve E) (hF : ChV AnyB w vf F) :
    SlV (ChV AnyB) AnyB (w.alloc (.cells #[va, vb, vc, vd, ve, vf] t)) (.slice (some ⟨w.heap.size, 0, none⟩) 6 6) [A, B, C, D, E, F] := by
  have hb : Below w.heap.size w (w.alloc (.cells #[va, vb, vc, vd, ve, vf] t)) := (Below.refl _ _).alloc (Nat.le_refl _) _
  refine sl_blk [va, vb, vc, vd, ve, vf] [A, B, C, D, E, F] (heap_new _ _ rfl) rfl (by simp) (fun j g1 g2 => ?_)
  match j, g1 with
  | 0, _ => exact hA.keep (KeepS.below hb)
  | 1, _ => exact hB.keep (KeepS.below hb)
  | 2, _ => exact hC.keep (KeepS.below hb)
  | 3, _ => exact hD.keep (KeepS.below hb)
  | 4, _ => exact hE.keep (KeepS.below hb)
  | 5, _ => exact hF.keep (KeepS.below hb)
theorem goodL_nil : GoodL [] := fun c h => by simp at h
theorem mergeL_len {cs ds : List Chg} : (mergeL cs ds).length ≤ cs.length + ds.length := by
  have h : ∀ a b : List Chg, (Mer.togetherR a b).length ≤ a.length + b.length := fun a b => by
    fun_induction Mer.togetherR a b with
    | case1 b => simp
    | case2 x a => simp
    | case3 a y b ih => simp; omega
    | case4 x a y b h1 h2 ih => simp at ih ⊢; omega
    | case5 x a y b h1 h2 ih => simp at ih ⊢; omega
  unfold mergeL
  split
  · split
    · simp
    · exact h cs ds
  · simp

theorem tdiv9 {p : Int} (h1 : -9223372036854775808 ≤ p) (h2 : p ≤ 9223372036854775807) : -9223372036854775808 ≤ p.tdiv 9 ∧ p.tdiv 9 ≤ 9223372036854775807 := by
  by_cases h : 0 ≤ p
  · rw [Int.tdiv_eq_ediv_of_nonneg h]; omega
  · have e : p.tdiv 9 = -((-p).tdiv 9) := by rw [Int.neg_tdiv]; omega
    rw [e, Int.tdiv_eq_ediv_of_nonneg (by omega)]; omega

set_option maxRecDepth 100000 in
set_option maxHeartbeats 16000000 in
theorem merges_any (l m k : List Int) (hl : Fit l) (hm : Fit m) (hk : Fit k) (al am ak : Option Addr) (nl nm nk cl cm ck : Nat) (w : World) (vl : IntsV AnyB w (.slice al nl cl) l) (vm : IntsV AnyB w (.slice am nm cm) m) (vk : IntsV AnyB w (.slice ak nk ck) k)
    (p1 p2 p3 : Int) (h1 : -9223372036854775808 ≤ p1 ∧ p1 ≤ 9223372036854775807) (h2 : -9223372036854775808 ≤ p2 ∧ p2 ≤ 9223372036854775807) (h3 : -9223372036854775808 ≤ p3 ∧ p3 ≤ 9223372036854775807) :
    Calls Try.prog 3 #[.slice al nl cl, .slice am nm cm, .slice ak nk ck, .int .i64 p1, .int .i64 p2, .int .i64 p3] w fun e w' => e = .returned (.bool true) ∧ Below w.heap.size w w' := by
  have sl := shapeL_ok l
  have A0 := worldL_shape (shapeL l) l sl
  have B0 := worldL_shape (shapeL l) m sl
  go_enter Try.func3, Try.ntmps3
  go_wp2_with fail
  refine (shape_any l hl _ _ w vl).mono ?_
  rintro e w1 ⟨s, rfl, hs, b1⟩
  have hs' := IntsV.mono (S' := AnyB) hs (fun _ _ _ => trivial)
  obtain ⟨as_, cs_, rfl, -, -, -⟩ := hs'.form
  have vl1 : IntsV AnyB w1 _ l := vl.keep (KeepS.below b1)
  go_wp2_with fail
  refine (world_any (shapeL l) sl l hl _ _ _ _ w1 hs' vl1).mono ?_
  rintro e w2 ⟨va, rfl, ha, b2⟩
  have hA2 := WorldV.mono (S' := AnyB) ha (fun _ _ _ => trivial)
  have b02 : Below w.heap.size w w2 := b1.trans (b2.mono b1.size)
  have HA2 := hid hA2
  have HS2 := hid (IntsV.keep hs' (KeepS.below b2))
  have HM2 := hid (vm.keep (KeepS.below b02))
  have HK2 := hid (vk.keep (KeepS.below b02))
  have B02 := hid b02
  generalize worldL (shapeL l) l = A at *
  have hSA := A0.small sl
  obtain ⟨xa, ya, rfl, -⟩ := hA2.form
  clear vl vl1 vm vk hs hs' ha b1 b2 hA2 b02
  go_wp2_with fail
  refine (near_any _ (shapeL l) m A0 sl (shapeL_pos l) hm _ _ _ _ _ _ w2 HA2.out HS2.out HM2.out).mono ?_
  rintro e w3 ⟨vn, Wa, rfl, hn, N1, bn⟩
  have HN3 := hid (WorldV.mono (S' := AnyB) (WorldF.sl hn) (fun _ _ _ => trivial))
  have HA3 := hid (WorldV.keep HA2.out (KeepS.below bn))
  have hSN1 := N1.small sl
  have n1 := diffC_len_small A0 N1 sl
  have G1 := hid (diffC_good A0 N1 sl)
  obtain ⟨xn, yn, rfl, -⟩ := HN3.out.form
  go_wp2_with fail
  refine (rdiff_any A Wa hSA hSN1 _ _ AnyB AnyB w3 HA3.out HN3.out).mono ?_
  rintro e w4 ⟨z1, rfl, hz, bd⟩
  have HZ14 := hid hz
  have HA4 := hid (WorldV.keep HA3.out (KeepS.below bd))
  have HS4 := hid (IntsV.keep (IntsV.keep HS2.out (KeepS.below bn)) (KeepS.below bd))
  have HM4 := hid (IntsV.keep (IntsV.keep HM2.out (KeepS.below bn)) (KeepS.below bd))
  have HK4 := hid (IntsV.keep (IntsV.keep HK2.out (KeepS.below bn)) (KeepS.below bd))
  have B04 := hid (B02.out.trans ((bn.trans (bd.mono bn.size)).mono B02.out.size))
  obtain ⟨q1, r1, rfl, -⟩ := hz.form
  clear hn bn hz bd HN3 HA3 HA2 HS2 HM2 HK2 B02
  go_wp2_with fail
  refine (near_any _ (shapeL l) k A0 sl (shapeL_pos l) hk _ _ _ _ _ _ w4 HA4.out HS4.out HK4.out).mono ?_
  rintro e w5 ⟨vn, Wb, rfl, hn, N2, bn⟩
  have HN5 := hid (WorldV.mono (S' := AnyB) (WorldF.sl hn) (fun _ _ _ => trivial))
  have HA5 := hid (WorldV.keep HA4.out (KeepS.below bn))
  have hSN2 := N2.small sl
  have n2 := diffC_len_small A0 N2 sl
  have G2 := hid (diffC_good A0 N2 sl)
  obtain ⟨xn, yn, rfl, -⟩ := HN5.out.form
  go_wp2_with fail
  refine (rdiff_any A Wb hSA hSN2 _ _ AnyB AnyB w5 HA5.out HN5.out).mono ?_
  rintro e w6 ⟨z2, rfl, hz, bd⟩
  have HZ26 := hid hz
  have HA6 := hid (WorldV.keep HA5.out (KeepS.below bd))
  have HS6 := hid (IntsV.keep (IntsV.keep HS4.out (KeepS.below bn)) (KeepS.below bd))
  have HM6 := hid (IntsV.keep (IntsV.keep HM4.out (KeepS.below bn)) (KeepS.below bd))
  have HK6 := hid (IntsV.keep (IntsV.keep HK4.out (KeepS.below bn)) (KeepS.below bd))
  have HZ16 := hid (ChV.keep (ChV.keep HZ14.out (KeepS.below bn)) (KeepS.below bd))
  have B06 := hid (B04.out.trans ((bn.trans (bd.mono bn.size)).mono B04.out.size))
  obtain ⟨q2, r2, rfl, -⟩ := hz.form
  clear hn bn hz bd HN5 HA5 HA4 HS4 HM4 HK4 B04 HZ14
  go_wp2_with fail
  refine (world_any (shapeL l) sl m hm _ _ _ _ w6 HS6.out HM6.out).mono ?_
  rintro e w7 ⟨vb, rfl, hb, b7⟩
  have HB7 := hid (WorldV.mono (S' := AnyB) hb (fun _ _ _ => trivial))
  have B67 := hid b7
  generalize worldL (shapeL l) m = Bw at *
  have hSB := B0.small sl
  have n3 := diffC_len_small A0 B0 sl
  have G3 := hid (diffC_good A0 B0 sl)
  clear hb b7
  have HA7 := hid (WorldV.keep HA6.out (KeepS.below B67.out))
  obtain ⟨xb, yb, rfl, -⟩ := HB7.out.form
  go_wp2_with fail
  refine (rdiff_any A Bw hSA hSB _ _ AnyB AnyB w7 HA7.out HB7.out).mono ?_
  rintro e w8 ⟨z3, rfl, hz3, b8⟩
  have B68 := hid (B67.out.trans (b8.mono B67.out.size))
  have HZ38 := hid hz3
  have HZ18 := hid (ChV.keep HZ16.out (KeepS.below B68.out))
  have HZ28 := hid (ChV.keep HZ26.out (KeepS.below B68.out))
  have B08 := hid (B06.out.trans (B68.out.mono B06.out.size))
  obtain ⟨q3, r3, rfl, -⟩ := hz3.form
  clear hz3 b8 HA6 HA7 HB7 HS6 HM6 HZ16 HZ26 B67 B68 A0 B0 N1 N2
  go_wp2_with fail
  refine (bent_any (diffC A Wa) (by omega) G1.out p1 p2 p3 h1.1 h1.2 h2.1 h2.2 h3.1 h3.2 _ AnyB w8 HZ18.out).mono ?_
  rintro e w9 ⟨z4, rfl, D, hz4, hDl, hDg, b9⟩
  have GD := hid hDg
  have HZ49 := hid hz4
  have HZ19 := hid (ChV.keep HZ18.out (KeepS.below b9))
  have HZ29 := hid (ChV.keep HZ28.out (KeepS.below b9))
  have HZ39 := hid (ChV.keep HZ38.out (KeepS.below b9))
  have B09 := hid (B08.out.trans (b9.mono B08.out.size))
  obtain ⟨q4, r4, rfl, -⟩ := hz4.form
  clear hz4 b9 HZ18 HZ28 HZ38 hDg B08
  have ht9 := tdiv9 h2.1 h2.2
  go_wp2_with fail
  refine (bent_any D (by omega) GD.out p3 (p2.tdiv 9) p1 h3.1 h3.2 ht9.1 ht9.2 h1.1 h1.2 _ AnyB w9 HZ49.out).mono ?_
  rintro e w10 ⟨z5, rfl, E, hz5, hEl, hEg, b10⟩
  have GE := hid hEg
  obtain ⟨q5, r5, rfl, -⟩ := hz5.form
  have HLs := hid (lit6C w10 27 (ChV.keep HZ19.out (KeepS.below b10)) (ChV.keep HZ29.out (KeepS.below b10)) (ChV.keep HZ39.out (KeepS.below b10)) (ChV.keep HZ49.out (KeepS.below b10)) hz5 (ChV.nil AnyB w10))
  have hgs := heap_new w10 (.cells #[.slice q1 (diffC A Wa).length r1, .slice q2 (diffC A Wb).length r2, .slice q3 (diffC A Bw).length r3, .slice q4 D.length r4, .slice q5 E.length r5, .slice none 0 0] 27) rfl
  have B010 := hid (B09.out.trans (b10.mono B09.out.size))
  have B012 : Hid (Below w.heap.size w (w10.alloc (.cells #[.slice q1 (diffC A Wa).length r1, .slice q2 (diffC A Wb).length r2, .slice q3 (diffC A Bw).length r3, .slice q4 D.length r4, .slice q5 E.length r5, .slice none 0 0] 27))) := hid (B010.out.alloc B010.out.size _)
  obtain ⟨Ls, hLs⟩ : ∃ Ls, Ls = [diffC A Wa, diffC A Wb, diffC A Bw, D, E, []] := ⟨_, rfl⟩
  have hvals : Hid (∀ j (h : j < Ls.length), Ls[j].length ≤ 1000 ∧ GoodL Ls[j]) := hid (by
    subst hLs
    intro j hj
    match j, hj with
    | 0, _ => exact ⟨by simp; omega, G1.out⟩
    | 1, _ => exact ⟨by simp; omega, G2.out⟩
    | 2, _ => exact ⟨by simp; omega, G3.out⟩
    | 3, _ => exact ⟨by simp; omega, GD.out⟩
    | 4, _ => exact ⟨by simp; omega, GE.out⟩
    | 5, _ => exact ⟨by simp, goodL_nil⟩)
  have hL6 : Ls.length = 6 := by rw [hLs]; rfl
  rw [← hLs] at HLs
  have HGS : Hid (w10.heap.size < (w10.alloc (.cells #[.slice q1 (diffC A Wa).length r1, .slice q2 (diffC A Wb).length r2, .slice q3 (diffC A Bw).length r3, .slice q4 D.length r4, .slice q5 E.length r5, .slice none 0 0] 27)).heap.size) := hid (Array.getElem?_eq_some_iff.1 hgs).1
  clear hz5 b10 HZ19 HZ29 HZ39 HZ49 hEg GE GD G1 G2 G3 hLs hDl hEl n1 n2 n3 ht9 hgs B09 B010 hSA hSB hSN1 hSN2
  obtain ⟨w12, hw12⟩ : ∃ w12, w12 = w10.alloc (.cells #[.slice q1 (diffC A Wa).length r1, .slice q2 (diffC A Wb).length r2, .slice q3 (diffC A Bw).length r3, .slice q4 D.length r4, .slice q5 E.length r5, .slice none 0 0] 27) := ⟨_, rfl⟩
  rw [← hw12] at HLs B012 HGS
  go_wp2
  rw [← hw12]
  obtain ⟨N9, hN9⟩ : ∃ n, n = w10.heap.size := ⟨_, rfl⟩
  rw [← hN9]
  rw [← hN9] at HLs HGS
  clear hw12 hN9
  go_loopw [23] (fun i wr => ∃ q : Nat, q ≤ 6 ∧ i = .int .i64 q ∧ Hid (Below w12.heap.size w12 wr)) (fun i _ => 6 - (intOf i).toNat)
  case atStart => exact ⟨0, by omega, rfl, hid (Below.refl _ _)⟩
  case round =>
    obtain ⟨q, hq, rfl, HB⟩ := hrel
    by_cases hlt : q < 6
    · have hql : q < Ls.length := by omega
      obtain ⟨hLl, hLg⟩ := hvals.out q hql
      have HAT := hid (fun W (h : Below w12.heap.size w12 W) => (SlV.keep HLs.out (KeepS.below h) (fun u x h' => ChV.keep h' (KeepS.below h))).at (hL6 ▸ hql : q < Ls.length))
      generalize Ls[q] = L at *
      have hq6 : (q : Int) < 6 := by omega
      have hq0 : (0 : Int) ≤ q := by omega
      go_wp2
      go_loopw [24] (fun i wr => ∃ p : Nat, p ≤ 6 ∧ i = .int .i64 p ∧ Hid (Below w12.heap.size w12 wr)) (fun i _ => 6 - (intOf i).toNat)
      case atStart => exact ⟨0, by omega, rfl, HB⟩
      case round =>
        clear HB
        obtain ⟨p, hp, rfl, HB⟩ := hrel
        by_cases hlt2 : p < 6
        · have hpl : p < Ls.length := by omega
          obtain ⟨hMl, hMg⟩ := hvals.out p hpl
          have HAM := hid (fun W (h : Below w12.heap.size w12 W) => (SlV.keep HLs.out (KeepS.below h) (fun u x h' => ChV.keep h' (KeepS.below h))).at (hL6 ▸ hpl : p < Ls.length))
          generalize Ls[p] = M at *
          have hp3 : (p : Int) < 6 := by omega
          have hp0 : (0 : Int) ≤ p := by omega
          obtain ⟨uL, hcL, hbL, hrL⟩ := HAT.out wr HB.out
          obtain ⟨uM, hcM, hbM, hrM⟩ := HAM.out wr HB.out
          simp only [slb_some, slo_some, Nat.zero_add] at hcL hbL hcM hbM
          obtain ⟨aL, cL, rfl, -⟩ := hrL.form
          obtain ⟨aM, cM, rfl, -⟩ := hrM.form
          have HRL := hid hrL
          have HRM := hid hrM
          have HCL := hid hcL
          have HCM := hid hcM
          have HB1 := hid (below_drewN (Below.refl wr.heap.size wr) 1)
          clear hrL hrM
          go_wp2
          have hg := Grew.cell (w := wr)
          refine wp_region_grewS 15 [(true, 0), (true, 1), (true, 2), (true, 3), (true, 5), (true, 6), (true, 7), (true, 8), (false, 4), (false, 9), (false, 10), (true, 11), (true, 12), (true, 13), (true, 14)] (by kernel_rfl) (by kernel_rfl) ?_
          refine wpSteps_pre 4 (by decide) ?_
          simp only [List.take_succ_cons, List.take_zero]
          repeat (go_big_quiet_step (fail))
          refine wpQuiet_nil ?_
          iterate 4 (refine wpSteps_quiet rfl ?_; repeat (go_big_quiet_step (fail)); refine wpQuiet_nil ?_)
          refine wpSteps_one rfl ?_
          clear hg hcL hcM
          go_wp2_with fail
          refine (own_any L (by omega) _ AnyB _ (HRL.out.keep (KeepS.below HB1.out))).mono ?_
          rintro e w13 ⟨y, rfl, hy, b13⟩
          obtain ⟨ay, cy, rfl, -⟩ := hy.form
          have HBB := hid (HB1.out.trans (b13.mono HB1.out.size))
          have HY := hid hy
          clear hy b13
          go_wp2
          refine qn_mk ⟨InGrew.of HBB.out, ?_⟩
          refine wpSteps_one rfl ?_
          go_wp2_with fail
          refine (own_any M (by omega) _ AnyB w13 (HRM.out.keep (KeepS.below HBB.out))).mono ?_
          rintro e w14 ⟨y2, rfl, hy2, b14⟩
          obtain ⟨ay2, cy2, rfl, -⟩ := hy2.form
          have HBB2 := hid (HBB.out.trans (b14.mono HBB.out.size))
          have HY2 := hid hy2
          have HY1 := hid (ChV.keep HY.out (KeepS.below b14))
          clear hy2 b14 HY
          go_wp2
          refine qn_mk ⟨InGrew.of HBB2.out, ?_⟩
          refine wpSteps_one rfl ?_
          go_wp2_with fail
          refine (pmerge_any L M (by omega) (by omega) hLg hMg _ _ AnyB AnyB w14 HY1.out HY2.out).mono ?_
          rintro e w15 ⟨x, rfl, hx, b15⟩
          obtain ⟨ax, cx, rfl, -⟩ := hx.form
          have HBB3 := hid (HBB2.out.trans (b15.mono HBB2.out.size))
          have HX := hid hx
          clear hx b15 HY1 HY2 HBB HBB2 HB1
          go_wp2
          refine qn_mk ⟨InGrew.of HBB3.out, ?_⟩
          iterate 4 (refine wpSteps_quiet rfl ?_; repeat (go_big_quiet_step (fail)); refine wpQuiet_nil ?_)
          refine wpSteps_done ?_
          have hcL := cell_later HBB3.out HCL.out
          have hcM := cell_later HBB3.out HCM.out
          have HRL15 := hid (ChV.keep HRL.out (KeepS.below HBB3.out))
          have HRM15 := hid (ChV.keep HRM.out (KeepS.below HBB3.out))
          have HB15 := hid (HB.out.trans (HBB3.out.mono HB.out.size))
          have hbN : N9 < w15.heap.size := Nat.lt_of_lt_of_le HGS.out HB15.out.size
          have HLX := hid (mergeL_len (cs := L) (ds := M))
          clear HRL HRM HCL HCM hbL hbM
          obtain ⟨ML, hML⟩ : ∃ ML, mergeL L M = ML := ⟨_, rfl⟩
          have HML := hid hML
          rw [hML] at HX HLX ⊢
          clear hML
          obtain ⟨me, hme⟩ : ∃ me, mergeE L M = me := ⟨_, rfl⟩
          have HME := hid hme
          rw [hme]
          clear hme
          go_wp2
          have hg := Grew.cell (w := w15)
          refine wp_region_grewS 13 [(true, 0), (true, 1), (true, 2), (true, 3), (true, 4), (true, 5), (true, 6), (true, 7), (false, 8), (true, 9), (true, 10), (true, 11), (true, 12)] (by kernel_rfl) (by kernel_rfl) ?_
          refine wpSteps_pre 8 (by decide) ?_
          simp only [List.take_succ_cons, List.take_zero]
          repeat (go_big_quiet_step (fail))
          refine wpQuiet_nil ?_
          refine wpSteps_one rfl ?_
          clear hg hcL hcM
          have HD15 := hid (below_drewN (Below.refl w15.heap.size w15) 1)
          go_wp2_with fail
          refine (rmerge_any L M (by omega) (by omega) hLg hMg _ _ AnyB AnyB _ (ChV.keep HRL15.out (KeepS.below HD15.out)) (ChV.keep HRM15.out (KeepS.below HD15.out))).mono ?_
          rw [HME.out]
          rintro e w16 ⟨y, rfl, hy, b16⟩
          have HBB := hid (HD15.out.trans (b16.mono HD15.out.size))
          have hML : mergeL L M = ML := HML.out
          rw [hML] at hy
          obtain ⟨ay, cy, rfl, -⟩ := hy.form
          have HY := hid hy
          have HX16 := hid (ChV.keep HX.out (KeepS.below HBB.out))
          have HB16 := hid (HB15.out.trans (HBB.out.mono HB15.out.size))
          clear hy b16 hML HX HB15 HRL15 HRM15
          go_wp2
          refine qn_mk ⟨InGrew.of HBB.out, ?_⟩
          iterate 4 (refine wpSteps_quiet rfl ?_; repeat (go_big_quiet_step (fail)); refine wpQuiet_nil ?_)
          refine wpSteps_done ?_
          have hne : (me != me) = false := bneF rfl
          clear HBB
          go_wp2_with fail
          refine (plain_any ML (by have := HLX.out; omega) _ AnyB w16 HX16.out).mono ?_
          rintro e w17 ⟨x2, rfl, hx2, b17⟩
          obtain ⟨ax2, cx2, rfl, -⟩ := hx2.form
          have HX17 := hid hx2
          have HY17 := hid (ChV.keep HY.out (KeepS.below b17))
          have HB17 := hid (HB16.out.trans (b17.mono HB16.out.size))
          clear hx2 b17 HX16 HY HB16
          go_wp2_with fail
          refine (sameAll_any ML ML _ _ AnyB AnyB w17 HX17.out HY17.out).mono ?_
          rw [decide_eq_true (rfl : ML = ML)]
          rintro e w18 ⟨rfl, b18⟩
          have HB18 := hid (HB17.out.trans (b18.mono HB17.out.size))
          clear b18
          go_wp2
          go_roundw
          case rel => exact ⟨p + 1, by omega, by go_num, HB18⟩
          case measure => simp [intOf]; omega
        · obtain rfl : p = 6 := by omega
          go_wp2
          go_roundw
          case rel => exact ⟨q + 1, by omega, by go_num, HB⟩
          case measure => simp [intOf]; omega
    · obtain rfl : q = 6 := by omega
      go_wp2_with fail
      refine (lives_any wr).mono ?_
      rintro e w19 ⟨rfl, b19⟩
      have HB19 := hid (B012.out.trans ((HB.out.trans (b19.mono HB.out.size)).mono B012.out.size))
      clear b19
      go_wp2
      go_ret
      exact ⟨rfl, HB19.out⟩

end Go.Proofs.Yteepdnamkcgndaa
