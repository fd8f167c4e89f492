/- CoverLeast: the walk. -/
import Derived.Test.YtjaejnacdanpkaaDoorC59
namespace Go.Proofs.YtjaejnacdanpkaaDoor
open Go.RowKit

attribute [local go_sem] Oper.semAt_some

theorem cC_cover {sz : List Int} {F : List (List Int)} {t : Int} (hv : validE sz F t = 0) : cC sz F t (cR sz F t) (cL sz F t) (cW sz F t) = 0 := by
  unfold cC cR cL cW chkE
  rw [if_pos hv, if_pos hv, if_pos hv, if_pos hv, if_pos (Cov.check_cover _ _ _)]
theorem cM_le {sz : List Int} {F : List (List Int)} {t : Int} (hv : validE sz F t = 0) : ¬ ((cR sz F t).length : Int) < cM sz F t := by
  unfold cM cR
  rw [if_pos hv, if_pos hv]
  have := Cov.least_le (nats sz) F t.toNat
  omega

set_option maxRecDepth 100000 in
set_option maxHeartbeats 4000000 in
theorem least_any (l : List Int) (hl : Fit l) (v : Value) (S : Nat → Prop) (p1 p2 p3 : Int) (a1 : -9223372036854775808 ≤ p1 ∧ p1 ≤ 9223372036854775807) (a2 : -9223372036854775808 ≤ p2 ∧ p2 ≤ 9223372036854775807) (a3 : -9223372036854775808 ≤ p3 ∧ p3 ≤ 9223372036854775807) (w : World) (hv : IntsV S w v l) (hT : TabD w) :
    Calls Tryd.prog 5 #[v, .int .i64 p1, .int .i64 p2, .int .i64 p3] w fun e w' => e = .returned (.bool true) ∧ Below w.heap.size w w' := by
  obtain ⟨a, cap, rfl, hok, hcap, hmax⟩ := hv.form
  go_enter Tryd.func5, Tryd.ntmps5
  go_wp2_with fail
  refine (made_any l hl _ S w hv).mono ?_
  rintro e w1 ⟨ns, F, tn, sv, fv, rfl, m1, m2, m3, m4, m5, m6, m7, m8, hs1, hf1, hb1⟩
  have hP1 : PV w1 sv fv (szI ns) F := ⟨hs1.mono (fun _ _ _ => trivial), RowsV.mono hf1 (fun _ _ _ => trivial), by simp [szI]; omega, by omega, comboB_short m3 m5⟩
  obtain ⟨sa, sn, sc, rfl⟩ : ∃ a n c, sv = .slice a n c := by obtain ⟨a, c, h, -⟩ := hs1.form; exact ⟨_, _, _, h⟩
  obtain ⟨fa, fn, fc, rfl⟩ : ∃ a n c, fv = .slice a n c := by obtain ⟨a, c, h, -⟩ := hf1.form; exact ⟨_, _, _, h⟩
  have hb2 : Below w1.heap.size w1 (w1.alloc (.cells #[.slice sa sn sc, .slice fa fn fc, .int .i64 tn] 25)) := (Below.refl _ _).alloc (Nat.le_refl _) _
  have hbx : (w1.alloc (.cells #[.slice sa sn sc, .slice fa fn fc, .int .i64 tn] 25)).heap[w1.heap.size]? = some (.cells #[.slice sa sn sc, .slice fa fn fc, .int .i64 tn] 25 (0, 0)) := heap_new _ _ rfl
  have hP2 := hP1.below hb2
  have hb02 := hb1.trans (hb2.mono hb1.size)
  have hT2 := hT.below hb02 hT.lt
  go_wp2_with fail
  generalize World.alloc w1 _ = W2 at *
  have hgw : w1.heap.size < W2.heap.size := (Array.getElem?_eq_some_iff.1 hbx).1
  have x0 : ∀ x : Grew W2, x.1.cell? ⟨w1.heap.size, 0, none⟩ = some (.slice sa sn sc) := fun x => (x.cell _ _ hgw).trans (row3 hbx).1
  have x1 : ∀ x : Grew W2, x.1.cell? ⟨w1.heap.size, 1, none⟩ = some (.slice fa fn fc) := fun x => (x.cell _ _ hgw).trans (row3 hbx).2.1
  have x2 : ∀ x : Grew W2, x.1.cell? ⟨w1.heap.size, 2, none⟩ = some (.int .i64 tn) := fun x => (x.cell _ _ hgw).trans (row3 hbx).2.2.1
  have hdr : Below W2.heap.size W2 (W2.drewN 1) := below_drewN (Below.refl _ _) 1
  have hP3 := hP2.below hdr
  have HBt := hid (bent_any (szI ns) (by simp [szI]; omega) (by simp [szI]; omega) F (by omega) (fun f hf => by have := Cov.comboB_len ns f (m5 f hf).1; omega) tn p1 p2 p3 a1.1 a1.2 a2.1 a2.2 a3.1 a3.2 _ _ AnyB AnyB (W2.drewN 1) hP3.1 hP3.2.1)
  have HP2 := hid hP2
  have HT2 := hid hT2
  have HB02 := hid hb02
  clear hP2 hT2 hb02 hP3 hP1 hT hs1 hf1 hb1 hb2 hv hbx
  refine wp_region_grewS 6 [(true, 0), (true, 1), (true, 2), (true, 3), (true, 4), (false, 5)] (by kernel_rfl) (by kernel_rfl) ?_
  refine wpSteps_pre 5 (by decide) ?_
  simp only [List.take_succ_cons, List.take_zero]
  repeat (go_big_quiet_step (fail))
  refine wpQuiet_nil ?_
  refine wpSteps_one rfl ?_
  clear x0 x1 x2
  go_wp2_with fail
  refine HBt.out.mono ?_
  rintro e w3 ⟨zs, G, t', xs, xf, rfl, z1, z2, z3, z4, z5, hb3⟩
  have hb23 : Below W2.heap.size W2 w3 := hdr.trans hb3
  obtain ⟨ya, yn, yc, rfl⟩ : ∃ a n c, xs = .slice a n c := by obtain ⟨a, c, h, -⟩ := z4.form; exact ⟨_, _, _, h⟩
  obtain ⟨ga, gn, gc, rfl⟩ : ∃ a n c, xf = .slice a n c := by obtain ⟨a, c, h, -⟩ := z5.form; exact ⟨_, _, _, h⟩
  have hPb : PV w3 (.slice ya yn yc) (.slice ga gn gc) zs G := ⟨z4, z5, z1, z2, z3⟩
  go_wp2
  refine qn_mk ⟨InGrew.of hb23, ?_⟩
  refine wpSteps_done ?_
  simp only [List.drop_succ_cons, List.drop_zero]
  have hb4 : Below w3.heap.size w3 (w3.alloc (.cells #[.slice sa sn sc, .slice fa fn fc, .int .i64 tn, .slice ya yn yc, .slice ga gn gc, .int .i64 t'] 25)) := (Below.refl _ _).alloc (Nat.le_refl _) _
  have HL : Hid (ListV (w3.alloc (.cells #[.slice sa sn sc, .slice fa fn fc, .int .i64 tn, .slice ya yn yc, .slice ga gn gc, .int .i64 t'] 25)) w3.heap.size) := hid (ListV.mk' (heap_new _ _ rfl) ((HP2.out.below hb23).below hb4) (hPb.below hb4))
  have HB4 := hid (HB02.out.trans ((hb23.trans (hb4.mono hb23.size)).mono HB02.out.size))
  have HT4 := hid ((HT2.out.below hb23 HT2.out.lt).below hb4 (Nat.lt_of_lt_of_le HT2.out.lt hb23.size))
  clear hb23 hb3 hb4 hPb z4 z5 HBt hdr hgw HB02
  go_wp2
  generalize World.alloc w3 _ = W5 at *
  go_loopw [11] (fun i wr => ∃ k : Nat, i = .int .i64 k ∧ k ≤ 2 ∧ Hid (ListV wr w3.heap.size ∧ Below w.heap.size w wr ∧ TabD wr)) (fun i _ => 2 - (intOf i).toNat)
  case atStart => exact ⟨0, rfl, by omega, hid ⟨HL.out, HB4.out, HT4.out⟩⟩
  case round =>
    obtain ⟨k, rfl, hk, HR⟩ := hrel
    by_cases hlt : k < 2
    · have hk0 : (0 : Int) ≤ k := by omega
      have hk1 : (k : Int) < 2 := by omega
      obtain ⟨r1, r2, r3⟩ := HR.out
      obtain ⟨ua, un, uc, ha, hn, hc, t, sz, H, q1, q2, q3, q4⟩ := r1.2 k hlt
      have hba : Below wr.heap.size wr (wr.alloc (.cells #[.slice ua un uc, .slice ha hn hc, .int .i64 t] 25)) := (Below.refl _ _).alloc (Nat.le_refl _) _
      have hbx : (wr.alloc (.cells #[.slice ua un uc, .slice ha hn hc, .int .i64 t] 25)).heap[wr.heap.size]? = some (.cells #[.slice ua un uc, .slice ha hn hc, .int .i64 t] 25 (0, 0)) := heap_new _ _ rfl
      have HL6 := hid (r1.below hba)
      have HQ := hid (q1.below hba)
      have HT5 := hid (r3.below hba r3.lt)
      have HB5 := hid (r2.trans (hba.mono r2.size))
      clear r1 r2 r3 q1 hba
      go_wp2_with fail
      generalize wr.alloc (.cells #[.slice ua un uc, .slice ha hn hc, .int .i64 t] 25) = W6 at *
      clear q2 q3 q4
      have hgw : wr.heap.size < W6.heap.size := (Array.getElem?_eq_some_iff.1 hbx).1
      have HBX := hid hbx
      have x0 : ∀ x : Grew W6, x.1.cell? ⟨wr.heap.size, 0, none⟩ = some (.slice ua un uc) := fun x => (x.cell _ _ hgw).trans (row3 hbx).1
      have x1 : ∀ x : Grew W6, x.1.cell? ⟨wr.heap.size, 1, none⟩ = some (.slice ha hn hc) := fun x => (x.cell _ _ hgw).trans (row3 hbx).2.1
      have x2 : ∀ x : Grew W6, x.1.cell? ⟨wr.heap.size, 2, none⟩ = some (.int .i64 t) := fun x => (x.cell _ _ hgw).trans (row3 hbx).2.2.1
      have hdr : Below W6.heap.size W6 (W6.drewN 1) := below_drewN (Below.refl _ _) 1
      clear hbx
      go_wp2
      refine wp_region_grewS 12 [(true, 0), (true, 1), (true, 2), (true, 3), (true, 5), (true, 6), (false, 4), (false, 7), (true, 8), (true, 9), (true, 10), (true, 11)] (by kernel_rfl) (by kernel_rfl) ?_
      refine wpSteps_pre 4 (by decide) ?_
      simp only [List.take_succ_cons, List.take_zero]
      repeat (go_big_quiet_step (fail))
      refine wpQuiet_nil ?_
      iterate 2 (refine wpSteps_quiet rfl ?_; repeat (go_big_quiet_step (fail)); refine wpQuiet_nil ?_)
      refine wpSteps_one rfl ?_
      clear x0 x1 x2
      go_wp2_with fail
      refine (combos_any H (by have := HQ.out.2.2.2.1; omega) _ AnyB (W6.drewN 1) (RowsV.keep HQ.out.2.1 (KeepS.below hdr))).mono ?_
      rintro e w7 ⟨x7, rfl, ho7, hb7⟩
      have hb67 : Below W6.heap.size W6 w7 := hdr.trans (hb7.mono hdr.size)
      have HF7 := hid ho7.any
      obtain ⟨ca, cn, cc, rfl⟩ : ∃ a n c, x7 = .slice a n c := by obtain ⟨a, c, h, -⟩ := ho7.any.form; exact ⟨_, _, _, h⟩
      clear ho7 hb7
      go_wp2
      refine qn_mk ⟨InGrew.of hb67, ?_⟩
      refine wpSteps_one rfl ?_
      go_wp2_with fail
      refine (pleast_all sz HQ.out.2.2.1 H t _ _ AnyB AnyB w7 (HQ.out.1.keep (KeepS.below hb67)) HF7.out (HT5.out.below hb67 HT5.out.lt)).mono ?_
      rintro e w8 ⟨rfl, hb8⟩
      have hb68 := hb67.trans (hb8.mono hb67.size)
      have HEv : Hid (validE sz H t = 0 → cC sz H t (cR sz H t) (cL sz H t) (cW sz H t) = 0 ∧ ¬ ((cR sz H t).length : Int) < cM sz H t) := hid (fun hv => ⟨cC_cover hv, cM_le hv⟩)
      have HRl : Hid (∀ W (hs : IntsV AnyB W (.slice ua un uc) sz) (hf : RowsV AnyB W (.slice ha hn hc) H), Calls Tryd.prog 21 #[.agg #[.slice ua un uc, .slice ha hn hc, .int .i64 t]] W fun e w' => e = .returned (.tuple #[.int .i64 (cM sz H t), .int .i64 (validE sz H t)]) ∧ Below W.heap.size W w') := hid (fun W hs hf => rleast_all sz HQ.out.2.2.1 H HQ.out.2.2.2.1 HQ.out.2.2.2.2 t _ _ AnyB AnyB W hs hf)
      have HPc : Hid (∀ W (fv : Value) (hs : IntsV AnyB W (.slice ua un uc) sz) (hf : RowsV AnyB W fv H) (hT : TabD W), Calls Tryd.prog 11 #[.slice ua un uc, fv, .int .i64 t] W fun e w' => ∃ x y z, e = .returned (.tuple #[x, y, z, .int .i64 (validE sz H t)]) ∧ RowsV AnyB w' x (cR sz H t) ∧ RowsV AnyB w' y (cL sz H t) ∧ RowsV AnyB w' z (cW sz H t) ∧ Below W.heap.size W w') := hid (fun W fv hs hf hT => pcover_any sz HQ.out.2.2.1 H t _ _ AnyB AnyB W hs hf hT)
      generalize validE sz H t = ev at *
      generalize cM sz H t = M at *
      generalize cR sz H t = R at *
      generalize cL sz H t = L at *
      generalize cW sz H t = Y at *
      clear hb8
      go_wp2
      refine qn_mk ⟨InGrew.of hb68, ?_⟩
      iterate 4 (refine wpSteps_quiet rfl ?_; repeat (go_big_quiet_step (fail)); refine wpQuiet_nil ?_)
      refine wpSteps_done ?_
      simp only [List.drop_succ_cons, List.drop_zero]
      have u0 := (hb68.cell (p := ⟨wr.heap.size, 0, none⟩) hgw).trans (row3 HBX.out).1
      have u1 := (hb68.cell (p := ⟨wr.heap.size, 1, none⟩) hgw).trans (row3 HBX.out).2.1
      have u2 := (hb68.cell (p := ⟨wr.heap.size, 2, none⟩) hgw).trans (row3 HBX.out).2.2.1
      go_wp2_with fail
      refine (HRl.out w8 (HQ.out.1.keep (KeepS.below hb68)) (RowsV.keep HQ.out.2.1 (KeepS.below hb68))).mono ?_
      rintro e w9 ⟨rfl, hb9⟩
      have hb69 := hb68.trans (hb9.mono hb68.size)
      have hgw9 : wr.heap.size < w9.heap.size := Nat.lt_of_lt_of_le hgw hb69.size
      have HBX9 := hid ((hb69.block _ hgw).trans HBX.out)
      have HQ9 := hid (HQ.out.below hb69)
      have HT9 := hid (HT5.out.below hb69 HT5.out.lt)
      have HL9 := hid (HL6.out.below hb69)
      have HB9 := hid (HB5.out.trans (hb69.mono HB5.out.size))
      have hdr9 : Below w9.heap.size w9 (w9.drewN 1) := below_drewN (Below.refl _ _) 1
      have x0 : ∀ x : Grew w9, x.1.cell? ⟨wr.heap.size, 0, none⟩ = some (.slice ua un uc) := fun x => (x.cell _ _ hgw9).trans (row3 HBX9.out).1
      have x1 : ∀ x : Grew w9, x.1.cell? ⟨wr.heap.size, 1, none⟩ = some (.slice ha hn hc) := fun x => (x.cell _ _ hgw9).trans (row3 HBX9.out).2.1
      have x2 : ∀ x : Grew w9, x.1.cell? ⟨wr.heap.size, 2, none⟩ = some (.int .i64 t) := fun x => (x.cell _ _ hgw9).trans (row3 HBX9.out).2.2.1
      clear hb9 hb67 hb68 hb69 HRl u0 u1 u2
      go_wp2
      refine wp_region_grewS 16 [(true, 0), (true, 1), (true, 2), (true, 3), (true, 5), (true, 6), (false, 4), (false, 7), (true, 8), (true, 9), (true, 10), (true, 11), (true, 12), (true, 13), (true, 14), (true, 15)] (by kernel_rfl) (by kernel_rfl) ?_
      refine wpSteps_pre 4 (by decide) ?_
      simp only [List.take_succ_cons, List.take_zero]
      repeat (go_big_quiet_step (fail))
      refine wpQuiet_nil ?_
      iterate 2 (refine wpSteps_quiet rfl ?_; repeat (go_big_quiet_step (fail)); refine wpQuiet_nil ?_)
      refine wpSteps_one rfl ?_
      clear x0 x1 x2
      go_wp2_with fail
      refine (combos_any H (by have := HQ.out.2.2.2.1; omega) _ AnyB (w9.drewN 1) (RowsV.keep HQ9.out.2.1 (KeepS.below hdr9))).mono ?_
      rintro e w10 ⟨x10, rfl, ho10, hb10⟩
      have hb910 : Below w9.heap.size w9 w10 := hdr9.trans (hb10.mono hdr9.size)
      have HF10 := hid ho10.any
      obtain ⟨da, dn, dc, rfl⟩ : ∃ a n c, x10 = .slice a n c := by obtain ⟨a, c, h, -⟩ := ho10.any.form; exact ⟨_, _, _, h⟩
      clear ho10 hb10
      go_wp2
      refine qn_mk ⟨InGrew.of hb910, ?_⟩
      refine wpSteps_one rfl ?_
      go_wp2_with fail
      refine (HPc.out w10 _ (HQ9.out.1.keep (KeepS.below hb910)) HF10.out (HT9.out.below hb910 HT9.out.lt)).mono ?_
      rintro e w11 ⟨x, y, z, rfl, hx, hy, hz, hb11⟩
      have hb9b : Below w9.heap.size w9 w11 := hb910.trans (hb11.mono hb910.size)
      obtain ⟨xa, xc, rfl, -, -, -⟩ := hx.form
      obtain ⟨ya2, yn2, yc2, rfl⟩ : ∃ a n c, y = .slice a n c := by obtain ⟨a, c, h, -⟩ := hy.form; exact ⟨_, _, _, h⟩
      obtain ⟨za, zn, zc, rfl⟩ : ∃ a n c, z = .slice a n c := by obtain ⟨a, c, h, -⟩ := hz.form; exact ⟨_, _, _, h⟩
      have HX := hid hx
      have HY := hid hy
      have HZ := hid hz
      clear hx hy hz hb11
      go_wp2
      refine qn_mk ⟨InGrew.of hb9b, ?_⟩
      iterate 8 (refine wpSteps_quiet rfl ?_; repeat (go_big_quiet_step (fail)); refine wpQuiet_nil ?_)
      refine wpSteps_done ?_
      simp only [List.drop_succ_cons, List.drop_zero]
      have hgw11 : wr.heap.size < w11.heap.size := Nat.lt_of_lt_of_le hgw9 hb9b.size
      have HBX11 := hid ((hb9b.block _ hgw9).trans HBX9.out)
      have HQ11 := hid (HQ9.out.below hb9b)
      have HT11 := hid (HT9.out.below hb9b HT9.out.lt)
      have HL11 := hid (HL9.out.below hb9b)
      have HB11 := hid (HB9.out.trans (hb9b.mono HB9.out.size))
      have hdr11 : Below w11.heap.size w11 (w11.drewN 1) := below_drewN (Below.refl _ _) 1
      have x0 : ∀ x : Grew w11, x.1.cell? ⟨wr.heap.size, 0, none⟩ = some (.slice ua un uc) := fun x => (x.cell _ _ hgw11).trans (row3 HBX11.out).1
      have x1 : ∀ x : Grew w11, x.1.cell? ⟨wr.heap.size, 1, none⟩ = some (.slice ha hn hc) := fun x => (x.cell _ _ hgw11).trans (row3 HBX11.out).2.1
      have x2 : ∀ x : Grew w11, x.1.cell? ⟨wr.heap.size, 2, none⟩ = some (.int .i64 t) := fun x => (x.cell _ _ hgw11).trans (row3 HBX11.out).2.2.1
      clear hb910 hb9b
      by_cases hv : ev = 0
      · subst hv
        have hCk := (HEv.out rfl).1
        obtain ⟨Z, hZ⟩ : ∃ Z, Z = cC sz H t R L Y := ⟨_, rfl⟩
        have HCk : Hid (Z = 0) := hid (hZ.trans hCk)
        have HZe := hid hZ
        have hld : decide ((R.length : Int) < M) = false := decide_eq_false (Int.not_lt.2 (HEv.out rfl).2)
        clear HEv hCk hZ
        go_wp2
        refine wp_region_grewS 22 [(true, 0), (true, 1), (true, 2), (true, 3), (true, 4), (true, 5), (true, 6), (true, 7), (true, 8), (true, 9), (true, 10), (true, 11), (true, 12), (true, 13), (true, 14), (true, 15), (true, 17), (true, 18), (true, 19), (true, 20), (true, 21), (false, 16)] (by kernel_rfl) (by kernel_rfl) ?_
        refine wpSteps_pre 16 (by decide) ?_
        simp only [List.take_succ_cons, List.take_zero]
        iterate 16 (go_big_quiet_step (fail))
        refine wpQuiet_nil ?_
        iterate 5 (refine wpSteps_quiet rfl ?_; repeat (go_big_quiet_step (fail)); refine wpQuiet_nil ?_)
        refine wpSteps_one rfl ?_
        clear x0 x1 x2
        go_wp2_with fail
        refine (combos_any H (by have := HQ.out.2.2.2.1; omega) _ AnyB (w11.drewN 1) (RowsV.keep HQ11.out.2.1 (KeepS.below hdr11))).mono ?_
        rintro e w12 ⟨x12, rfl, ho12, hb12⟩
        have hbc : Below w11.heap.size w11 w12 := hdr11.trans (hb12.mono hdr11.size)
        have HF12 := hid ho12.any
        obtain ⟨ea, en, ec, rfl⟩ : ∃ a n c, x12 = .slice a n c := by obtain ⟨a, c, h, -⟩ := ho12.any.form; exact ⟨_, _, _, h⟩
        clear ho12 hb12
        go_wp2
        refine qn_mk ⟨InGrew.of hbc, ?_⟩
        refine wpSteps_done ?_
        simp only [List.drop_succ_cons, List.drop_zero]
        go_wp2_with fail
        refine (pcheck_any sz HQ.out.2.2.1 H t R L Y _ _ _ _ _ AnyB AnyB AnyB AnyB AnyB w12 (HQ11.out.1.keep (KeepS.below hbc)) HF12.out (HX.out.keep (KeepS.below hbc)) (HY.out.keep (KeepS.below hbc)) (HZ.out.keep (KeepS.below hbc)) (HT11.out.below hbc HT11.out.lt)).mono ?_
        rintro e w13 ⟨rfl, hb13⟩
        rw [← HZe.out, HCk.out]
        have hbd := hbc.trans (hb13.mono hbc.size)
        have HN : Hid (ListV w13 w3.heap.size ∧ Below w.heap.size w w13 ∧ TabD w13) := hid ⟨HL11.out.below hbd, HB11.out.trans (hbd.mono HB11.out.size), HT11.out.below hbd HT11.out.lt⟩
        clear hbc hb13 hbd hdr11
        go_wp2
        go_roundw
        case rel => exact ⟨k + 1, by go_num, by omega, HN⟩
        case measure => simp [intOf]; omega
      · have hd0 : (ev == 0) = false := beqF hv
        have hd1 : (ev != 0) = true := bneT hv
        clear hv
        go_wp2
        refine wp_region_grewS 22 [(true, 0), (true, 1), (true, 2), (true, 3), (true, 4), (true, 5), (true, 6), (true, 7), (true, 8), (true, 9), (true, 10), (true, 11), (true, 12), (true, 13), (true, 14), (true, 15), (true, 17), (true, 18), (true, 19), (true, 20), (true, 21), (false, 16)] (by kernel_rfl) (by kernel_rfl) ?_
        refine wpSteps_pre 16 (by decide) ?_
        simp only [List.take_succ_cons, List.take_zero]
        iterate 16 (go_big_quiet_step (fail))
        refine wpQuiet_nil ?_
        iterate 5 (refine wpSteps_quiet rfl ?_; repeat (go_big_quiet_step (fail)); refine wpQuiet_nil ?_)
        refine wpSteps_one rfl ?_
        go_wp2
        refine qn_mk ⟨InGrew.of hdr11, ?_⟩
        refine wpSteps_done ?_
        simp only [List.drop_succ_cons, List.drop_zero]
        have HN : Hid (ListV (w11.drewN 1) w3.heap.size ∧ Below w.heap.size w (w11.drewN 1) ∧ TabD (w11.drewN 1)) := hid ⟨HL11.out.below hdr11, HB11.out.trans (hdr11.mono HB11.out.size), HT11.out.below hdr11 HT11.out.lt⟩
        clear hdr11
        go_wp2
        go_roundw
        case rel => exact ⟨k + 1, by go_num, by omega, HN⟩
        case measure => simp [intOf]; omega
    · obtain rfl : k = 2 := by omega
      have HR2 := HR
      clear HR
      go_wp2_with fail
      refine (lives_any wr HR2.out.2.2).mono ?_
      rintro e w9 ⟨rfl, hb9⟩
      have HE := hid (HR2.out.2.1.trans (hb9.mono HR2.out.2.1.size))
      clear hb9
      go_wp2
      go_ret
      exact ⟨rfl, HE.out⟩

end Go.Proofs.YtjaejnacdanpkaaDoor
