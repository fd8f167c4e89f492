/- CoverRows: the walk. -/
import Derived.Test.YtjaejnacdanpkaaDoorB57
import Derived.Test.YtjaejnacdanpkaaDoorC56
namespace Go.Proofs.YtjaejnacdanpkaaDoor
open Go.RowKit

attribute [local go_sem] Oper.semAt_some

/-- A problem in memory. -/
def PV (W : World) (sv fv : Value) (sz : List Int) (F : List (List Int)) : Prop := IntsV AnyB W sv sz ∧ RowsV AnyB W fv F ∧ sz.length ≤ 100 ∧ F.length ≤ 100 ∧ ∀ c ∈ F, c.length ≤ 100
theorem PV.below {W W' : World} {sv fv : Value} {sz : List Int} {F : List (List Int)} (h : PV W sv fv sz F) (hb : Below W.heap.size W W') : PV W' sv fv sz F :=
  ⟨h.1.keep (KeepS.below hb), RowsV.keep h.2.1 (KeepS.below hb), h.2.2⟩
/-- The list of the two problems. -/
def ListV (W : World) (bl : Nat) : Prop := bl < W.heap.size ∧ ∀ k, k < 2 → ∃ sa sn sc fa fn fc t sz F, PV W (.slice sa sn sc) (.slice fa fn fc) sz F ∧ W.cell? ⟨bl, k * 3, none⟩ = some (.slice sa sn sc) ∧ W.cell? ⟨bl, k * 3 + 1, none⟩ = some (.slice fa fn fc) ∧ W.cell? ⟨bl, k * 3 + 2, none⟩ = some (.int .i64 t)
theorem ListV.below {W W' : World} {bl : Nat} (h : ListV W bl) (hb : Below W.heap.size W W') : ListV W' bl := by
  refine ⟨Nat.lt_of_lt_of_le h.1 hb.size, fun k hk => ?_⟩
  obtain ⟨sa, sn, sc, fa, fn, fc, t, sz, F, h1, h2, h3, h4⟩ := h.2 k hk
  exact ⟨sa, sn, sc, fa, fn, fc, t, sz, F, h1.below hb, (hb.cell (p := ⟨bl, k * 3, none⟩) h.1).trans h2, (hb.cell (p := ⟨bl, k * 3 + 1, none⟩) h.1).trans h3, (hb.cell (p := ⟨bl, k * 3 + 2, none⟩) h.1).trans h4⟩
theorem ListV.mk' {W : World} {bl : Nat} {sv fv sv' fv' : Value} {t t' : Int} {sz sz' : List Int} {F F' : List (List Int)} {T : TypeId} (h : W.heap[bl]? = some (.cells #[sv, fv, .int .i64 t, sv', fv', .int .i64 t'] T (0, 0))) (h1 : PV W sv fv sz F) (h2 : PV W sv' fv' sz' F') : ListV W bl := by
  refine ⟨(Array.getElem?_eq_some_iff.1 h).1, fun k hk => ?_⟩
  have hc : k = 0 ∨ k = 1 := by omega
  rcases hc with rfl | rfl
  · obtain ⟨a, c, rfl, -⟩ := h1.1.form
    obtain ⟨a', c', rfl, -⟩ := h1.2.1.form
    exact ⟨_, _, _, _, _, _, t, sz, F, h1, by simp [World.cell?, h], by simp [World.cell?, h], by simp [World.cell?, h]⟩
  · obtain ⟨a, c, rfl, -⟩ := h2.1.form
    obtain ⟨a', c', rfl, -⟩ := h2.2.1.form
    exact ⟨_, _, _, _, _, _, t', sz', F', h2, by simp [World.cell?, h], by simp [World.cell?, h], by simp [World.cell?, h]⟩

theorem comboB_short {ns : List Nat} {F : List (List Int)} (h4 : ns.length ≤ 4) (h : ∀ f ∈ F, Cov.comboB ns f = true ∧ Cov.vals f ≠ 0) : ∀ c ∈ F, c.length ≤ 100 := fun c hc => by
  have := Cov.comboB_len ns c (h c hc).1
  omega

set_option maxRecDepth 100000 in
set_option maxHeartbeats 4000000 in
theorem rows_any (l : List Int) (hl : Fit l) (v : Value) (S : Nat → Prop) (p1 p2 p3 : Int) (a1 : -9223372036854775808 ≤ p1 ∧ p1 ≤ 9223372036854775807) (a2 : -9223372036854775808 ≤ p2 ∧ p2 ≤ 9223372036854775807) (a3 : -9223372036854775808 ≤ p3 ∧ p3 ≤ 9223372036854775807) (w : World) (hv : IntsV S w v l) (hT : TabD w) :
    Calls Tryd.prog 3 #[v, .int .i64 p1, .int .i64 p2, .int .i64 p3] w fun e w' => e = .returned (.bool true) ∧ Below w.heap.size w w' := by
  obtain ⟨a, cap, rfl, hok, hcap, hmax⟩ := hv.form
  go_enter Tryd.func3, Tryd.ntmps3
  go_wp2_with fail
  refine (made_any l hl _ S w hv).mono ?_
  rintro e w1 ⟨ns, F, tn, sv, fv, rfl, m1, m2, m3, m4, m5, m6, m7, m8, hs1, hf1, hb1⟩
  have hP1 : PV w1 sv fv (szI ns) F := ⟨hs1.mono (fun _ _ _ => trivial), RowsV.mono hf1 (fun _ _ _ => trivial), by simp [szI]; omega, by omega, comboB_short m3 m5⟩
  obtain ⟨sa, sn, sc, rfl⟩ : ∃ a n c, sv = .slice a n c := by obtain ⟨a, c, h, -⟩ := hs1.form; exact ⟨_, _, _, h⟩
  obtain ⟨fa, fn, fc, rfl⟩ : ∃ a n c, fv = .slice a n c := by obtain ⟨a, c, h, -⟩ := hf1.form; exact ⟨_, _, _, h⟩
  have hb2 : Below w1.heap.size w1 (w1.alloc (.cells #[.slice sa sn sc, .slice fa fn fc, .int .i64 tn] 25)) := (Below.refl _ _).alloc (Nat.le_refl _) _
  have hbx : (w1.alloc (.cells #[.slice sa sn sc, .slice fa fn fc, .int .i64 tn] 25)).heap[w1.heap.size]? = some (.cells #[.slice sa sn sc, .slice fa fn fc, .int .i64 tn] 25 (0, 0)) := heap_new _ _ rfl
  have hP2 := hP1.below hb2
  have hb02 := hb1.trans (hb2.mono hb1.size)
  have hT2 := hT.below hb02 hT.lt
  go_wp2_with fail
  generalize World.alloc w1 _ = W2 at *
  have hgw : w1.heap.size < W2.heap.size := (Array.getElem?_eq_some_iff.1 hbx).1
  have x0 : ∀ x : Grew W2, x.1.cell? ⟨w1.heap.size, 0, none⟩ = some (.slice sa sn sc) := fun x => (x.cell _ _ hgw).trans (row3 hbx).1
  have x1 : ∀ x : Grew W2, x.1.cell? ⟨w1.heap.size, 1, none⟩ = some (.slice fa fn fc) := fun x => (x.cell _ _ hgw).trans (row3 hbx).2.1
  have x2 : ∀ x : Grew W2, x.1.cell? ⟨w1.heap.size, 2, none⟩ = some (.int .i64 tn) := fun x => (x.cell _ _ hgw).trans (row3 hbx).2.2.1
  have hdr : Below W2.heap.size W2 (W2.drewN 1) := below_drewN (Below.refl _ _) 1
  have hP3 := hP2.below hdr
  have HBt := hid (bent_any (szI ns) (by simp [szI]; omega) (by simp [szI]; omega) F (by omega) (fun f hf => by have := Cov.comboB_len ns f (m5 f hf).1; omega) tn p1 p2 p3 a1.1 a1.2 a2.1 a2.2 a3.1 a3.2 _ _ AnyB AnyB (W2.drewN 1) hP3.1 hP3.2.1)
  have HP2 := hid hP2
  have HT2 := hid hT2
  have HB02 := hid hb02
  clear hP2 hT2 hb02 hP3 hP1 hT hs1 hf1 hb1 hb2 hv hbx
  refine wp_region_grewS 6 [(true, 0), (true, 1), (true, 2), (true, 3), (true, 4), (false, 5)] (by kernel_rfl) (by kernel_rfl) ?_
  refine wpSteps_pre 5 (by decide) ?_
  simp only [List.take_succ_cons, List.take_zero]
  repeat (go_big_quiet_step (fail))
  refine wpQuiet_nil ?_
  refine wpSteps_one rfl ?_
  clear x0 x1 x2
  go_wp2_with fail
  refine HBt.out.mono ?_
  rintro e w3 ⟨zs, G, t', xs, xf, rfl, z1, z2, z3, z4, z5, hb3⟩
  have hb23 : Below W2.heap.size W2 w3 := hdr.trans hb3
  obtain ⟨ya, yn, yc, rfl⟩ : ∃ a n c, xs = .slice a n c := by obtain ⟨a, c, h, -⟩ := z4.form; exact ⟨_, _, _, h⟩
  obtain ⟨ga, gn, gc, rfl⟩ : ∃ a n c, xf = .slice a n c := by obtain ⟨a, c, h, -⟩ := z5.form; exact ⟨_, _, _, h⟩
  have hPb : PV w3 (.slice ya yn yc) (.slice ga gn gc) zs G := ⟨z4, z5, z1, z2, z3⟩
  go_wp2
  refine qn_mk ⟨InGrew.of hb23, ?_⟩
  refine wpSteps_done ?_
  simp only [List.drop_succ_cons, List.drop_zero]
  have hb4 : Below w3.heap.size w3 (w3.alloc (.cells #[.slice sa sn sc, .slice fa fn fc, .int .i64 tn, .slice ya yn yc, .slice ga gn gc, .int .i64 t'] 25)) := (Below.refl _ _).alloc (Nat.le_refl _) _
  have HL : Hid (ListV (w3.alloc (.cells #[.slice sa sn sc, .slice fa fn fc, .int .i64 tn, .slice ya yn yc, .slice ga gn gc, .int .i64 t'] 25)) w3.heap.size) := hid (ListV.mk' (heap_new _ _ rfl) ((HP2.out.below hb23).below hb4) (hPb.below hb4))
  have HB4 := hid (HB02.out.trans ((hb23.trans (hb4.mono hb23.size)).mono HB02.out.size))
  have HT4 := hid ((HT2.out.below hb23 HT2.out.lt).below hb4 (Nat.lt_of_lt_of_le HT2.out.lt hb23.size))
  clear hb23 hb3 hb4 hPb z4 z5 HBt hdr hgw HB02
  go_wp2
  generalize World.alloc w3 _ = W5 at *
  go_loopw [11] (fun i wr => ∃ k : Nat, i = .int .i64 k ∧ k ≤ 2 ∧ Hid (ListV wr w3.heap.size ∧ Below w.heap.size w wr ∧ TabD wr)) (fun i _ => 2 - (intOf i).toNat)
  case atStart => exact ⟨0, rfl, by omega, hid ⟨HL.out, HB4.out, HT4.out⟩⟩
  case round =>
    obtain ⟨k, rfl, hk, HR⟩ := hrel
    by_cases hlt : k < 2
    · have hk0 : (0 : Int) ≤ k := by omega
      have hk1 : (k : Int) < 2 := by omega
      obtain ⟨r1, r2, r3⟩ := HR.out
      obtain ⟨ua, un, uc, ha, hn, hc, t, sz, H, q1, q2, q3, q4⟩ := r1.2 k hlt
      have HQ := hid q1
      have HT5 := hid r3
      have HB5 := hid r2
      have hlw := r1.1
      have HLr := hid r1
      have HC := hid (And.intro q2 (And.intro q3 q4))
      have x0 : ∀ x : Grew wr, x.1.cell? ⟨w3.heap.size, k * 3, none⟩ = some (.slice ua un uc) := fun x => (x.cell _ _ hlw).trans q2
      have x1 : ∀ x : Grew wr, x.1.cell? ⟨w3.heap.size, k * 3 + 1, none⟩ = some (.slice ha hn hc) := fun x => (x.cell _ _ hlw).trans q3
      have x2 : ∀ x : Grew wr, x.1.cell? ⟨w3.heap.size, k * 3 + 2, none⟩ = some (.int .i64 t) := fun x => (x.cell _ _ hlw).trans q4
      have hdr : Below wr.heap.size wr (wr.drewN 1) := below_drewN (Below.refl _ _) 1
      clear r1 r2 r3 q1
      go_wp2
      refine wp_region_grewS 25 [(true, 0), (true, 1), (true, 2), (true, 3), (true, 4), (true, 5), (true, 6), (true, 7), (true, 8), (true, 9), (true, 11), (true, 12), (true, 13), (true, 14), (true, 15), (false, 10), (false, 16), (true, 17), (true, 18), (true, 19), (true, 20), (true, 21), (true, 22), (true, 23), (true, 24)] (by kernel_rfl) (by kernel_rfl) ?_
      refine wpSteps_pre 10 (by decide) ?_
      simp only [List.take_succ_cons, List.take_zero]
      repeat (go_big_quiet_step (fail))
      refine wpQuiet_nil ?_
      iterate 5 (refine wpSteps_quiet rfl ?_; repeat (go_big_quiet_step (fail)); refine wpQuiet_nil ?_)
      refine wpSteps_one rfl ?_
      clear x0 x1 x2 q2 q3 q4
      go_wp2_with fail
      refine (combos_any H (by have := HQ.out.2.2.2.1; omega) _ AnyB (wr.drewN 1) (RowsV.keep HQ.out.2.1 (KeepS.below hdr))).mono ?_
      rintro e w6 ⟨x6, rfl, ho6, hb6⟩
      have hb16 : Below wr.heap.size wr w6 := hdr.trans (hb6.mono hdr.size)
      have HF6 := hid ho6.any
      obtain ⟨ca, cn, cc, rfl⟩ : ∃ a n c, x6 = .slice a n c := by obtain ⟨a, c, h, -⟩ := ho6.any.form; exact ⟨_, _, _, h⟩
      clear ho6 hb6
      go_wp2
      refine qn_mk ⟨InGrew.of hb16, ?_⟩
      refine wpSteps_one rfl ?_
      go_wp2_with fail
      refine (pcover_any sz HQ.out.2.2.1 H t _ _ AnyB AnyB w6 (HQ.out.1.keep (KeepS.below hb16)) HF6.out (HT5.out.below hb16 HT5.out.lt)).mono ?_
      rintro e w7 ⟨x, y, z, rfl, hx, hy, hz, hb7⟩
      have hb17 : Below wr.heap.size wr w7 := hb16.trans (hb7.mono hb16.size)
      obtain ⟨xa, xn, xc, rfl⟩ : ∃ a n c, x = .slice a n c := by obtain ⟨a, c, h, -⟩ := hx.form; exact ⟨_, _, _, h⟩
      obtain ⟨ya2, yn2, yc2, rfl⟩ : ∃ a n c, y = .slice a n c := by obtain ⟨a, c, h, -⟩ := hy.form; exact ⟨_, _, _, h⟩
      obtain ⟨za, zn, zc, rfl⟩ : ∃ a n c, z = .slice a n c := by obtain ⟨a, c, h, -⟩ := hz.form; exact ⟨_, _, _, h⟩
      have HX := hid hx
      have HY := hid hy
      have HZ := hid hz
      clear hx hy hz hb7
      go_wp2
      refine qn_mk ⟨InGrew.of hb17, ?_⟩
      iterate 8 (refine wpSteps_quiet rfl ?_; repeat (go_big_quiet_step (fail)); refine wpQuiet_nil ?_)
      refine wpSteps_done ?_
      simp only [List.drop_succ_cons, List.drop_zero]
      have HLB := hid ((HLr.out.below hb17).2 k hlt)
      have HB7 := hid (HB5.out.trans (hb17.mono HB5.out.size))
      have HT7 := hid (HT5.out.below hb17 HT5.out.lt)
      have HLv := hid (HLr.out.below hb17)
      have u0 := (hb17.cell (p := ⟨w3.heap.size, k * 3, none⟩) hlw).trans HC.out.1
      have u1 := (hb17.cell (p := ⟨w3.heap.size, k * 3 + 1, none⟩) hlw).trans HC.out.2.1
      have u2 := (hb17.cell (p := ⟨w3.heap.size, k * 3 + 2, none⟩) hlw).trans HC.out.2.2
      have HQ7 := hid (HQ.out.below hb17)
      go_wp2_with fail
      refine (rcover_any sz HQ.out.2.2.1 H HQ.out.2.2.2.1 HQ.out.2.2.2.2 t _ _ AnyB AnyB w7 HQ7.out.1 HQ7.out.2.1).mono ?_
      rintro e w8 ⟨x, y, z, rfl, hx, hy, hz, hb8⟩
      obtain ⟨ra, rn, rc, rfl⟩ : ∃ a n c, x = .slice a n c := by obtain ⟨a, c, h, -⟩ := hx.form; exact ⟨_, _, _, h⟩
      obtain ⟨ea, en, ec, rfl⟩ : ∃ a n c, y = .slice a n c := by obtain ⟨a, c, h, -⟩ := hy.form; exact ⟨_, _, _, h⟩
      obtain ⟨ia, in', ic, rfl⟩ : ∃ a n c, z = .slice a n c := by obtain ⟨a, c, h, -⟩ := hz.form; exact ⟨_, _, _, h⟩
      have HX2 := hid hx
      have HY2 := hid hy
      have HZ2 := hid hz
      have HYl := hid (cL_len sz H t)
      have hb18 : Below w7.heap.size w7 w8 := hb8
      generalize cR sz H t = R at *
      generalize cL sz H t = L at *
      generalize cW sz H t = Y at *
      generalize validE sz H t = ev at *
      clear hx hy hz hb8 u0 u1 u2
      go_wp2_with fail
      refine (sameRows_any R R _ _ AnyB AnyB w8 (HX.out.keep (KeepS.below hb18)) HX2.out).mono ?_
      rintro e w' ⟨rfl, n8, rfl⟩
      rw [decide_eq_true rfl]
      have HB8 := hid (below_drewN hb18 n8)
      have HY9 := hid (RowsV.keep (w' := w8.drewN n8) HY2.out (fun _ _ _ => rfl))
      have HZ9 := hid (RowsV.keep (w' := w8.drewN n8) HZ2.out (fun _ _ _ => rfl))
      generalize w8.drewN n8 = w9 at *
      clear hb18
      go_wp2_with fail
      refine (plain_any L (by have := HYl.out; omega) _ AnyB w9 (HY.out.keep (KeepS.below HB8.out))).mono ?_
      rintro e w10 ⟨x10, rfl, ho10, hb10⟩
      have HO10 := hid ho10.any
      have HBa := hid hb10
      obtain ⟨oa, on', oc, rfl⟩ : ∃ a n c, x10 = .slice a n c := by obtain ⟨a, c, h, -⟩ := ho10.any.form; exact ⟨_, _, _, h⟩
      clear ho10 hb10
      go_wp2_with fail
      refine (sameRows_any L L _ _ AnyB AnyB w10 HO10.out (HY9.out.keep (KeepS.below HBa.out))).mono ?_
      rintro e w' ⟨rfl, n10, rfl⟩
      rw [decide_eq_true rfl]
      have HBb := hid (below_drewN HBa.out n10)
      generalize w10.drewN n10 = w11 at *
      have HBc := hid (HB8.out.trans (HBb.out.mono HB8.out.size))
      go_wp2_with fail
      refine (sameRows_any Y Y _ _ AnyB AnyB w11 (HZ.out.keep (KeepS.below HBc.out)) (HZ9.out.keep (KeepS.below HBb.out))).mono ?_
      rintro e w' ⟨rfl, n11, rfl⟩
      rw [decide_eq_true rfl]
      have HBd := hid (below_drewN HBc.out n11)
      generalize w11.drewN n11 = w12 at *
      have HN : Hid (ListV w12 w3.heap.size ∧ Below w.heap.size w w12 ∧ TabD w12) := hid ⟨HLv.out.below HBd.out, HB7.out.trans (HBd.out.mono HB7.out.size), HT7.out.below HBd.out HT7.out.lt⟩
      go_wp2
      go_roundw
      case rel => exact ⟨k + 1, by go_num, by omega, HN⟩
      case measure => simp [intOf]; omega
    · obtain rfl : k = 2 := by omega
      have HR2 := HR
      clear HR
      go_wp2_with fail
      refine (lives_any wr HR2.out.2.2).mono ?_
      rintro e w9 ⟨rfl, hb9⟩
      have HE := hid (HR2.out.2.1.trans (hb9.mono HR2.out.2.1.size))
      clear hb9
      go_wp2
      go_ret
      exact ⟨rfl, HE.out⟩

end Go.Proofs.YtjaejnacdanpkaaDoor
