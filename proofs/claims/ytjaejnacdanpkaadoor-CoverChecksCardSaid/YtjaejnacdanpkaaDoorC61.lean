/- CoverChecks: the walk. -/
import Derived.Test.YtjaejnacdanpkaaDoorC59
namespace Go.Proofs.YtjaejnacdanpkaaDoor
open Go.RowKit

attribute [local go_sem] Oper.semAt_some

theorem RowsS.form {W : World} {v : Value} (h : RowsS W v) : ∃ a n c, v = .slice a n c := by
  obtain ⟨l, -, h⟩ := h
  obtain ⟨a, c, e, -⟩ := h.form
  exact ⟨_, _, _, e⟩
theorem RowsS.below {W W' : World} {v : Value} (h : RowsS W v) (hb : Below W.heap.size W W') : RowsS W' v := by
  obtain ⟨l, h1, h⟩ := h
  exact ⟨l, h1, RowsV.keep h (KeepS.below hb)⟩
theorem RowsS.of {W : World} {v : Value} {l : List (List Int)} (h : RowsV AnyB W v l) (hl : l.length ≤ 100000) : RowsS W v := ⟨l, by omega, h⟩
theorem RowsS.nil (W : World) : RowsS W (.slice none 0 0) := ⟨[], by simp, SlV.nil _ _ _⟩
/-- A list of six rows' lists. -/
def RL (W : World) (b : Nat) : Prop := b < W.heap.size ∧ ∀ k, k < 6 → ∃ a n c, W.cell? ⟨b, k, none⟩ = some (.slice a n c) ∧ RowsS W (.slice a n c)
theorem RL.below {W W' : World} {b : Nat} (h : RL W b) (hb : Below W.heap.size W W') : RL W' b := by
  refine ⟨Nat.lt_of_lt_of_le h.1 hb.size, fun k hk => ?_⟩
  obtain ⟨a, n, c, h1, h2⟩ := h.2 k hk
  exact ⟨a, n, c, (hb.cell (p := ⟨b, k, none⟩) h.1).trans h1, h2.below hb⟩
theorem RL.mk6 {W : World} {b : Nat} {T : TypeId} {v0 v1 v2 v3 v4 v5 : Value} (h : W.heap[b]? = some (.cells #[v0, v1, v2, v3, v4, v5] T (0, 0))) (h0 : RowsS W v0) (h1 : RowsS W v1) (h2 : RowsS W v2) (h3 : RowsS W v3) (h4 : RowsS W v4) (h5 : RowsS W v5) : RL W b := by
  refine ⟨(Array.getElem?_eq_some_iff.1 h).1, fun k hk => ?_⟩
  have hc : k = 0 ∨ k = 1 ∨ k = 2 ∨ k = 3 ∨ k = 4 ∨ k = 5 := by omega
  rcases hc with rfl | rfl | rfl | rfl | rfl | rfl
  · obtain ⟨a, n, c, rfl⟩ := h0.form; exact ⟨a, n, c, by simp [World.cell?, h], h0⟩
  · obtain ⟨a, n, c, rfl⟩ := h1.form; exact ⟨a, n, c, by simp [World.cell?, h], h1⟩
  · obtain ⟨a, n, c, rfl⟩ := h2.form; exact ⟨a, n, c, by simp [World.cell?, h], h2⟩
  · obtain ⟨a, n, c, rfl⟩ := h3.form; exact ⟨a, n, c, by simp [World.cell?, h], h3⟩
  · obtain ⟨a, n, c, rfl⟩ := h4.form; exact ⟨a, n, c, by simp [World.cell?, h], h4⟩
  · obtain ⟨a, n, c, rfl⟩ := h5.form; exact ⟨a, n, c, by simp [World.cell?, h], h5⟩

theorem why_len (ns : List Nat) (F : List (List Int)) (c : List Int) : (Cov.whyL ns F c).length ≤ F.length := by
  unfold Cov.whyL
  cases h : (Cov.sets F.length).find? (Cov.showsB ns F c) with
  | none => simp
  | some l =>
    obtain ⟨s, _, rfl⟩ := Cov.mem_sets.1 (List.mem_of_find?_eq_some h)
    rw [Option.getD_some, Cov.idx_len]
    exact Cov.pop_le _ _
/-- How long what Cover returns is, at a small problem. -/
theorem c_small (ns : List Nat) (F : List (List Int)) (tn : Nat) (h1 : ∀ n ∈ ns, 1 ≤ n ∧ n ≤ 3) (h2 : ns.length ≤ 4) (h3 : F.length ≤ 4) :
    ((cR (szI ns) F tn).length ≤ 100000 ∧ ∀ r ∈ cR (szI ns) F tn, r.length ≤ 100000) ∧ ((cL (szI ns) F tn).length ≤ 100000 ∧ ∀ r ∈ cL (szI ns) F tn, r.length ≤ 100000) ∧ ((cW (szI ns) F tn).length ≤ 100000 ∧ ∀ r ∈ cW (szI ns) F tn, r.length ≤ 100000) := by
  have hn : nats (szI ns) = ns := by
    unfold nats szI
    rw [List.map_map]
    have e : (Int.toNat ∘ fun n : Nat => (n : Int)) = id := by funext n; simp
    rw [e, List.map_id]
  have hA : (Cov.allG ns).length ≤ 6561 := Nat.le_trans (allP_size true ns (fun n hn => by have := h1 n hn; omega)) (Nat.le_trans (Nat.pow_le_pow_right (by omega) h2) (by decide))
  have hK : (Cov.asked ns tn).length ≤ 6561 := Nat.le_trans (List.length_filter_le _ _) hA
  unfold cR cL cW
  rw [hn, Int.toNat_natCast]
  split
  · refine ⟨⟨Nat.le_trans (greedy_len _ _ _) (Nat.le_trans (List.length_filter_le _ _) (by omega)), fun r hr => ?_⟩, ⟨Nat.le_trans (List.length_filter_le _ _) (by omega), fun r hr => ?_⟩, ⟨by rw [List.length_map]; exact Nat.le_trans (List.length_filter_le _ _) (by omega), fun r hr => ?_⟩⟩
    · have := Cov.comboB_len ns r (Cov.rowB_combo ns r (Cov.coverRows_ok ns F tn r hr).1); omega
    · have := Cov.comboB_len ns r (Cov.left_iff.1 hr).1.1; omega
    · obtain ⟨c, _, rfl⟩ := List.mem_map.1 hr
      have := why_len ns F c; omega
  · exact ⟨⟨by simp, by simp⟩, ⟨by simp, by simp⟩, ⟨by simp, by simp⟩⟩

set_option maxRecDepth 100000 in
set_option maxHeartbeats 4000000 in
theorem checks_any (l : List Int) (hl : Fit l) (v : Value) (S : Nat → Prop) (p1 p2 p3 : Int) (a1 : -9223372036854775808 ≤ p1 ∧ p1 ≤ 9223372036854775807) (a2 : -9223372036854775808 ≤ p2 ∧ p2 ≤ 9223372036854775807) (a3 : -9223372036854775808 ≤ p3 ∧ p3 ≤ 9223372036854775807) (w : World) (hv : IntsV S w v l) (hT : TabD w) :
    Calls Tryd.prog 4 #[v, .int .i64 p1, .int .i64 p2, .int .i64 p3] w fun e w' => e = .returned (.bool true) ∧ Below w.heap.size w w' := by
  obtain ⟨a, cap, rfl, hok, hcap, hmax⟩ := hv.form
  go_enter Tryd.func4, Tryd.ntmps4
  go_wp2_with fail
  refine (made_any l hl _ S w hv).mono ?_
  rintro e w1 ⟨ns, F, tn, sv, fv, rfl, m1, m2, m3, m4, m5, m6, m7, m8, hs1, hf1, hb1⟩
  have hP1 : PV w1 sv fv (szI ns) F := ⟨hs1.mono (fun _ _ _ => trivial), RowsV.mono hf1 (fun _ _ _ => trivial), by simp [szI]; omega, by omega, comboB_short m3 m5⟩
  obtain ⟨sa, sn, sc, rfl⟩ : ∃ a n c, sv = .slice a n c := by obtain ⟨a, c, h, -⟩ := hs1.form; exact ⟨_, _, _, h⟩
  obtain ⟨fa, fn, fc, rfl⟩ : ∃ a n c, fv = .slice a n c := by obtain ⟨a, c, h, -⟩ := hf1.form; exact ⟨_, _, _, h⟩
  have hb2 : Below w1.heap.size w1 (w1.alloc (.cells #[.slice sa sn sc, .slice fa fn fc, .int .i64 tn] 25)) := (Below.refl _ _).alloc (Nat.le_refl _) _
  have hbx : (w1.alloc (.cells #[.slice sa sn sc, .slice fa fn fc, .int .i64 tn] 25)).heap[w1.heap.size]? = some (.cells #[.slice sa sn sc, .slice fa fn fc, .int .i64 tn] 25 (0, 0)) := heap_new _ _ rfl
  have hP2 := hP1.below hb2
  have hb02 := hb1.trans (hb2.mono hb1.size)
  have hT2 := hT.below hb02 hT.lt
  have u0 := (row3 hbx).1
  have u1 := (row3 hbx).2.1
  have u2 := (row3 hbx).2.2.1
  go_wp2_with fail
  generalize World.alloc w1 _ = W2 at *
  have hgw0 : w1.heap.size < W2.heap.size := (Array.getElem?_eq_some_iff.1 hbx).1
  refine (rcover_any (szI ns) hP2.2.2.1 F hP2.2.2.2.1 hP2.2.2.2.2 tn _ _ AnyB AnyB W2 hP2.1 hP2.2.1).mono ?_
  rintro e w3 ⟨x, y, z, rfl, hx, hy, hz, hb3⟩
  have HLen := hid (c_small ns F tn m1 m3 m4)
  generalize cR (szI ns) F tn = R at *
  generalize cL (szI ns) F tn = L at *
  generalize cW (szI ns) F tn = Y at *
  generalize validE (szI ns) F tn = ev at *
  obtain ⟨xa, xn, xc, rfl⟩ : ∃ a n c, x = .slice a n c := by obtain ⟨a, c, h, -⟩ := hx.form; exact ⟨_, _, _, h⟩
  obtain ⟨qa, qn, qc, rfl⟩ : ∃ a n c, y = .slice a n c := by obtain ⟨a, c, h, -⟩ := hy.form; exact ⟨_, _, _, h⟩
  obtain ⟨ka, kn, kc, rfl⟩ : ∃ a n c, z = .slice a n c := by obtain ⟨a, c, h, -⟩ := hz.form; exact ⟨_, _, _, h⟩
  have hP3 := hP2.below hb3
  have hbx3 := (hb3.block _ hgw0).trans hbx
  have hgw : w1.heap.size < w3.heap.size := Nat.lt_of_lt_of_le hgw0 hb3.size
  have hb03 := hb02.trans (hb3.mono hb02.size)
  have hT3 := hT2.below hb3 hT2.lt
  have HX3 := hid hx
  have HY3 := hid hy
  have HZ3 := hid hz
  have x0 : ∀ x : Grew w3, x.1.cell? ⟨w1.heap.size, 0, none⟩ = some (.slice sa sn sc) := fun x => (x.cell _ _ hgw).trans (row3 hbx3).1
  have x1 : ∀ x : Grew w3, x.1.cell? ⟨w1.heap.size, 1, none⟩ = some (.slice fa fn fc) := fun x => (x.cell _ _ hgw).trans (row3 hbx3).2.1
  have x2 : ∀ x : Grew w3, x.1.cell? ⟨w1.heap.size, 2, none⟩ = some (.int .i64 tn) := fun x => (x.cell _ _ hgw).trans (row3 hbx3).2.2.1
  have hdr : Below w3.heap.size w3 (w3.drewN 1) := below_drewN (Below.refl _ _) 1
  have hP4 := hP3.below hdr
  have HBt := hid (bent_any (szI ns) (by simp [szI]; omega) (by simp [szI]; omega) F (by omega) (fun f hf => by have := Cov.comboB_len ns f (m5 f hf).1; omega) tn p1 p2 p3 a1.1 a1.2 a2.1 a2.2 a3.1 a3.2 _ _ AnyB AnyB (w3.drewN 1) hP4.1 hP4.2.1)
  have HP3 := hid hP3
  have HT3 := hid hT3
  have HB03 := hid hb03
  clear hP3 hP2 hT2 hT3 hb02 hb03 hP4 hP1 hT hs1 hf1 hb1 hb2 hv hbx hbx3 hx hy hz hb3 u0 u1 u2 hgw0
  go_wp2
  refine wp_region_grewS 6 [(true, 0), (true, 1), (true, 2), (true, 3), (true, 4), (false, 5)] (by kernel_rfl) (by kernel_rfl) ?_
  refine wpSteps_pre 5 (by decide) ?_
  simp only [List.take_succ_cons, List.take_zero]
  repeat (go_big_quiet_step (fail))
  refine wpQuiet_nil ?_
  refine wpSteps_one rfl ?_
  clear x0 x1 x2
  go_wp2_with fail
  refine HBt.out.mono ?_
  rintro e w4 ⟨zs, G, t', xs, xf, rfl, z1, z2, z3, z4, z5, hb4⟩
  have hb34 : Below w3.heap.size w3 w4 := hdr.trans hb4
  obtain ⟨ya, yn, yc, rfl⟩ : ∃ a n c, xs = .slice a n c := by obtain ⟨a, c, h, -⟩ := z4.form; exact ⟨_, _, _, h⟩
  obtain ⟨ga, gn, gc, rfl⟩ : ∃ a n c, xf = .slice a n c := by obtain ⟨a, c, h, -⟩ := z5.form; exact ⟨_, _, _, h⟩
  have hPb : PV w4 (.slice ya yn yc) (.slice ga gn gc) zs G := ⟨z4, z5, z1, z2, z3⟩
  go_wp2
  refine qn_mk ⟨InGrew.of hb34, ?_⟩
  refine wpSteps_done ?_
  simp only [List.drop_succ_cons, List.drop_zero]
  have hba : Below w4.heap.size w4 (w4.alloc (.cells #[.slice sa sn sc, .slice fa fn fc, .int .i64 tn, .slice ya yn yc, .slice ga gn gc, .int .i64 t'] 25)) := (Below.refl _ _).alloc (Nat.le_refl _) _
  have HL0 : Hid (ListV (w4.alloc (.cells #[.slice sa sn sc, .slice fa fn fc, .int .i64 tn, .slice ya yn yc, .slice ga gn gc, .int .i64 t'] 25)) w4.heap.size) := hid (ListV.mk' (heap_new _ _ rfl) ((HP3.out.below hb34).below hba) (hPb.below hba))
  have hb35 := hb34.trans (hba.mono hb34.size)
  have HB5 := hid (HB03.out.trans (hb35.mono HB03.out.size))
  have HT5 := hid (HT3.out.below hb35 HT3.out.lt)
  have HX5 := hid (HX3.out.keep (KeepS.below hb35))
  have HY5 := hid (HY3.out.keep (KeepS.below hb35))
  have HZ5 := hid (HZ3.out.keep (KeepS.below hb35))
  clear hb34 hb35 hb4 hba hPb z4 z5 HBt hdr hgw HB03
  have hbd := tdiv_in a2.1 a2.2 (show (1 : Int) ≤ 4 by omega)
  go_wp2_with fail
  generalize World.alloc w4 _ = W5 at *
  refine (spoilt_any R HLen.out.1.1 HLen.out.1.2 p1 p2 p3 a1.1 a1.2 a2.1 a2.2 a3.1 a3.2 _ AnyB W5 HX5.out).mono ?_
  rintro e w6 ⟨s1, rfl, hs1, hb6⟩
  obtain ⟨s1a, s1n, s1c, rfl⟩ := hs1.form
  have hb6a : Below w6.heap.size w6 (w6.alloc (.cells #[.slice xa xn xc, .slice s1a s1n s1c, .slice xa xn xc, .slice xa xn xc, .slice xa xn xc, .slice none 0 0] 23)) := (Below.refl _ _).alloc (Nat.le_refl _) _
  have HR1 := hid (RL.mk6 (T := 23) (W := w6.alloc (.cells #[.slice xa xn xc, .slice s1a s1n s1c, .slice xa xn xc, .slice xa xn xc, .slice xa xn xc, .slice none 0 0] 23)) (b := w6.heap.size) (heap_new _ _ rfl) (RowsS.of ((HX5.out.keep (KeepS.below hb6)).keep (KeepS.below hb6a)) HLen.out.1.1) (hs1.below hb6a) (RowsS.of ((HX5.out.keep (KeepS.below hb6)).keep (KeepS.below hb6a)) HLen.out.1.1) (RowsS.of ((HX5.out.keep (KeepS.below hb6)).keep (KeepS.below hb6a)) HLen.out.1.1) (RowsS.of ((HX5.out.keep (KeepS.below hb6)).keep (KeepS.below hb6a)) HLen.out.1.1) (RowsS.nil _))
  have hb56 := hb6.trans (hb6a.mono hb6.size)
  have HBa := hid hb56
  clear hs1 hb6 hb6a hb56
  go_wp2_with fail
  generalize World.alloc w6 _ = W7 at *
  refine (spoilt_any L HLen.out.2.1.1 HLen.out.2.1.2 p1 p2 p3 a1.1 a1.2 a2.1 a2.2 a3.1 a3.2 _ AnyB W7 (HY5.out.keep (KeepS.below HBa.out))).mono ?_
  rintro e w8 ⟨s2, rfl, hs2, hb8⟩
  obtain ⟨s2a, s2n, s2c, rfl⟩ := hs2.form
  have HS2 := hid hs2
  have HBb := hid (HBa.out.trans (hb8.mono HBa.out.size))
  have HR1b := hid (HR1.out.below hb8)
  clear hs2 hb8
  go_wp2_with fail
  refine (spoilt_any L HLen.out.2.1.1 HLen.out.2.1.2 p3 (p2.tdiv 4) p1 a3.1 a3.2 hbd.1 hbd.2 a1.1 a1.2 _ AnyB w8 (HY5.out.keep (KeepS.below HBb.out))).mono ?_
  rintro e w9 ⟨s3, rfl, hs3, hb9⟩
  obtain ⟨s3a, s3n, s3c, rfl⟩ := hs3.form
  have hb9a : Below w9.heap.size w9 (w9.alloc (.cells #[.slice qa qn qc, .slice qa qn qc, .slice s2a s2n s2c, .slice qa qn qc, .slice s3a s3n s3c, .slice none 0 0] 23)) := (Below.refl _ _).alloc (Nat.le_refl _) _
  have HBc := hid (HBb.out.trans (hb9.mono HBb.out.size))
  have HR2 := hid (RL.mk6 (T := 23) (W := w9.alloc (.cells #[.slice qa qn qc, .slice qa qn qc, .slice s2a s2n s2c, .slice qa qn qc, .slice s3a s3n s3c, .slice none 0 0] 23)) (b := w9.heap.size) (heap_new _ _ rfl) (RowsS.of ((HY5.out.keep (KeepS.below HBc.out)).keep (KeepS.below hb9a)) HLen.out.2.1.1) (RowsS.of ((HY5.out.keep (KeepS.below HBc.out)).keep (KeepS.below hb9a)) HLen.out.2.1.1) ((HS2.out.below hb9).below hb9a) (RowsS.of ((HY5.out.keep (KeepS.below HBc.out)).keep (KeepS.below hb9a)) HLen.out.2.1.1) (hs3.below hb9a) (RowsS.nil _))
  have HR1c := hid ((HR1b.out.below hb9).below hb9a)
  have HBd := hid (HBc.out.trans (hb9a.mono HBc.out.size))
  clear hs3 hb9 hb9a
  go_wp2_with fail
  generalize World.alloc w9 _ = W10 at *
  refine (spoilt_any Y HLen.out.2.2.1 HLen.out.2.2.2 p1 p2 p3 a1.1 a1.2 a2.1 a2.2 a3.1 a3.2 _ AnyB W10 (HZ5.out.keep (KeepS.below HBd.out))).mono ?_
  rintro e w11 ⟨s4, rfl, hs4, hb11⟩
  obtain ⟨s4a, s4n, s4c, rfl⟩ := hs4.form
  have HS4 := hid hs4
  have HBe := hid (HBd.out.trans (hb11.mono HBd.out.size))
  have HR1d := hid (HR1c.out.below hb11)
  have HR2d := hid (HR2.out.below hb11)
  clear hs4 hb11
  go_wp2_with fail
  refine (spoilt_any Y HLen.out.2.2.1 HLen.out.2.2.2 p3 (p2.tdiv 4) p1 a3.1 a3.2 hbd.1 hbd.2 a1.1 a1.2 _ AnyB w11 (HZ5.out.keep (KeepS.below HBe.out))).mono ?_
  rintro e w12 ⟨s5, rfl, hs5, hb12⟩
  obtain ⟨s5a, s5n, s5c, rfl⟩ := hs5.form
  have hb12a : Below w12.heap.size w12 (w12.alloc (.cells #[.slice ka kn kc, .slice ka kn kc, .slice ka kn kc, .slice s4a s4n s4c, .slice s5a s5n s5c, .slice none 0 0] 23)) := (Below.refl _ _).alloc (Nat.le_refl _) _
  have HBf := hid (HBe.out.trans (hb12.mono HBe.out.size))
  have HR3 := hid (RL.mk6 (T := 23) (W := w12.alloc (.cells #[.slice ka kn kc, .slice ka kn kc, .slice ka kn kc, .slice s4a s4n s4c, .slice s5a s5n s5c, .slice none 0 0] 23)) (b := w12.heap.size) (heap_new _ _ rfl) (RowsS.of ((HZ5.out.keep (KeepS.below HBf.out)).keep (KeepS.below hb12a)) HLen.out.2.2.1) (RowsS.of ((HZ5.out.keep (KeepS.below HBf.out)).keep (KeepS.below hb12a)) HLen.out.2.2.1) (RowsS.of ((HZ5.out.keep (KeepS.below HBf.out)).keep (KeepS.below hb12a)) HLen.out.2.2.1) ((HS4.out.below hb12).below hb12a) (hs5.below hb12a) (RowsS.nil _))
  have HBg := hid (HBf.out.trans (hb12a.mono HBf.out.size))
  have HI : Hid (ListV (w12.alloc (.cells #[.slice ka kn kc, .slice ka kn kc, .slice ka kn kc, .slice s4a s4n s4c, .slice s5a s5n s5c, .slice none 0 0] 23)) w4.heap.size ∧ RL (w12.alloc (.cells #[.slice ka kn kc, .slice ka kn kc, .slice ka kn kc, .slice s4a s4n s4c, .slice s5a s5n s5c, .slice none 0 0] 23)) w6.heap.size ∧ RL (w12.alloc (.cells #[.slice ka kn kc, .slice ka kn kc, .slice ka kn kc, .slice s4a s4n s4c, .slice s5a s5n s5c, .slice none 0 0] 23)) w9.heap.size ∧ RL (w12.alloc (.cells #[.slice ka kn kc, .slice ka kn kc, .slice ka kn kc, .slice s4a s4n s4c, .slice s5a s5n s5c, .slice none 0 0] 23)) w12.heap.size ∧ Below w.heap.size w (w12.alloc (.cells #[.slice ka kn kc, .slice ka kn kc, .slice ka kn kc, .slice s4a s4n s4c, .slice s5a s5n s5c, .slice none 0 0] 23)) ∧ TabD (w12.alloc (.cells #[.slice ka kn kc, .slice ka kn kc, .slice ka kn kc, .slice s4a s4n s4c, .slice s5a s5n s5c, .slice none 0 0] 23))) :=
    hid ⟨HL0.out.below HBg.out, (HR1d.out.below hb12).below hb12a, (HR2d.out.below hb12).below hb12a, HR3.out, HB5.out.trans (HBg.out.mono HB5.out.size), HT5.out.below HBg.out HT5.out.lt⟩
  clear hs5 hb12 hb12a
  go_wp2
  generalize World.alloc w12 _ = W13 at *
  clear HL0 HB5 HT5 HX5 HY5 HZ5 HBa HBb HBc HBd HBe HBf HBg HR1 HR1b HR1c HR1d HR2 HR2d HR3 HS2 HS4
  go_loopw [18] (fun i wr => ∃ k : Nat, i = .int .i64 k ∧ k ≤ 2 ∧ Hid (ListV wr w4.heap.size ∧ RL wr w6.heap.size ∧ RL wr w9.heap.size ∧ RL wr w12.heap.size ∧ Below w.heap.size w wr ∧ TabD wr)) (fun i _ => 2 - (intOf i).toNat)
  case atStart => exact ⟨0, rfl, by omega, HI⟩
  case round =>
    obtain ⟨k, rfl, hk, HR⟩ := hrel
    by_cases hlt : k < 2
    · have hk0 : (0 : Int) ≤ k := by omega
      have hk1 : (k : Int) < 2 := by omega
      generalize hWo : wr = Wo at *
      clear hWo
      go_wp2
      go_loopw [19] (fun i wr => ∃ j : Nat, i = .int .i64 j ∧ j ≤ 6 ∧ Hid (ListV wr w4.heap.size ∧ RL wr w6.heap.size ∧ RL wr w9.heap.size ∧ RL wr w12.heap.size ∧ Below w.heap.size w wr ∧ TabD wr)) (fun i _ => 6 - (intOf i).toNat)
      case atStart => exact ⟨0, rfl, by omega, HR⟩
      case round =>
        obtain ⟨j, rfl, hj, HR⟩ := hrel
        by_cases hlj : j < 6
        · have hj0 : (0 : Int) ≤ j := by omega
          have hj1 : (j : Int) < 6 := by omega
          obtain ⟨r1, r2, r3, r4, r5, r6⟩ := HR.out
          obtain ⟨ua, un, uc, ha, hn, hc, t, sz, H, q1, q2, q3, q4⟩ := r1.2 k hlt
          have hba : Below wr.heap.size wr (wr.alloc (.cells #[.slice ua un uc, .slice ha hn hc, .int .i64 t] 25)) := (Below.refl _ _).alloc (Nat.le_refl _) _
          have hbx : (wr.alloc (.cells #[.slice ua un uc, .slice ha hn hc, .int .i64 t] 25)).heap[wr.heap.size]? = some (.cells #[.slice ua un uc, .slice ha hn hc, .int .i64 t] 25 (0, 0)) := heap_new _ _ rfl
          have HI6 := hid (And.intro (r1.below hba) (And.intro (r2.below hba) (And.intro (r3.below hba) (And.intro (r4.below hba) (And.intro (r5.trans (hba.mono r5.size)) (r6.below hba r6.lt))))))
          have HQ := hid (q1.below hba)
          clear r1 r2 r3 r4 r5 r6 q1 hba HR
          go_wp2_with fail
          generalize wr.alloc (.cells #[.slice ua un uc, .slice ha hn hc, .int .i64 t] 25) = W6 at *
          clear q2 q3 q4
          have hgw : wr.heap.size < W6.heap.size := (Array.getElem?_eq_some_iff.1 hbx).1
          obtain ⟨xa2, xn2, xc2, e1, R2, hR2, f1⟩ := HI6.out.2.1.2 j hlj
          obtain ⟨ya2, yn2, yc2, e2, L2, hL2, f2⟩ := HI6.out.2.2.1.2 j hlj
          obtain ⟨za2, zn2, zc2, e3, Y2, hY2, f3⟩ := HI6.out.2.2.2.1.2 j hlj
          have HF1 := hid f1
          have HF2 := hid f2
          have HF3 := hid f3
          have g1 := HI6.out.2.1.1
          have g2 := HI6.out.2.2.1.1
          have g3 := HI6.out.2.2.2.1.1
          have x0 : ∀ x : Grew W6, x.1.cell? ⟨wr.heap.size, 0, none⟩ = some (.slice ua un uc) := fun x => (x.cell _ _ hgw).trans (row3 hbx).1
          have x1 : ∀ x : Grew W6, x.1.cell? ⟨wr.heap.size, 1, none⟩ = some (.slice ha hn hc) := fun x => (x.cell _ _ hgw).trans (row3 hbx).2.1
          have x2 : ∀ x : Grew W6, x.1.cell? ⟨wr.heap.size, 2, none⟩ = some (.int .i64 t) := fun x => (x.cell _ _ hgw).trans (row3 hbx).2.2.1
          have y1 : ∀ x : Grew W6, x.1.cell? ⟨w6.heap.size, j, none⟩ = some (.slice xa2 xn2 xc2) := fun x => (x.cell _ _ g1).trans e1
          have y2 : ∀ x : Grew W6, x.1.cell? ⟨w9.heap.size, j, none⟩ = some (.slice ya2 yn2 yc2) := fun x => (x.cell _ _ g2).trans e2
          have y3 : ∀ x : Grew W6, x.1.cell? ⟨w12.heap.size, j, none⟩ = some (.slice za2 zn2 zc2) := fun x => (x.cell _ _ g3).trans e3
          have hdr : Below W6.heap.size W6 (W6.drewN 1) := below_drewN (Below.refl _ _) 1
          clear hbx f1 f2 f3 e1 e2 e3
          go_wp2
          refine wp_region_grewS 34 [(true, 0), (true, 1), (true, 2), (true, 3), (true, 5), (true, 6), (true, 7), (true, 8), (true, 9), (true, 10), (true, 11), (true, 12), (true, 13), (true, 14), (true, 16), (true, 17), (true, 18), (true, 19), (true, 21), (true, 22), (true, 23), (true, 24), (true, 25), (true, 26), (true, 27), (true, 28), (true, 29), (true, 30), (true, 31), (true, 32), (true, 33), (false, 4), (false, 15), (false, 20)] (by kernel_rfl) (by kernel_rfl) ?_
          refine wpSteps_pre 4 (by decide) ?_
          simp only [List.take_succ_cons, List.take_zero]
          repeat (go_big_quiet_step (fail))
          refine wpQuiet_nil ?_
          iterate 27 (refine wpSteps_quiet rfl ?_; repeat (go_big_quiet_step (fail)); refine wpQuiet_nil ?_)
          refine wpSteps_one rfl ?_
          clear x0 x1 x2 y1 y2 y3
          go_wp2_with fail
          refine (combos_any H (by have := HQ.out.2.2.2.1; omega) _ AnyB (W6.drewN 1) (RowsV.keep HQ.out.2.1 (KeepS.below hdr))).mono ?_
          rintro e w14 ⟨x7, rfl, ho7, hb7⟩
          have hb1 : Below W6.heap.size W6 w14 := hdr.trans (hb7.mono hdr.size)
          have HF7 := hid ho7.any
          obtain ⟨ca, cn, cc, rfl⟩ : ∃ a n c, x7 = .slice a n c := by obtain ⟨a, c, h, -⟩ := ho7.any.form; exact ⟨_, _, _, h⟩
          clear ho7 hb7
          go_wp2
          refine qn_mk ⟨InGrew.of hb1, ?_⟩
          refine wpSteps_one rfl ?_
          go_wp2_with fail
          refine (combos_any L2 (by omega) _ AnyB w14 (RowsV.keep HF2.out (KeepS.below hb1))).mono ?_
          rintro e w15 ⟨x8, rfl, ho8, hb8⟩
          have hb2 : Below W6.heap.size W6 w15 := hb1.trans (hb8.mono hb1.size)
          have HF8 := hid ho8.any
          have HF7b := hid (RowsV.keep HF7.out (KeepS.below hb8))
          obtain ⟨da, dn, dc, rfl⟩ : ∃ a n c, x8 = .slice a n c := by obtain ⟨a, c, h, -⟩ := ho8.any.form; exact ⟨_, _, _, h⟩
          clear ho8 hb8
          go_wp2
          refine qn_mk ⟨InGrew.of hb2, ?_⟩
          refine wpSteps_one rfl ?_
          go_wp2_with fail
          refine (pcheck_any sz HQ.out.2.2.1 H t R2 L2 Y2 _ _ _ _ _ AnyB AnyB AnyB AnyB AnyB w15 (HQ.out.1.keep (KeepS.below hb2)) HF7b.out (RowsV.keep HF1.out (KeepS.below hb2)) HF8.out (RowsV.keep HF3.out (KeepS.below hb2)) (HI6.out.2.2.2.2.2.below hb2 HI6.out.2.2.2.2.2.lt)).mono ?_
          rintro e w16 ⟨rfl, hb16⟩
          have hb3 : Below W6.heap.size W6 w16 := hb2.trans (hb16.mono hb2.size)
          clear hb16
          go_wp2
          refine qn_mk ⟨InGrew.of hb3, ?_⟩
          refine wpSteps_done ?_
          simp only [List.drop_succ_cons, List.drop_zero]
          go_wp2_with fail
          refine (rcheck_any sz HQ.out.2.2.1 H HQ.out.2.2.2.1 HQ.out.2.2.2.2 t R2 L2 Y2 _ _ _ _ _ AnyB AnyB AnyB AnyB AnyB w16 (HQ.out.1.keep (KeepS.below hb3)) (RowsV.keep HQ.out.2.1 (KeepS.below hb3)) (RowsV.keep HF1.out (KeepS.below hb3)) (RowsV.keep HF2.out (KeepS.below hb3)) (RowsV.keep HF3.out (KeepS.below hb3))).mono ?_
          rintro e w17 ⟨rfl, hb17⟩
          have hb4 : Below W6.heap.size W6 w17 := hb3.trans (hb17.mono hb3.size)
          obtain ⟨r1, r2, r3, r4, r5, r6⟩ := HI6.out
          have HN := hid (And.intro (r1.below hb4) (And.intro (r2.below hb4) (And.intro (r3.below hb4) (And.intro (r4.below hb4) (And.intro (r5.trans (hb4.mono r5.size)) (r6.below hb4 r6.lt))))))
          generalize cC sz H t R2 L2 Y2 = Z at *
          clear hb17 hb1 hb2 hb3 hb4 r1 r2 r3 r4 r5 r6 hdr g1 g2 g3
          go_wp2
          go_roundw
          case rel => exact ⟨j + 1, by go_num, by omega, HN⟩
          case measure => simp [intOf]; omega
        · obtain rfl : j = 6 := by omega
          go_wp2
          go_roundw
          case rel => exact ⟨k + 1, by go_num, by omega, HR⟩
          case measure => simp [intOf]; omega
    · obtain rfl : k = 2 := by omega
      have HR2 := HR
      clear HR
      go_wp2_with fail
      refine (lives_any wr HR2.out.2.2.2.2.2).mono ?_
      rintro e w9 ⟨rfl, hb9⟩
      have HE := hid (HR2.out.2.2.2.2.1.trans (hb9.mono HR2.out.2.2.2.2.1.size))
      clear hb9
      go_wp2
      go_ret
      exact ⟨rfl, HE.out⟩

end Go.Proofs.YtjaejnacdanpkaaDoor
