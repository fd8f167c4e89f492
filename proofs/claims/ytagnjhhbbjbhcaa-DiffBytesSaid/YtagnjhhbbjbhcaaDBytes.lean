/- DiffBytes: for all arguments it returns true. -/
import Derived.Test.YtagnjhhbbjbhcaaGetInts
import Derived.Test.YtagnjhhbbjbhcaaApplies
namespace Go.Proofs.Ytagnjhhbbjbhcaa
open Go.RowKit

/-- Where the change number k begins. -/
def atC (cs : List Chg) (k : Nat) : Nat := (encI cs.length ++ (cs.take k).flatMap encC).length
theorem atC_zero (cs : List Chg) : (encI cs.length).length = atC cs 0 := by simp [atC]
theorem atC_all (cs : List Chg) : atC cs cs.length = (encCs cs).length := by unfold atC encCs; rw [List.take_length]
theorem encCs_step (cs : List Chg) (k : Nat) (h : k < cs.length) :
    encCs cs = (encI cs.length ++ (cs.take k).flatMap encC) ++ (encC cs[k] ++ (cs.drop (k + 1)).flatMap encC) := by
  unfold encCs
  have e : cs.flatMap encC = (cs.take k).flatMap encC ++ (encC cs[k] ++ (cs.drop (k + 1)).flatMap encC) := by
    have h1 := congrArg (fun l => List.flatMap encC l) (List.take_append_drop k cs)
    simp only [List.flatMap_append] at h1
    rw [← h1, List.drop_eq_getElem_cons h, List.flatMap_cons]
  rw [e]
  simp
theorem encL_pos1 (l : List Int) : 0 < (encL l).length := by unfold encL; rw [List.length_append]; have := encI_pos l.length; omega
/-- What stands at the change number k, and behind its first list. -/
theorem encCs_at (cs : List Chg) (k : Nat) (h : k < cs.length) :
    (encCs cs).drop (atC cs k) = encL [cs[k].kind, cs[k].index, cs[k].field, cs[k].old, cs[k].new] ++ (encL cs[k].values ++ (cs.drop (k + 1)).flatMap encC) ∧
    (encCs cs).drop (atC cs k + (encL [cs[k].kind, cs[k].index, cs[k].field, cs[k].old, cs[k].new]).length) = encL cs[k].values ++ (cs.drop (k + 1)).flatMap encC ∧
    atC cs k + (encL [cs[k].kind, cs[k].index, cs[k].field, cs[k].old, cs[k].new]).length + (encL cs[k].values).length = atC cs (k + 1) ∧
    atC cs k + (encL [cs[k].kind, cs[k].index, cs[k].field, cs[k].old, cs[k].new]).length + (encL cs[k].values).length ≤ (encCs cs).length := by
  have h1 := encCs_step cs k h
  have h2 : encC cs[k] = encL [cs[k].kind, cs[k].index, cs[k].field, cs[k].old, cs[k].new] ++ encL cs[k].values := rfl
  refine ⟨?_, ?_, ?_, ?_⟩
  · rw [h1]; unfold atC; rw [List.drop_left, h2, List.append_assoc]
  · rw [h1]; unfold atC; rw [← List.drop_drop, List.drop_left, h2, List.append_assoc, List.drop_left]
  · unfold atC; rw [← encCs_snoc cs k h, h2]; simp; omega
  · rw [h1, h2]; unfold atC; simp; omega

theorem lil_fit {l : List Int} (h : Lil l) : Fit l := fun x hx => by have := h x hx; omega

set_option maxRecDepth 100000 in
set_option maxHeartbeats 8000000 in
theorem dbytes_any (l m : List Int) (hl : Fit l) (hm : Fit m) (al am : Option Addr) (nl nm cl cm : Nat) (w : World) (vl : IntsV AnyB w (.slice al nl cl) l) (vm : IntsV AnyB w (.slice am nm cm) m) :
    Calls Try.prog 7 #[.slice al nl cl, .slice am nm cm] w fun e w' => e = .returned (.bool true) ∧ Below w.heap.size w w' := by
  have sl := shapeL_ok l
  have A0 := worldL_shape (shapeL l) l sl
  have B0 := worldL_shape (shapeL l) m sl
  go_enter Try.func7, Try.ntmps7
  go_wp2_with fail
  refine (shape_any l hl _ _ w vl).mono ?_
  rintro e w1 ⟨s, rfl, hs, b1⟩
  have hs' := IntsV.mono (S' := AnyB) hs (fun _ _ _ => trivial)
  obtain ⟨as_, cs_, rfl, -, -, -⟩ := hs'.form
  have vl1 : IntsV AnyB w1 _ l := vl.keep (KeepS.below b1)
  go_wp2_with fail
  refine (world_any (shapeL l) sl l hl _ _ _ _ w1 hs' vl1).mono ?_
  rintro e w2 ⟨va, rfl, ha, b2⟩
  have hA2 := WorldV.mono (S' := AnyB) ha (fun _ _ _ => trivial)
  have b02 : Below w.heap.size w w2 := b1.trans (b2.mono b1.size)
  have hs2 := IntsV.keep hs' (KeepS.below b2)
  have vm2 : IntsV AnyB w2 _ m := vm.keep (KeepS.below b02)
  clear vl vl1 vm hs hs' ha b1 b2
  go_wp2_with fail
  refine (world_any (shapeL l) sl m hm _ _ _ _ w2 hs2 vm2).mono ?_
  rintro e w3 ⟨vb, rfl, hb, b3⟩
  have hB3 := WorldV.mono (S' := AnyB) hb (fun _ _ _ => trivial)
  have hA3 := WorldV.keep hA2 (KeepS.below b3)
  have b03 : Below w.heap.size w w3 := b02.trans (b3.mono b02.size)
  clear hA2 hs2 vm2 hb b3 b02
  generalize worldL (shapeL l) l = A at *
  generalize worldL (shapeL l) m = B at *
  have okAB := shapeW_ok A0 B0 sl
  have hSA := A0.small sl
  have hSB := B0.small sl
  have n1 := diffC_len_small A0 B0 sl
  have G1 := hid (diffC_good A0 B0 sl)
  have E1 : Hid (diffE A B = 0) := hid (by unfold diffE; rw [if_pos okAB])
  obtain ⟨xa, ya, rfl, -⟩ := hA3.form
  obtain ⟨xb, yb, rfl, -⟩ := hB3.form
  clear okAB A0 B0 sl
  go_wp2_with fail
  refine (pdiff_any A B hSA hSB _ _ AnyB AnyB w3 hA3 hB3).mono ?_
  rintro e w4 ⟨z1, rfl, hz1, b4⟩
  rw [E1.out]
  have b04 : Below w.heap.size w w4 := b03.trans (b4.mono b03.size)
  obtain ⟨q1, r1, rfl, hok1, hcap1, hmax1⟩ := hz1.form
  clear hA3 hB3 b4 b03 E1 hSA hSB
  generalize diffC A B = cs at *
  go_wp2_with fail
  refine (pencode_any cs (by omega) G1.out.enc _ AnyB w4 hz1).mono ?_
  rintro e w5 ⟨y1, rfl, hy1, b5⟩
  have hY := ownB_sl hy1
  have hZ := ChV.keep hz1 (KeepS.below b5)
  have b05 : Below w.heap.size w w5 := b04.trans (b5.mono b04.size)
  have hEL := encCs_len cs (by omega) G1.out.enc cs.length
  rw [List.take_length] at hEL
  have hEL2 : (encCs cs).length ≤ 9063009 := hEL
  have hYs : BytesV AnyB w5 y1 (encI cs.length ++ cs.flatMap encC) := hY
  have hG := getint_any cs.length (by omega) (by omega) (cs.flatMap encC) y1 AnyB w5 hYs
  rw [atC_zero] at hG
  have HG := hid hG
  have hpos : 0 < (encCs cs).length := by unfold encCs; rw [List.length_append]; have := encI_pos cs.length; omega
  obtain ⟨ab, cb, rfl, hokb, hcapb, hmaxb⟩ := hY.form
  obtain ⟨bb, ob, rfl⟩ := hokb hpos
  have HAll := hid (atC_all cs)
  have HAt := hid (encCs_at cs)
  have HY := hid (fun W (h : Below w5.heap.size w5 W) => BytesV.keep hY (KeepS.below h))
  have HZ := hid (fun W (h : Below w5.heap.size w5 W) => ChV.keep hZ (KeepS.below h))
  have HB5 := hid b05
  clear hG hYs hY hy1 hz1 hZ b5 b04 b05 hEL hokb hpos
  generalize hN : (encCs cs).length = L at *
  have HN := hid hN
  clear hN
  have hc1 : ((cs.length : Int) != (cs.length : Int)) = false := bneF rfl
  go_wp2_with fail
  refine HG.out.mono ?_
  rintro e w' ⟨rfl, rfl⟩
  go_wp2
  go_loopw [10, 12] (fun p i wr => ∃ k : Nat, k ≤ cs.length ∧ i = .int .i64 k ∧ p = .int .i64 (atC cs k : Nat) ∧ Below w5.heap.size w5 wr) (fun _ i _ => cs.length - (intOf i).toNat)
  case atStart => exact ⟨0, by omega, rfl, rfl, Below.refl _ _⟩
  case round =>
    obtain ⟨k, hk, rfl, rfl, hb⟩ := hrel
    by_cases hlt : k < cs.length
    · have hat := HAt.out k hlt
      have hgood := G1.out _ (List.getElem_mem hlt)
      have hu1 : ChV AnyB wr (.slice q1 cs.length r1) cs := HZ.out wr hb
      obtain ⟨hbk, -, c0, c1, c2, c3, c4, ul, c5, hul⟩ := hu1.at hlt
      have hyb := HY.out wr hb
      generalize hck : cs[k] = c at *
      clear hck
      obtain ⟨v0, v1, v2, v3, v4, vs⟩ := c
      simp only at c0 c1 c2 c3 c4 hul hat
      obtain ⟨t1, t2, t3, t4⟩ := hat
      have f5 := lil_fit hgood.ints
      have fv := lil_fit hgood.vals
      have fl := hgood.len
      simp only at f5 fv fl
      obtain ⟨al', cl', rfl, -, -, -⟩ := hul.form
      have hp1 := encL_pos1 [v0, v1, v2, v3, v4]
      have hp2 := encL_pos1 vs
      have hrl : ((encCs cs).drop (atC cs k)).length ≤ 10000000 := by rw [List.length_drop, HN.out]; omega
      have hrl2 : ((encCs cs).drop (atC cs k + (encL [v0, v1, v2, v3, v4]).length)).length ≤ 10000000 := by rw [List.length_drop, HN.out]; omega
      have hyb' : BytesV AnyB wr (.slice (some ⟨bb, ob, none⟩) (encCs cs).length cb) (encCs cs) := by rw [HN.out]; exact hyb
      have hd1 := SlV.drop hyb' (atC cs k) (by rw [HN.out]; omega)
      have hd2 := SlV.drop hyb' (atC cs k + (encL [v0, v1, v2, v3, v4]).length) (by rw [HN.out]; omega)
      rw [HN.out, t1] at hd1
      rw [HN.out, t2] at hd2
      rw [t1] at hrl
      rw [t2] at hrl2
      have HG1 := hid (getints_any [v0, v1, v2, v3, v4] f5 (by simp) _ hrl _ AnyB wr hd1)
      have HG2 := hid (fun W (h : Below wr.heap.size wr W) => getints_any vs fv (by omega) _ hrl2 _ AnyB W (BytesV.keep hd2 (KeepS.below h)))
      have HU := hid hul
      have HT3 := hid t3
      have hz := hb.size
      have HB := hid hb
      clear hu1 hyb hyb' hd1 hd2 hrl hrl2 t1 t2 t3 hul hgood
      generalize (encL [v0, v1, v2, v3, v4]).length = j1 at *
      generalize (encL vs).length = j2 at *
      generalize atC cs k = p1 at *
      have hk0 : (0 : Int) ≤ k := by omega
      have hk1 : (k : Int) < cs.length := by omega
      have g1 : p1 < cb := by omega
      have g2 : (p1 : Int) ≤ L := by omega
      have g3 : p1 + j1 < cb := by omega
      have g4 : ((p1 : Int) + j1) ≤ L := by omega
      go_wp2_with fail
      refine HG1.out.mono ?_
      rintro e w6 ⟨x1, rfl, hx1, b6⟩
      obtain ⟨ax1, cx1, rfl, -, -, -⟩ := hx1.form
      have HX1 := hid hx1
      have e0 := cell_later b6 c0
      have e1 := cell_later b6 c1
      have e2 := cell_later b6 c2
      have e3 := cell_later b6 c3
      have e4 := cell_later b6 c4
      have e5 := cell_later b6 c5
      have hbk6 : slb q1 < w6.heap.size := by have := b6.size; omega
      have HB6 := hid b6
      clear hx1 b6 c0 c1 c2 c3 c4 c5 HG1
      go_wp2
      have hg := Grew.cell (w := w6)
      refine wp_region_grewS 31 [(true, 0), (true, 1), (true, 2), (true, 3), (true, 4), (true, 5), (true, 6), (true, 7), (true, 8), (true, 9), (true, 10), (true, 11), (true, 12), (true, 13), (true, 14), (true, 15), (true, 16), (true, 17), (true, 18), (true, 19), (true, 20), (true, 21), (true, 22), (true, 23), (true, 24), (true, 25), (true, 26), (true, 27), (true, 28), (false, 29), (false, 30)] (by kernel_rfl) (by kernel_rfl) ?_
      refine wpSteps_pre 29 (by decide) ?_
      simp only [List.take_succ_cons, List.take_zero]
      repeat (go_big_quiet_step (fail))
      refine wpQuiet_nil ?_
      refine wpSteps_one rfl ?_
      clear hg
      have hI : IntsV AnyB ((w6.drewN 1).alloc (.cells #[.int .i64 v0, .int .i64 v1, .int .i64 v2, .int .i64 v3, .int .i64 v4] 3)) (.slice (some ⟨w6.heap.size, 0, none⟩) 5 5) [v0, v1, v2, v3, v4] :=
        ints_blk [v0, v1, v2, v3, v4] (heap_new (w6.drewN 1) _ rfl) (by simp)
      have hb2 : Below w6.heap.size w6 ((w6.drewN 1).alloc (.cells #[.int .i64 v0, .int .i64 v1, .int .i64 v2, .int .i64 v3, .int .i64 v4] 3)) := (below_drewN (Below.refl _ _) 1).alloc (Nat.le_refl _) _
      go_wp2
      generalize hW2 : World.alloc _ _ = w7 at *
      clear hW2
      have HB7 := hid hb2
      refine qn_mk ⟨InGrew.of hb2, ?_⟩
      have HX7 := hid (IntsV.keep HX1.out (KeepS.below hb2))
      clear hb2
      refine wpSteps_one rfl ?_
      go_wp2_with fail
      refine (sameInts_any [v0, v1, v2, v3, v4] [v0, v1, v2, v3, v4] _ _ AnyB AnyB w7 HX7.out hI).mono ?_
      rw [decide_eq_true (rfl : [v0, v1, v2, v3, v4] = [v0, v1, v2, v3, v4])]
      rintro e w8 ⟨rfl, n8, rfl⟩
      have HB8 := hid (below_drewN HB7.out n8)
      clear hI HX7
      go_wp2
      refine qn_mk ⟨InGrew.of HB8.out, ?_⟩
      refine wpSteps_done ?_
      have e5' := cell_later HB8.out e5
      have hbk8 : slb q1 < (w7.drewN n8).heap.size := by have := HB8.out.size; omega
      have HB9 := hid (HB6.out.trans (HB8.out.mono HB6.out.size))
      have HU9 := hid (IntsV.keep HU.out (KeepS.below HB9.out))
      generalize w7.drewN n8 = w9 at *
      clear e0 e1 e2 e3 e4 e5 HB6 HB7 HB8 HX1 hbk6
      go_wp2_with fail
      refine (HG2.out w9 HB9.out).mono ?_
      rintro e w10 ⟨x2, rfl, hx2, b10⟩
      obtain ⟨ax2, cx2, rfl, -, -, -⟩ := hx2.form
      have e5'' := cell_later b10 e5'
      have hbk10 : slb q1 < w10.heap.size := by have := b10.size; omega
      have HU10 := hid (IntsV.keep HU9.out (KeepS.below b10))
      have HX2 := hid hx2
      have HB10 := hid (HB9.out.trans (b10.mono HB9.out.size))
      clear hx2 b10 e5' HU9 HB9 HG2
      go_wp2_with fail
      refine (sameInts_any vs vs _ _ AnyB AnyB w10 HX2.out HU10.out).mono ?_
      rw [decide_eq_true (rfl : vs = vs)]
      rintro e w11 ⟨rfl, n11, rfl⟩
      have HB11 := hid (HB.out.trans ((below_drewN HB10.out n11).mono hz))
      clear HB10 HU10 HX2 e5''
      go_wp2
      go_roundw
      case rel => exact ⟨k + 1, by omega, by go_num, by rw [← HT3.out]; go_num, HB11.out⟩
      case measure => simp [intOf]; omega
    · obtain rfl : k = cs.length := by omega
      rw [HAll.out]
      have hee : ((L : Int) == (L : Int)) = true := beqT rfl
      go_wp2_with fail
      refine (lives_any wr).mono ?_
      rintro e w17 ⟨rfl, b17⟩
      have b017 : Below w.heap.size w w17 := (HB5.out.trans (hb.mono HB5.out.size)).trans (b17.mono (by have := HB5.out.size; have := hb.size; omega))
      have B17 := hid b017
      clear b17 b017
      go_wp2
      go_ret
      exact ⟨rfl, B17.out⟩

end Go.Proofs.Ytagnjhhbbjbhcaa
