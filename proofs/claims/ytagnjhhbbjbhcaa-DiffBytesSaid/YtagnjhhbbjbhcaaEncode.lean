/- Encode of the program and of the reference. -/
import Derived.Test.YtagnjhhbbjbhcaaBytes
import Derived.Test.YtagnjhhbbjbhcaaA13
namespace Go.Proofs.Ytagnjhhbbjbhcaa
open Go.RowKit

/-- The numbers of a change fit int, and its values are few. -/
def EncOk (c : Chg) : Prop := Fit [c.kind, c.index, c.field, c.old, c.new] ∧ Fit c.values ∧ c.values.length ≤ 1000

theorem encCs_snoc (cs : List Chg) (k : Nat) (h : k < cs.length) : (encI cs.length ++ (cs.take k).flatMap encC) ++ encC cs[k] = encI cs.length ++ (cs.take (k + 1)).flatMap encC := by
  rw [← take_snoc h, List.flatMap_append]
  simp
theorem encC_len (c : Chg) (h : EncOk c) : (encC c).length ≤ 9063 := by
  unfold encC
  have h1 := encL_len [c.kind, c.index, c.field, c.old, c.new]
  have h2 := encL_len c.values
  have h3 := h.2.2
  rw [List.length_append]
  simp at h1
  omega
theorem encCs_len (cs : List Chg) (hc : cs.length ≤ 1000) (h : ∀ c ∈ cs, EncOk c) (k : Nat) : (encI cs.length ++ (cs.take k).flatMap encC).length ≤ 9063009 := by
  have h1 := encI_len9 cs.length
  have h2 := flat_len encC 9063 (cs.take k) (fun c hc => encC_len c (h c (List.mem_of_mem_take hc)))
  have h3 : (cs.take k).length ≤ 1000 := by simp; omega
  rw [List.length_append]
  omega
theorem encI_pos (n : Int) : 0 < (encI n).length := by rw [encI_len]; omega

/-- Three slices of bytes in a row that was just built. -/
theorem lit3B (w : World) (t : TypeId) {va vb vc : Value} {A B C : List Int} (hA : BytesV AnyB w va A) (hB : BytesV AnyB w vb B) (hC : BytesV AnyB w vc C) :
    SlV (BytesV AnyB) AnyB (w.alloc (.cells #[va, vb, vc] t)) (.slice (some ⟨w.heap.size, 0, none⟩) 3 3) [A, B, C] := by
  have hb : Below w.heap.size w (w.alloc (.cells #[va, vb, vc] t)) := (Below.refl _ _).alloc (Nat.le_refl _) _
  refine sl_blk [va, vb, vc] [A, B, C] (heap_new _ _ rfl) rfl (by simp) (fun j g1 g2 => ?_)
  match j, g1 with
  | 0, _ => exact hA.keep (KeepS.below hb)
  | 1, _ => exact hB.keep (KeepS.below hb)
  | 2, _ => exact hC.keep (KeepS.below hb)

set_option maxRecDepth 100000 in
set_option maxHeartbeats 4000000 in
theorem pencode_any (cs : List Chg) (hc : cs.length ≤ 1000) (hcv : ∀ c ∈ cs, EncOk c) (u : Value) (S : Nat → Prop) (w : World) (hu : ChV S w u cs) :
    Calls Try.prog 25 #[u] w fun e w' => ∃ v, e = .returned v ∧ OwnB w.heap.size w' v (encCs cs) ∧ Below w.heap.size w w' := by
  have hu0 := hu.mono (S' := AnyB) (fun _ _ _ => trivial)
  obtain ⟨a, cap, rfl, hok, hcap, hmax⟩ := hu.form
  clear hu
  go_enter Try.func25, Try.ntmps25
  go_wp2_with fail
  refine (wint_any cs.length (by omega) (by omega) w).mono ?_
  rintro e w1 ⟨v1, rfl, hown, hb⟩
  have HE : Hid (encI cs.length = encI cs.length ++ (cs.take 0).flatMap encC) := hid (by simp)
  rw [HE.out] at hown
  have HO := hid hown
  have HB := hid hb
  have HL := hid (encCs_len cs hc hcv)
  clear hown hb HE
  go_wp2
  go_loopw [3, 11] (fun v i wr => ∃ k : Nat, k ≤ cs.length ∧ i = .int .i64 k ∧ OwnB w.heap.size wr v (encI cs.length ++ (cs.take k).flatMap encC) ∧ Below w.heap.size w wr) (fun _ i _ => cs.length - (intOf i).toNat)
  case atStart => exact ⟨0, by omega, rfl, HO.out, HB.out⟩
  case round =>
    obtain ⟨k, hk, rfl, hown, hb⟩ := hrel
    by_cases hlt : k < cs.length
    · have hu1 : ChV AnyB wr (.slice a cs.length cap) cs := hu0.keep (KeepS.below hb)
      obtain ⟨hbk, -, c0, c1, c2, c3, c4, ul, c5, hul⟩ := hu1.at hlt
      have HS := hid (encCs_snoc cs k hlt)
      have hok1 := hcv _ (List.getElem_mem hlt)
      have hlen := HL.out k
      have hlen1 := encC_len _ hok1
      have hpos : 0 < (encI cs.length ++ (cs.take k).flatMap encC).length := by have := encI_pos cs.length; rw [List.length_append]; omega
      generalize encI cs.length ++ (cs.take k).flatMap encC = es at *
      generalize cs[k] = c at *
      obtain ⟨q0, q1, q2, q3, q4, vs⟩ := c
      simp only at c0 c1 c2 c3 c4 hul
      obtain ⟨f5, fv, fl⟩ := hok1
      simp only at f5 fv fl
      obtain ⟨al, cl, rfl, -, -, -⟩ := hul.form
      have hys := ownB_sl hown
      obtain ⟨ae, ce, rfl, -, -, -⟩ := hys.form
      have hk0 : (0 : Int) ≤ k := by omega
      have hk1 : (k : Int) < cs.length := by omega
      have hz := hb.size
      have HB2 := hid hb
      have HU := hid hul
      have HY := hid hys
      clear hown hb hul hys hu1
      go_wp2
      have hg := Grew.cell (w := wr.alloc (.cells #[.int .i64 q0, .int .i64 q1, .int .i64 q2, .int .i64 q3, .int .i64 q4, .slice al vs.length cl] 61))
      refine wp_region_grewS 16 [(true, 0), (true, 1), (true, 2), (true, 3), (true, 4), (true, 5), (true, 6), (true, 7), (true, 8), (true, 9), (true, 10), (true, 13), (true, 14), (false, 11), (false, 12), (false, 15)] (by kernel_rfl) (by kernel_rfl) ?_
      refine wpSteps_pre 11 (by decide) ?_
      simp only [List.take_succ_cons, List.take_zero]
      repeat (go_big_quiet_step (fail))
      refine wpQuiet_nil ?_
      refine wpSteps_quiet rfl ?_
      repeat (go_big_quiet_step (fail))
      refine wpQuiet_nil ?_
      refine wpSteps_quiet rfl ?_
      repeat (go_big_quiet_step (fail))
      refine wpQuiet_nil ?_
      refine wpSteps_one rfl ?_
      clear hg
      have hA1 : Below wr.heap.size wr (wr.alloc (.cells #[.int .i64 q0, .int .i64 q1, .int .i64 q2, .int .i64 q3, .int .i64 q4, .slice al vs.length cl] 61)) := (Below.refl _ _).alloc (Nat.le_refl _) _
      have HA1 := hid hA1
      clear hA1 c0 c1 c2 c3 c4 c5
      generalize hW : World.alloc wr _ = W at *
      have hzW := HA1.out.size
      clear hW
      have hI : IntsV AnyB ((W.drewN 1).alloc (.cells #[.int .i64 q0, .int .i64 q1, .int .i64 q2, .int .i64 q3, .int .i64 q4] 3)) (.slice (some ⟨W.heap.size, 0, none⟩) 5 5) [q0, q1, q2, q3, q4] :=
        ints_blk [q0, q1, q2, q3, q4] (heap_new (W.drewN 1) _ rfl) (by simp)
      have hb2 : Below W.heap.size W ((W.drewN 1).alloc (.cells #[.int .i64 q0, .int .i64 q1, .int .i64 q2, .int .i64 q3, .int .i64 q4] 3)) := (below_drewN (Below.refl _ _) 1).alloc (Nat.le_refl _) _
      go_wp2
      generalize hW2 : World.alloc _ _ = w2 at *
      clear hW2
      have HB3 := hid hb2
      refine qn_mk ⟨InGrew.of hb2, ?_⟩
      clear hb2
      refine wpSteps_one rfl ?_
      go_wp2_with fail
      refine (wints_any [q0, q1, q2, q3, q4] f5 (by simp) _ AnyB w2 hI).mono ?_
      rintro e w3 ⟨v3, rfl, hown3, hb3⟩
      have hy3 := ownB_sl hown3
      obtain ⟨a3, d3, rfl, -, -, -⟩ := hy3.form
      have hb03 : Below W.heap.size W w3 := HB3.out.trans (hb3.mono HB3.out.size)
      have HB4 := hid hb03
      have HY3 := hid hy3
      clear hown3 hb3 hI hy3
      go_wp2
      refine qn_mk ⟨InGrew.of HB4.out, ?_⟩
      clear hb03
      refine wpSteps_one rfl ?_
      have hbw : Below wr.heap.size wr w3 := HA1.out.trans (HB4.out.mono hzW)
      have hul3 := IntsV.keep HU.out (KeepS.below hbw)
      have hy03 := BytesV.keep HY.out (KeepS.below hbw)
      have HBW := hid hbw
      clear hbw
      go_wp2_with fail
      refine (wints_any vs fv (by omega) _ AnyB w3 hul3).mono ?_
      rintro e w4 ⟨v4, rfl, hown4, hb4⟩
      have hy4 := ownB_sl hown4
      obtain ⟨a4, d4, rfl, -, -, -⟩ := hy4.form
      have hb04 : Below W.heap.size W w4 := HB4.out.trans (hb4.mono HB4.out.size)
      have hy34 := BytesV.keep HY3.out (KeepS.below hb4)
      have hy04 := BytesV.keep hy03 (KeepS.below hb4)
      have hbw4 : Below wr.heap.size wr w4 := HBW.out.trans (hb4.mono HBW.out.size)
      have HBW4 := hid hbw4
      have HB5 := hid hb04
      have hL3 := lit3B w4 53 hy04 hy34 hy4
      have HL3 := hid hL3
      clear hown4 hb4 hul3 hy03 hy4 hy34 hy04 hL3 hbw4
      go_wp2
      refine qn_mk ⟨InGrew.of HB5.out, ?_⟩
      clear hb04
      refine wpSteps_done ?_
      have hfl : [es, encL [q0, q1, q2, q3, q4], encL vs].flatten.length = es.length + (encC ⟨q0, q1, q2, q3, q4, vs⟩).length := by unfold encC; simp
      have HF := hid hfl
      clear hfl
      go_wp2_with fail
      refine (concat_any [es, encL [q0, q1, q2, q3, q4], encL vs] (by simp) (by have := HF.out; omega) (by have := HF.out; omega) _ AnyB AnyB _ HL3.out).mono ?_
      rintro e w5 ⟨v5, rfl, hown5, hb5⟩
      have hfin : OwnB w.heap.size w5 v5 (encI cs.length ++ (cs.take (k + 1)).flatMap encC) := by
        rw [← HS.out]
        have e : [es, encL [q0, q1, q2, q3, q4], encL vs].flatten = es ++ encC ⟨q0, q1, q2, q3, q4, vs⟩ := by unfold encC; simp
        rw [← e]
        exact ownB_mono hown5 (by have := HBW4.out.size; simp; omega)
      have hbf : Below w.heap.size w w5 := (HB2.out.trans (HBW4.out.mono hz)).trans ((Below.refl w4.heap.size w4).alloc (Nat.le_refl _) _ |>.mono (by have := HBW4.out.size; omega) |>.trans (hb5.mono (by have := HBW4.out.size; simp; omega)))
      clear hown5 hb5 HS HF
      go_wp2
      go_roundw
      case rel => exact ⟨k + 1, by omega, by go_num, hfin, hbf⟩
      case measure => simp [intOf]; omega
    · obtain rfl : k = cs.length := by omega
      rw [List.take_length] at hown
      have HO2 := hid hown
      clear hown
      go_wp2
      go_ret
      exact ⟨_, rfl, HO2.out, hb⟩

set_option maxRecDepth 100000 in
set_option maxHeartbeats 4000000 in
theorem rencode_any (cs : List Chg) (hc : cs.length ≤ 1000) (hcv : ∀ c ∈ cs, EncOk c) (u : Value) (S : Nat → Prop) (w : World) (hu : ChV S w u cs) :
    Calls Try.prog 26 #[u] w fun e w' => ∃ v, e = .returned v ∧ OwnB w.heap.size w' v (encCs cs) ∧ Below w.heap.size w w' := by
  have hu0 := hu.mono (S' := AnyB) (fun _ _ _ => trivial)
  obtain ⟨a, cap, rfl, hok, hcap, hmax⟩ := hu.form
  clear hu
  go_enter Try.func26, Try.ntmps26
  go_wp2_with fail
  refine (rint_any cs.length (by omega) (by omega) w).mono ?_
  rintro e w1 ⟨v1, rfl, hown, hb⟩
  have HE : Hid (encI cs.length = encI cs.length ++ (cs.take 0).flatMap encC) := hid (by simp)
  rw [HE.out] at hown
  have HO := hid hown
  have HB := hid hb
  have HL := hid (encCs_len cs hc hcv)
  clear hown hb HE
  go_wp2
  go_loopw [3, 4] (fun v i wr => ∃ k : Nat, k ≤ cs.length ∧ i = .int .i64 k ∧ OwnB w.heap.size wr v (encI cs.length ++ (cs.take k).flatMap encC) ∧ Below w.heap.size w wr) (fun _ i _ => cs.length - (intOf i).toNat)
  case atStart => exact ⟨0, by omega, rfl, HO.out, HB.out⟩
  case round =>
    obtain ⟨k, hk, rfl, hown, hb⟩ := hrel
    by_cases hlt : k < cs.length
    · have hu1 : ChV AnyB wr (.slice a cs.length cap) cs := hu0.keep (KeepS.below hb)
      obtain ⟨hbk, -, c0, c1, c2, c3, c4, ul, c5, hul⟩ := hu1.at hlt
      have HAT := hid (fun W (h : Below w.heap.size w W) => (hu0.keep (KeepS.below h)).at hlt)
      have HS := hid (encCs_snoc cs k hlt)
      have hok1 := hcv _ (List.getElem_mem hlt)
      have hlen := HL.out k
      have hlen1 := encC_len _ hok1
      generalize encI cs.length ++ (cs.take k).flatMap encC = es at *
      generalize cs[k] = c at *
      obtain ⟨q0, q1, q2, q3, q4, vs⟩ := c
      simp only at c0 c1 c2 c3 c4 hul
      obtain ⟨f5, fv, fl⟩ := hok1
      simp only at f5 fv fl
      obtain ⟨al, cl, rfl, -, -, -⟩ := hul.form
      have hk0 : (0 : Int) ≤ k := by omega
      have hk1 : (k : Int) < cs.length := by omega
      have hz := hb.size
      have HB2 := hid hb
      have HU := hid hul
      have HO2 := hid hown
      clear hown hb hul hu1
      go_wp2
      have hg := Grew.cell (w := wr)
      refine wp_region_grewS 28 [(true, 0), (true, 1), (true, 2), (true, 3), (true, 4), (true, 5), (true, 6), (true, 7), (true, 8), (true, 9), (true, 10), (true, 11), (true, 12), (true, 13), (true, 14), (true, 15), (true, 16), (true, 17), (true, 18), (true, 19), (true, 20), (true, 21), (true, 22), (true, 23), (true, 24), (true, 25), (false, 26), (false, 27)] (by kernel_rfl) (by kernel_rfl) ?_
      refine wpSteps_pre 26 (by decide) ?_
      simp only [List.take_succ_cons, List.take_zero]
      repeat (go_big_quiet_step (fail))
      refine wpQuiet_nil ?_
      refine wpSteps_one rfl ?_
      clear hg
      have hI : IntsV AnyB ((wr.drewN 1).alloc (.cells #[.int .i64 q0, .int .i64 q1, .int .i64 q2, .int .i64 q3, .int .i64 q4] 3)) (.slice (some ⟨wr.heap.size, 0, none⟩) 5 5) [q0, q1, q2, q3, q4] :=
        ints_blk [q0, q1, q2, q3, q4] (heap_new (wr.drewN 1) _ rfl) (by simp)
      have hb2 : Below wr.heap.size wr ((wr.drewN 1).alloc (.cells #[.int .i64 q0, .int .i64 q1, .int .i64 q2, .int .i64 q3, .int .i64 q4] 3)) := (below_drewN (Below.refl _ _) 1).alloc (Nat.le_refl _) _
      go_wp2
      generalize hW2 : World.alloc _ _ = w2 at *
      clear hW2
      have HB3 := hid hb2
      refine qn_mk ⟨InGrew.of hb2, ?_⟩
      clear hb2
      refine wpSteps_one rfl ?_
      go_wp2_with fail
      refine (rints_any [q0, q1, q2, q3, q4] f5 (by simp) _ AnyB w2 hI).mono ?_
      rintro e w3 ⟨v3, rfl, hown3, hb3⟩
      have hy3 := ownB_sl hown3
      obtain ⟨a3, d3, rfl, -, -, -⟩ := hy3.form
      have hb03 : Below wr.heap.size wr w3 := HB3.out.trans (hb3.mono HB3.out.size)
      have HB4 := hid hb03
      have HY3 := hid hy3
      have HO3 := hid (ownB_below HO2.out hb03)
      have HB5 := hid (HB2.out.trans (hb03.mono hz))
      clear hown3 hb3 hI hy3
      go_wp2
      refine qn_mk ⟨InGrew.of HB4.out, ?_⟩
      clear hb03
      refine wpSteps_done ?_
      have hl5 : (encL [q0, q1, q2, q3, q4]).length ≤ 100 := by have := encL_len [q0, q1, q2, q3, q4]; simp at this; omega
      have HE5 : Hid ((es ++ encL [q0, q1, q2, q3, q4]) ++ encL vs = encI cs.length ++ (cs.take (k + 1)).flatMap encC) := hid (by
        rw [← HS.out]; unfold encC; simp)
      clear HS
      generalize encL [q0, q1, q2, q3, q4] = L5 at *
      have hsm : es.length + L5.length ≤ 1000000000 := by omega
      have hsm2 : (es ++ L5).length ≤ 10000000 := by rw [List.length_append]; omega
      have HSM := hid hsm
      clear hsm
      refine wpList_appB rfl _ _ rfl Try.appB rfl HO3.out rfl HY3.out HSM.out HB5.out.size HB5.out (Nat.le_refl _) ?_
      intro v4 w4 hown4 hb4
      have hy4 := ownB_sl hown4
      obtain ⟨a4, n4, d4, rfl⟩ : ∃ a l c, v4 = .slice a l c := by obtain ⟨a, c, e, _⟩ := hy4.form; exact ⟨_, _, _, e⟩
      obtain ⟨-, -, -, -, -, -, -, ul2, c5', hul4⟩ := HAT.out w4 hb4
      obtain ⟨al2, cl2, rfl, -, -, -⟩ := hul4.form
      generalize es ++ L5 = es2 at *
      have hlv := encL_len vs
      have HO4 := hid hown4
      have hz4 := hb4.size
      have HB6 := hid hb4
      clear hown4 hb4 HO3 HB5 HB4 HB3 HY3 HO2 HSM HAT hy4 hbk c0 c1 c2 c3 c4 c5
      go_wp2_with fail
      refine (rints_any vs fv (by omega) _ AnyB w4 hul4).mono ?_
      rintro e w5 ⟨v5, rfl, hown5, hb5⟩
      have hy5 := ownB_sl hown5
      obtain ⟨a5, d5, rfl, -, -, -⟩ := hy5.form
      have hO5 := ownB_below HO4.out hb5
      have hB7 := HB6.out.trans (hb5.mono hz4)
      clear hown5 hb5 hul4 c5'
      go_wp2_with (at_builtin; go_must (refine wpList_appB rfl _ _ rfl Try.appB rfl hO5 rfl hy5 (by omega) hB7.size hB7 (Nat.le_refl _) ?_))
      intro v6 w6 hown6 hb6
      rw [HE5.out] at hown6
      clear hO5 hB7 hy5 HE5
      go_wp2
      go_roundw
      case rel => exact ⟨k + 1, by omega, by go_num, hown6, hb6⟩
      case measure => simp [intOf]; omega
    · obtain rfl : k = cs.length := by omega
      rw [List.take_length] at hown
      have HO2 := hid hown
      clear hown
      go_wp2
      go_ret
      exact ⟨_, rfl, HO2.out, hb⟩

end Go.Proofs.Ytagnjhhbbjbhcaa
