/- Check of the reference, on valid problems. -/
import Derived.Test.YtjaejnacdanpkaaDoorB46
namespace Go.Proofs.YtjaejnacdanpkaaDoor
open Go.RowKit

theorem grew_same {P : Program} {f : FuncId} {args : Array Value} {w : World} {x : Grew w} {v : Value} (h : Calls P f args x.1 fun e w' => e = .returned v ∧ w' = x.1) : Calls P f args x.1 fun e w'' => e = .returned v ∧ ∃ y : Grew w, w'' = y.1 :=
  h.mono fun _ _ ⟨he, h⟩ => ⟨he, x, h⟩
theorem grew_drew {P : Program} {f : FuncId} {args : Array Value} {w : World} {x : Grew w} {v : Value} (h : Calls P f args x.1 fun e w' => e = .returned v ∧ ∃ n, w' = x.1.drewN n) : Calls P f args x.1 fun e w'' => e = .returned v ∧ ∃ y : Grew w, w'' = y.1 :=
  h.mono fun _ _ ⟨he, n, h⟩ => ⟨he, ⟨x.1.drewN n, below_drewN x.2 n⟩, h⟩
theorem risF_eq (m : Nat) : ∀ (l : List Int) (p : Int), risF m p l = Cov.ris m p l
  | [], _ => rfl
  | x :: l, p => by simp only [risF, Cov.ris, risF_eq m l x]
theorem ris_set {m : Nat} {l : List Int} (h : risF m (-1) l = true) : ∀ k ∈ l, 0 ≤ k ∧ k < m := by
  rw [risF_eq] at h
  exact Cov.ris_range l (-1) (by omega) h
theorem all_take {α : Type} (p : α → Bool) (xs : List α) (k : Nat) (h : k < xs.length) : (xs.take (k + 1)).all p = ((xs.take k).all p && p xs[k]) := by
  rw [← take_snoc h, List.all_append]; simp

/-- What Check returns for a valid problem. -/
def chkE (ns : List Nat) (F : List (List Int)) (tn : Nat) (rows left why : List (List Int)) : Int := if Cov.checkB ns F tn rows left why = true then 0 else 15

set_option maxRecDepth 100000 in
set_option maxHeartbeats 8000000 in
theorem rcheck_ok (ns : List Nat) (F : List (List Int)) (tn : Nat) (ho : OkP ns F tn) (hv : validE (szI ns) F tn = 0) (rows left why : List (List Int)) (vr vl vw : Value) (sa : Option Addr) (sc : Nat) (fa : Option Addr) (fc : Nat) (S T S3 S4 S5 : Nat → Prop) (w : World)
    (hs : IntsV S w (.slice sa ns.length sc) (szI ns)) (hf : RowsV T w (.slice fa F.length fc) F) (hr : RowsV S3 w vr rows) (hlf : RowsV S4 w vl left) (hwy : RowsV S5 w vw why) :
    Calls Tryd.prog 19 #[.agg #[.slice sa ns.length sc, .slice fa F.length fc, .int .i64 tn], vr, vl, vw] w fun e w' => e = .returned (.int .i64 (chkE ns F tn rows left why)) ∧ Below w.heap.size w w' := by
  have hl := ho.len
  have hFl := ho.few
  have hr0 := RowsV.mono hr (S' := (· < w.heap.size)) (fun b h _ => h)
  have hl0 := RowsV.mono hlf (S' := (· < w.heap.size)) (fun b h _ => h)
  have hw0 := RowsV.mono hwy (S' := (· < w.heap.size)) (fun b h _ => h)
  obtain ⟨ra, rc, rfl, hokr, hcapr, hmaxr⟩ := hr.form
  obtain ⟨la, lc, rfl, hokl, hcapl, hmaxl⟩ := hlf.form
  obtain ⟨ya, yc, rfl, hoky, hcapy, hmaxy⟩ := hwy.form
  obtain ⟨sa', sc', es, hoks, hcaps, hmaxs⟩ := hs.form
  rw [List.length_map] at es hoks hcaps
  cases es
  obtain ⟨fa', fc', ef, hokf, hcapf, hmaxf⟩ := hf.form
  cases ef
  have hb1 : Below w.heap.size w (w.alloc (.cells #[.slice sa ns.length sc, .slice fa F.length fc, .int .i64 tn] 25)) := (Below.refl _ _).alloc (Nat.le_refl _) _
  have HVal := hid (by have := valid_any (szI ns) (by simp; omega) F (by omega) (fun c hc => by rw [(ho.gaps c hc).1]; omega) tn sa sc fa fc S T _ (by simpa using hs.keep (KeepS.below hb1)) (hf.keep (KeepS.below hb1)); rw [hv, List.length_map] at this; exact this)
  have HIn := hid (And.intro hs (And.intro hf (And.intro hr0 (And.intro hl0 hw0))))
  have HB := hid hb1
  have HO := hid ho
  have hbox := World.alloc_heap_new w (.cells #[.slice sa ns.length sc, .slice fa F.length fc, .int .i64 tn] 25)
  obtain ⟨W1, hW1⟩ : ∃ W1, W1 = w.alloc (.cells #[.slice sa ns.length sc, .slice fa F.length fc, .int .i64 tn] 25) := ⟨_, rfl⟩
  have hs1 : W1.heap.size = w.heap.size + 1 := by rw [hW1]; simp
  rw [← hW1] at hbox HB HVal
  have H1 := hid (And.intro hs1 hbox)
  have HRes : Hid (chkE ns F tn rows left why = if Cov.checkB ns F tn rows left why = true then 0 else 15) := hid rfl
  have HChk : Hid (Cov.checkB ns F tn rows left why = ((rows.all fun r => Cov.rowB ns r && Cov.allowed F r) && (decide (left.length = why.length) && (((List.range left.length).all fun i => Cov.oneOK ns F tn (Cov.prevOf left i) (left.getD i []) (why.getD i [])) && ((Cov.asked ns tn).all fun c => decide (c ∈ left) || Cov.inR rows c))))) := hid rfl
  have htr : tn ≤ 3 := ho.t.2.1
  clear hs hf hb1 hv ho hbox hs1 hr hlf hwy hr0 hl0 hw0
  generalize chkE ns F tn rows left why = RES at *
  generalize Cov.checkB ns F tn rows left why = CHK at *
  go_enter Tryd.func19, Tryd.ntmps19
  go_wp2_with fail
  rw [← hW1]
  clear hW1
  refine HVal.out.mono ?_
  rintro e w1 ⟨rfl, hb1⟩
  have HBX : Hid (∀ W, Below W1.heap.size W1 W → W.cell? ⟨w.heap.size, 0, none⟩ = some (.slice sa ns.length sc) ∧ W.cell? ⟨w.heap.size, 1, none⟩ = some (.slice fa F.length fc) ∧ W.cell? ⟨w.heap.size, 2, none⟩ = some (.int .i64 tn)) := hid (fun W hW => by
    have h0 := (hW.block w.heap.size (by have := H1.out.1; omega)).trans H1.out.2
    exact ⟨cell_of_row _ _ 0 _ _ (0, 0) h0, cell_of_row _ _ 1 _ _ (0, 0) h0, cell_of_row _ _ 2 _ _ (0, 0) h0⟩)
  have HBW : Hid (∀ W, Below W1.heap.size W1 W → Below w.heap.size w W) := hid (fun W hW => HB.out.trans (hW.mono (by have := H1.out.1; omega)))
  have HB1 := hid hb1
  clear hb1 HVal
  go_wp2
  go_loopw [10] (fun i wr => ∃ k : Nat, k ≤ rows.length ∧ i = .int .i64 k ∧ Hid ((rows.take k).all (fun r => Cov.rowB ns r && Cov.allowed F r) = true) ∧ Below W1.heap.size W1 wr) (fun i _ => rows.length - (intOf i).toNat)
  case atStart => exact ⟨0, by omega, rfl, hid rfl, HB1.out⟩
  case round =>
    obtain ⟨k, hk, rfl, hpre, hb⟩ := hrel
    have hbw := HBW.out wr hb
    obtain ⟨bx0, bx1, bx2⟩ := HBX.out wr hb
    have hzr : w.heap.size < wr.heap.size := by have := hb.size; have := H1.out.1; omega
    have hzw : W1.heap.size ≤ wr.heap.size := hb.size
    by_cases hlt : k < rows.length
    · have hk0 : (0 : Int) ≤ k := by omega
      have hk1 : (k : Int) < rows.length := by omega
      obtain ⟨hs, hf, hr0, hl0, hw0⟩ := HIn.out
      obtain ⟨ur, hcr, hbr, hrr⟩ := (RowsV.keep hr0 (KeepS.below hbw)).at hlt
      have hbr2 : slb ra < wr.heap.size := by have := hbw.size; omega
      obtain ⟨ae, ce, rfl, hokc, hcapc, hmaxc⟩ := hrr.form
      have HT := hid (all_take (fun r => Cov.rowB ns r && Cov.allowed F r) rows k hlt)
      have HBad : Hid ((Cov.rowB ns rows[k] && Cov.allowed F rows[k]) = false → RES = 15) := hid (fun h => by
        have : rows.all (fun r => Cov.rowB ns r && Cov.allowed F r) = false := List.all_eq_false.2 ⟨rows[k], List.getElem_mem hlt, by rw [h]; decide⟩
        rw [HRes.out, HChk.out, this]
        rfl)
      have HC := hid (fun (x : Grew wr) => Calls.grew_of (x := x) (combo_any ns rows[k] (by omega) (fun n hn => by have := HO.out.le n hn; omega) sa sc (.slice fa F.length fc) (.int .i64 tn) (.slice ae rows[k].length ce) fa F.length fc tn rfl rfl S (· < w.heap.size) x.1
          (IntsV.keep (IntsV.keep hs (KeepS.below hbw)) (KeepS.below x.2)) (IntsV.keep hrr (KeepS.below x.2))))
      have HVl := hid (fun (h : rows[k].length ≤ 100000) (x : Grew wr) => grew_same (values_any rows[k] h (.slice ae rows[k].length ce) (· < w.heap.size) x.1 (IntsV.keep hrr (KeepS.below x.2))))
      have HAl := hid (fun (h : rows[k].length = ns.length) (X : World) (hX : Below W1.heap.size W1 X) (hrX : IntsV (· < w.heap.size) X (.slice ae rows[k].length ce) rows[k]) => allowed_any F rows[k] (fun c hc => by rw [h, (HO.out.gaps c hc).1]) (by omega) (.slice sa ns.length sc) sa ns.length sc rfl fa fc tn (.slice ae rows[k].length ce) T (· < w.heap.size) X (RowsV.keep hf (KeepS.below (HBW.out X hX))) hrX)
      have HRow := hid (Cov.rowB_eq ns rows[k])
      have HLen := hid (Cov.comboB_len ns rows[k])
      have HPRE := hid hpre.out
      have HRR := hid hrr
      have HBB := hid hb
      clear hrr hs hf hr0 hl0 hw0 hb hbw hpre
      generalize rows[k] = r at *
      have hg := Grew.cell (w := wr)
      generalize hcb : Cov.comboB ns r = cb at *
      cases cb with
      | false =>
        have HY := hid (HBad.out (by rw [HRow.out]; rfl))
        clear HBad HRow HT HLen hcb
        go_wp2
        refine wp_region_quietG (by kernel_rfl) (by kernel_rfl) ?_
        repeat (go_big_quiet_step (first | exact HC.out _))
        refine wpQuiet_nil ?_
        intro w2 hx
        have HB2 := hid (HBW.out w2 (HBB.out.trans ((grew_below hx).mono hzw)))
        clear hx hg
        go_wp2
        go_ret
        exact ⟨ret_int HY.out.symm, HB2.out⟩
      | true =>
        have hrl := HLen.out rfl
        have HVl2 := hid (HVl.out (by omega))
        have HAl2 := hid (HAl.out hrl)
        clear HVl HAl hcb
        by_cases hvr : Cov.vals r = ns.length
        · have hd : (((Cov.vals r : Nat) : Int) != (ns.length : Int)) = false := bneF (by omega)
          have HRow2 : Hid (Cov.rowB ns r = true) := hid (by rw [HRow.out, decide_eq_true hvr]; rfl)
          have hrlH := hid hrl
          clear HRow HLen hvr hrl
          generalize Cov.vals r = vr at *
          generalize Cov.rowB ns r = rb at *
          generalize Cov.allowed F r = ab at *
          go_wp2
          refine wp_region_quietG (by kernel_rfl) (by kernel_rfl) ?_
          repeat (go_big_quiet_step (first | exact HC.out _ | exact HVl2.out _))
          refine wpQuiet_nil ?_
          intro w2 hx
          have hbk2 := hbr
          have hb2 : Below W1.heap.size W1 w2 := HBB.out.trans ((grew_below hx).mono hzw)
          obtain ⟨bx0', bx1', bx2'⟩ := HBX.out w2 hb2
          have hcr2 : w2.cell? ⟨slb ra, slo ra + k, none⟩ = some (.slice ae r.length ce) := ((grew_below hx).cell (p := ⟨slb ra, slo ra + k, none⟩) hbr2).trans hcr
          have hzr2 : w.heap.size < w2.heap.size := by have := (grew_below hx).size; omega
          have hbr3 : slb ra < w2.heap.size := by have := (grew_below hx).size; omega
          have HRR2 := hid (IntsV.keep HRR.out (KeepS.below (grew_below hx)))
          have HA2 := hid (fun (x : Grew w2) => Calls.grew_of (x := x) (HAl2.out x.1 (hb2.trans (x.2.mono hb2.size)) (IntsV.keep HRR2.out (KeepS.below x.2))))
          have HB2 := hid hb2
          have hzw2 : W1.heap.size ≤ w2.heap.size := hb2.size
          clear hx hg hb2 bx0 bx1 bx2 hcr
          have hg := Grew.cell (w := w2)
          cases ab with
          | false =>
            have HY := hid (HBad.out (by rw [HRow2.out]; rfl))
            clear HBad HRow2 HT
            go_wp2
            refine wp_region_quietG (by kernel_rfl) (by kernel_rfl) ?_
            repeat (go_big_quiet_step (first | exact HA2.out _))
            refine wpQuiet_nil ?_
            intro w3 hx
            have HB3 := hid (HBW.out w3 (HB2.out.trans ((grew_below hx).mono hzw2)))
            clear hx hg
            go_wp2
            go_ret
            exact ⟨ret_int HY.out.symm, HB3.out⟩
          | true =>
            have HN : Hid ((rows.take (k + 1)).all (fun r => Cov.rowB ns r && Cov.allowed F r) = true) := hid (by rw [HT.out, HPRE.out, HRow2.out]; rfl)
            clear HBad HRow2 HT
            go_wp2
            refine wp_region_quietG (by kernel_rfl) (by kernel_rfl) ?_
            repeat (go_big_quiet_step (first | exact HA2.out _))
            refine wpQuiet_nil ?_
            intro w3 hx
            have HB3 := hid (HB2.out.trans ((grew_below hx).mono hzw2))
            clear hx hg
            go_wp2
            go_roundw
            case rel => exact ⟨k + 1, by omega, by go_num, HN, HB3.out⟩
            case measure => simp [intOf]; omega
        · have hd : (((Cov.vals r : Nat) : Int) != (ns.length : Int)) = true := bneT (by omega)
          have HY := hid (HBad.out (by rw [HRow.out, decide_eq_false hvr]; rfl))
          clear HBad HRow HT HLen hvr HAl2 hrl
          generalize Cov.vals r = vr at *
          go_wp2
          refine wp_region_quietG (by kernel_rfl) (by kernel_rfl) ?_
          repeat (go_big_quiet_step (first | exact HC.out _ | exact HVl2.out _))
          refine wpQuiet_nil ?_
          intro w2 hx
          have HB2 := hid (HBW.out w2 (HBB.out.trans ((grew_below hx).mono hzw)))
          clear hx hg
          go_wp2
          go_ret
          exact ⟨ret_int HY.out.symm, HB2.out⟩
    · obtain rfl : k = rows.length := by omega
      have hrows := hpre.out
      rw [List.take_length] at hrows
      have HRows := hid hrows
      have HB0 := hid hb
      clear hpre hrows hb hbw
      by_cases hlen : left.length = why.length
      · have dl : ((left.length : Int) != (why.length : Int)) = false := bneF (by omega)
        have HChk2 : Hid (RES = if (((List.range left.length).all fun i => Cov.oneOK ns F tn (Cov.prevOf left i) (left.getD i []) (why.getD i [])) && ((Cov.asked ns tn).all fun c => decide (c ∈ left) || Cov.inR rows c)) = true then 0 else 15) := hid (by
          rw [HRes.out, HChk.out, HRows.out, decide_eq_true hlen]; rfl)
        have HLen := hid hlen
        have HAll := hid (fun X (hb : Below w.heap.size w X) => all_any false ns HO.out.le hl sa sc fa F.length fc tn S X (IntsV.keep HIn.out.1 (KeepS.below hb)))
        clear hlen HChk HRes
        have HAll2 := hid (HAll.out wr (HBW.out wr HB0.out))
        clear HAll
        go_wp2_with fail
        refine HAll2.out.mono ?_
        rintro e w4 ⟨xr, rfl, hxr, hb4⟩
        have hb4' := HB0.out.trans (hb4.mono HB0.out.size)
        have HXR := hid (RowsV.mono (S' := (· < w4.heap.size)) hxr (fun b h _ => h))
        have HB4 := hid hb4'
        have HRl := hid (allP_len false ns)
        obtain ⟨ar, cr, rfl, hokR, hcapR, hmaxR⟩ := hxr.form
        have hsz4 : W1.heap.size ≤ w4.heap.size := hb4'.size
        have HRd : Hid (allP false ns = Cov.rowsC ns) := hid rfl
        clear hxr hb4 hb4' HAll2 bx0 bx1 bx2 HB0
        generalize allP false ns = R at *
        go_wp2
        go_loopw [12] (fun i wr => ∃ k : Nat, k ≤ left.length ∧ i = .int .i64 k ∧ Hid (((List.range k).all fun i => Cov.oneOK ns F tn (Cov.prevOf left i) (left.getD i []) (why.getD i [])) = true) ∧ Below w4.heap.size w4 wr) (fun i _ => left.length - (intOf i).toNat)
        case atStart => exact ⟨0, by omega, rfl, hid rfl, Below.refl _ _⟩
        case round =>
          obtain ⟨k, hk, rfl, hpre, hb⟩ := hrel
          have hb1 : Below W1.heap.size W1 wr := HB4.out.trans (hb.mono hsz4)
          have hbw := HBW.out wr hb1
          obtain ⟨bx0, bx1, bx2⟩ := HBX.out wr hb1
          have hzr : w.heap.size < wr.heap.size := by have := hb1.size; have := H1.out.1; omega
          have hzw : w4.heap.size ≤ wr.heap.size := hb.size
          by_cases hlt : k < left.length
          · have hk0 : (0 : Int) ≤ k := by omega
            have hk1 : (k : Int) < left.length := by omega
            have hlt2 : k < why.length := by rw [← HLen.out]; exact hlt
            have hk2 : (k : Int) < why.length := by omega
            obtain ⟨hs, hf, hr0, hl0, hw0⟩ := HIn.out
            obtain ⟨ur, hcr, hbr, hrr⟩ := (RowsV.keep hl0 (KeepS.below hbw)).at hlt
            obtain ⟨uy, hcy, hby, hyy⟩ := (RowsV.keep hw0 (KeepS.below hbw)).at hlt2
            have hbr2 : slb la < wr.heap.size := by have := hbw.size; omega
            have hby2 : slb ya < wr.heap.size := by have := hbw.size; omega
            obtain ⟨ae, ce, rfl, hokc, hcapc, hmaxc⟩ := hrr.form
            obtain ⟨be, de, rfl, hoky2, hcapy2, hmaxy2⟩ := hyy.form
            have HT : Hid (((List.range (k + 1)).all fun i => Cov.oneOK ns F tn (Cov.prevOf left i) (left.getD i []) (why.getD i [])) = Cov.oneOK ns F tn (Cov.prevOf left k) left[k] why[k]) := hid (by
              rw [List.range_succ, List.all_append, hpre.out]
              simp only [List.all_cons, List.all_nil, Bool.and_true, Bool.true_and]
              rw [getD_at hlt, getD_at hlt2])
            have HBad : Hid (Cov.oneOK ns F tn (Cov.prevOf left k) left[k] why[k] = false → RES = 15) := hid (fun h => by
              have : ((List.range left.length).all fun i => Cov.oneOK ns F tn (Cov.prevOf left i) (left.getD i []) (why.getD i [])) = false := List.all_eq_false.2 ⟨k, List.mem_range.2 hlt, by rw [getD_at hlt, getD_at hlt2, h]; decide⟩
              rw [HChk2.out, this]
              rfl)
            have HOne : Hid (Cov.oneOK ns F tn (Cov.prevOf left k) left[k] why[k] = (Cov.comboB ns left[k] && (decide (Cov.vals left[k] = tn) && (risF F.length (-1) why[k] && (Cov.ltO (Cov.prevOf left k) left[k] && Cov.showsB ns F left[k] why[k]))))) := hid (by rw [risF_eq]; rfl)
            have HC := hid (fun (x : Grew wr) => Calls.grew_of (x := x) (combo_any ns left[k] (by omega) (fun n hn => by have := HO.out.le n hn; omega) sa sc (.slice fa F.length fc) (.int .i64 tn) (.slice ae left[k].length ce) fa F.length fc tn rfl rfl S (· < w.heap.size) x.1
                (IntsV.keep (IntsV.keep hs (KeepS.below hbw)) (KeepS.below x.2)) (IntsV.keep hrr (KeepS.below x.2))))
            have HVl := hid (fun (h : left[k].length ≤ 100000) (x : Grew wr) => grew_same (values_any left[k] h (.slice ae left[k].length ce) (· < w.heap.size) x.1 (IntsV.keep hrr (KeepS.below x.2))))
            have HRi := hid (fun (x : Grew wr) => Calls.grew_of (x := x) (rising_any F.length why[k] (.slice sa ns.length sc) (.int .i64 tn) (.slice be why[k].length de) ⟨_, _, _, rfl⟩ ⟨_, rfl⟩ fa fc (· < w.heap.size) x.1 (IntsV.keep hyy (KeepS.below x.2))))
            have HSh := hid (fun (h : left[k].length = ns.length) (h2 : risF F.length (-1) why[k] = true) (X : World) (hX : Below w4.heap.size w4 X) (hc : IntsV (· < w.heap.size) X (.slice ae left[k].length ce) left[k]) (hy : IntsV (· < w.heap.size) X (.slice be why[k].length de) why[k]) =>
              shows_any ns.length R F left[k] why[k] HRl.out (fun f hf => (HO.out.gaps f hf).1) h (ris_set h2) (.slice sa ns.length sc) sa ns.length sc rfl fa fc tn (.slice ar R.length cr) (.slice ae left[k].length ce) (.slice be why[k].length de) T (· < w4.heap.size) (· < w.heap.size) (· < w.heap.size) X
                (RowsV.keep hf (KeepS.below (HBW.out X (HB4.out.trans (hX.mono hsz4))))) (RowsV.keep HXR.out (KeepS.below hX)) hc hy)
            have HLc := hid (Cov.comboB_len ns left[k])
            have HRR := hid (And.intro hrr hyy)
            have HBB := hid hb
            have HPv : Hid (k = 0 → Cov.ltO (Cov.prevOf left k) left[k] = true) := hid (fun h => by unfold Cov.prevOf; rw [if_pos h]; rfl)
            have HPv2 : Hid (∀ (h0 : 0 < k), Cov.ltO (Cov.prevOf left k) left[k] = Cov.ltL (left[k - 1]'(by omega)) left[k]) := hid (fun h0 => by unfold Cov.prevOf; rw [if_neg (by omega), List.getElem?_eq_getElem (by omega)]; rfl)
            have HBe : Hid (∀ (h0 : 0 < k), ∃ (pa : Option Addr) (pc : Nat), wr.cell? ⟨slb la, slo la + (k - 1), none⟩ = some (.slice pa (left[k - 1]'(by omega)).length pc) ∧ ∀ x : Grew wr, Calls Tryd.prog 51 #[.slice pa (left[k - 1]'(by omega)).length pc, .slice ae left[k].length ce] x.1 fun e w'' => e = .returned (.bool (Cov.ltL (left[k - 1]'(by omega)) left[k])) ∧ ∃ y : Grew wr, w'' = y.1) := hid (fun h0 => by
              obtain ⟨up, hcp, hbp, hpp⟩ := (RowsV.keep hl0 (KeepS.below hbw)).at (show k - 1 < left.length by omega)
              obtain ⟨pa, pc, rfl, -, -, -⟩ := hpp.form
              exact ⟨pa, pc, hcp, fun x => grew_drew (before_any _ _ _ _ (· < w.heap.size) (· < w.heap.size) x.1 (IntsV.keep hpp (KeepS.below x.2)) (IntsV.keep hrr (KeepS.below x.2)))⟩)
            clear hrr hyy hs hf hr0 hl0 hw0 hb hbw hb1 hpre
            generalize left[k] = c at *
            generalize why[k] = y at *
            have hg := Grew.cell (w := wr)
            generalize hone : Cov.oneOK ns F tn (Cov.prevOf left k) c y = one at *
            generalize hcb : Cov.comboB ns c = cb at *
            clear hone
            cases cb with
            | false =>
              have HY := hid (HBad.out (by rw [HOne.out]; rfl))
              clear HBad HOne HT HLc hcb HPv HPv2 HBe
              go_wp2
              refine wp_region_quietG (by kernel_rfl) (by kernel_rfl) ?_
              repeat (go_big_quiet_step (first | exact HC.out _))
              refine wpQuiet_nil ?_
              intro w5 hx
              have HB2 := hid (HBW.out w5 (HB4.out.trans ((HBB.out.trans ((grew_below hx).mono hzw)).mono hsz4)))
              clear hx hg
              go_wp2
              go_ret
              exact ⟨ret_int HY.out.symm, HB2.out⟩
            | true =>
              have HLc2 := hid (HLc.out rfl)
              have HVl2 := hid (HVl.out (by rw [HLc2.out]; omega))
              have HSh2 := hid (HSh.out HLc2.out)
              clear HVl HSh hcb HLc
              by_cases hvr : Cov.vals c = tn
              · have hd : (((Cov.vals c : Nat) : Int) != (tn : Int)) = false := bneF (by omega)
                rw [decide_eq_true hvr] at HOne
                clear hvr
                generalize Cov.vals c = vc at *
                generalize hri : risF F.length (-1) y = ri at *
                cases ri with
                | false =>
                  have HY := hid (HBad.out (by rw [HOne.out]; rfl))
                  clear HBad HOne HT HPv HPv2 HBe hri HSh2
                  go_wp2
                  refine wp_region_quietG (by kernel_rfl) (by kernel_rfl) ?_
                  repeat (go_big_quiet_step (first | exact HC.out _ | exact HVl2.out _ | exact HRi.out _))
                  refine wpQuiet_nil ?_
                  intro w5 hx
                  have HB2 := hid (HBW.out w5 (HB4.out.trans ((HBB.out.trans ((grew_below hx).mono hzw)).mono hsz4)))
                  clear hx hg
                  go_wp2
                  go_ret
                  exact ⟨ret_int HY.out.symm, HB2.out⟩
                | true =>
                  have HSh3 := hid (HSh2.out rfl)
                  clear HSh2 hri
                  by_cases h3 : 0 < k
                  · have hk3 : (0 : Int) < k := by omega
                    have d3 : decide ((0 : Int) < k) = true := decide_eq_true hk3
                    have d3' : decide (0 < k) = true := decide_eq_true h3
                    obtain ⟨pa, pc, hcp, hBe⟩ := HBe.out h3
                    have HLt := hid (HPv2.out h3)
                    have HBe2 := hid hBe
                    have hmx : max ((k : Int) - 1) 0 = (k : Int) - 1 := by omega
                    have htn : ((k : Int) - 1).toNat = k - 1 := by omega
                    have hix : ∀ X, (Instr.indexAt 23 (.slice la left.length lc) (.int .i64 ((k : Int) - 1))).run Tryd.prog X = .ok (.pointer (some ⟨slb la, slo la + (k - 1), none⟩)) X := fun X => by
                      have h := run_indexAt_var (P := Tryd.prog) X 23 la left.length lc .i64 ((k : Int) - 1) (by kernel_rfl) hokl (by omega) (by omega)
                      have hs1 : (sizeOf (Tryd.prog.elem 23)).run Tryd.prog X = .ok 1 X := rfl
                      rw [h, hs1, htn]
                      simp [Result.andThen]
                    clear HPv HPv2 HBe hBe htn
                    generalize left[k - 1] = pv at *
                    generalize Cov.ltO (Cov.prevOf left k) c = lto at *
                    generalize Cov.ltL pv c = ltb at *
                    obtain rfl := HLt.out
                    clear HLt
                    cases lto with
                    | false =>
                      have HY := hid (HBad.out (by rw [HOne.out]; rfl))
                      clear HBad HOne HT HSh3
                      go_wp2
                      refine wp_region_quietG (by kernel_rfl) (by kernel_rfl) ?_
                      repeat (go_big_quiet_step (first | exact HC.out _ | exact HVl2.out _ | exact HRi.out _ | exact HBe2.out _))
                      refine wpQuiet_nil ?_
                      intro w5 hx
                      have HB2 := hid (HBW.out w5 (HB4.out.trans ((HBB.out.trans ((grew_below hx).mono hzw)).mono hsz4)))
                      clear hx hg hix hmx
                      go_wp2
                      go_ret
                      exact ⟨ret_int HY.out.symm, HB2.out⟩
                    | true =>
                      go_wp2
                      refine wp_region_quietG (by kernel_rfl) (by kernel_rfl) ?_
                      repeat (go_big_quiet_step (first | exact HC.out _ | exact HVl2.out _ | exact HRi.out _ | exact HBe2.out _))
                      refine wpQuiet_nil ?_
                      intro w5 hx
                      clear hix hcp hmx
                      have hb5 : Below w4.heap.size w4 w5 := HBB.out.trans ((grew_below hx).mono hzw)
                      obtain ⟨bx0', bx1', bx2'⟩ := HBX.out w5 (HB4.out.trans (hb5.mono hsz4))
                      have hcr2 : w5.cell? ⟨slb la, slo la + k, none⟩ = some (.slice ae c.length ce) := ((grew_below hx).cell (p := ⟨slb la, slo la + k, none⟩) hbr2).trans hcr
                      have hcy2 : w5.cell? ⟨slb ya, slo ya + k, none⟩ = some (.slice be y.length de) := ((grew_below hx).cell (p := ⟨slb ya, slo ya + k, none⟩) hby2).trans hcy
                      have hz5 := (grew_below hx).size
                      have hzr2 : w.heap.size < w5.heap.size := by omega
                      have hbr3 : slb la < w5.heap.size := by omega
                      have hby3 : slb ya < w5.heap.size := by omega
                      have hc5 := IntsV.keep HRR.out.1 (KeepS.below (grew_below hx))
                      have hy5 := IntsV.keep HRR.out.2 (KeepS.below (grew_below hx))
                      have HA2 := hid (fun (x : Grew w5) => Calls.grew_of (x := x) (HSh3.out x.1 (hb5.trans (x.2.mono hb5.size)) (IntsV.keep hc5 (KeepS.below x.2)) (IntsV.keep hy5 (KeepS.below x.2))))
                      have HSE : Hid (showsR R F c y = Cov.showsB ns F c y) := hid (by rw [HRd.out]; rfl)
                      have HB5 := hid hb5
                      have hzw5 : w4.heap.size ≤ w5.heap.size := hb5.size
                      clear hx hg hb5 bx0 bx1 bx2 hcr hcy hc5 hy5 HC HVl2 HRi HSh3 hd
                      generalize showsR R F c y = sr at *
                      generalize Cov.showsB ns F c y = sb at *
                      obtain rfl := HSE.out
                      clear HSE
                      have hg := Grew.cell (w := w5)
                      cases sr with
                      | false =>
                        have HY := hid (HBad.out (by rw [HOne.out]; rfl))
                        clear HBad HOne HT
                        go_wp2
                        refine wp_region_quietG (by kernel_rfl) (by kernel_rfl) ?_
                        repeat (go_big_quiet_step (first | exact HA2.out _))
                        refine wpQuiet_nil ?_
                        intro w6 hx
                        have HB2 := hid (HBW.out w6 (HB4.out.trans ((HB5.out.trans ((grew_below hx).mono hzw5)).mono hsz4)))
                        clear hx hg
                        go_wp2
                        go_ret
                        exact ⟨ret_int HY.out.symm, HB2.out⟩
                      | true =>
                        have HN := hid (HT.out.trans HOne.out)
                        clear HBad HOne HT
                        go_wp2
                        refine wp_region_quietG (by kernel_rfl) (by kernel_rfl) ?_
                        repeat (go_big_quiet_step (first | exact HA2.out _))
                        refine wpQuiet_nil ?_
                        intro w6 hx
                        have HB6 := hid (HB5.out.trans ((grew_below hx).mono hzw5))
                        clear hx hg
                        go_wp2
                        go_roundw
                        case rel => exact ⟨k + 1, by omega, by go_num, hid HN.out, HB6.out⟩
                        case measure => simp [intOf]; omega
                  · have d3 : decide ((0 : Int) < k) = false := decide_eq_false (by omega)
                    have d3' : decide (0 < k) = false := decide_eq_false h3
                    have HLt := hid (HPv.out (by omega))
                    clear HPv HPv2 HBe
                    generalize Cov.ltO (Cov.prevOf left k) c = lto at *
                    obtain rfl := HLt.out
                    clear HLt h3
                    go_wp2
                    refine wp_region_quietG (by kernel_rfl) (by kernel_rfl) ?_
                    repeat (go_big_quiet_step (first | exact HC.out _ | exact HVl2.out _ | exact HRi.out _))
                    refine wpQuiet_nil ?_
                    intro w5 hx
                    have hb5 : Below w4.heap.size w4 w5 := HBB.out.trans ((grew_below hx).mono hzw)
                    obtain ⟨bx0', bx1', bx2'⟩ := HBX.out w5 (HB4.out.trans (hb5.mono hsz4))
                    have hcr2 : w5.cell? ⟨slb la, slo la + k, none⟩ = some (.slice ae c.length ce) := ((grew_below hx).cell (p := ⟨slb la, slo la + k, none⟩) hbr2).trans hcr
                    have hcy2 : w5.cell? ⟨slb ya, slo ya + k, none⟩ = some (.slice be y.length de) := ((grew_below hx).cell (p := ⟨slb ya, slo ya + k, none⟩) hby2).trans hcy
                    have hz5 := (grew_below hx).size
                    have hzr2 : w.heap.size < w5.heap.size := by omega
                    have hbr3 : slb la < w5.heap.size := by omega
                    have hby3 : slb ya < w5.heap.size := by omega
                    have hc5 := IntsV.keep HRR.out.1 (KeepS.below (grew_below hx))
                    have hy5 := IntsV.keep HRR.out.2 (KeepS.below (grew_below hx))
                    have HA2 := hid (fun (x : Grew w5) => Calls.grew_of (x := x) (HSh3.out x.1 (hb5.trans (x.2.mono hb5.size)) (IntsV.keep hc5 (KeepS.below x.2)) (IntsV.keep hy5 (KeepS.below x.2))))
                    have HSE : Hid (showsR R F c y = Cov.showsB ns F c y) := hid (by rw [HRd.out]; rfl)
                    have HB5 := hid hb5
                    have hzw5 : w4.heap.size ≤ w5.heap.size := hb5.size
                    clear hx hg hb5 bx0 bx1 bx2 hcr hcy hc5 hy5 HC HVl2 HRi HSh3 hd
                    generalize showsR R F c y = sr at *
                    generalize Cov.showsB ns F c y = sb at *
                    obtain rfl := HSE.out
                    clear HSE
                    have hg := Grew.cell (w := w5)
                    cases sr with
                    | false =>
                      have HY := hid (HBad.out (by rw [HOne.out]; rfl))
                      clear HBad HOne HT
                      go_wp2
                      refine wp_region_quietG (by kernel_rfl) (by kernel_rfl) ?_
                      repeat (go_big_quiet_step (first | exact HA2.out _))
                      refine wpQuiet_nil ?_
                      intro w6 hx
                      have HB2 := hid (HBW.out w6 (HB4.out.trans ((HB5.out.trans ((grew_below hx).mono hzw5)).mono hsz4)))
                      clear hx hg
                      go_wp2
                      go_ret
                      exact ⟨ret_int HY.out.symm, HB2.out⟩
                    | true =>
                      have HN := hid (HT.out.trans HOne.out)
                      clear HBad HOne HT
                      go_wp2
                      refine wp_region_quietG (by kernel_rfl) (by kernel_rfl) ?_
                      repeat (go_big_quiet_step (first | exact HA2.out _))
                      refine wpQuiet_nil ?_
                      intro w6 hx
                      have HB6 := hid (HB5.out.trans ((grew_below hx).mono hzw5))
                      clear hx hg
                      go_wp2
                      go_roundw
                      case rel => exact ⟨k + 1, by omega, by go_num, hid HN.out, HB6.out⟩
                      case measure => simp [intOf]; omega
              · have hd : (((Cov.vals c : Nat) : Int) != (tn : Int)) = true := bneT (by omega)
                have HY := hid (HBad.out (by rw [HOne.out, decide_eq_false hvr]; rfl))
                clear HBad HOne HT HPv HPv2 HBe hvr HSh2
                generalize Cov.vals c = vc at *
                go_wp2
                refine wp_region_quietG (by kernel_rfl) (by kernel_rfl) ?_
                repeat (go_big_quiet_step (first | exact HC.out _ | exact HVl2.out _))
                refine wpQuiet_nil ?_
                intro w5 hx
                have HB2 := hid (HBW.out w5 (HB4.out.trans ((HBB.out.trans ((grew_below hx).mono hzw)).mono hsz4)))
                clear hx hg
                go_wp2
                go_ret
                exact ⟨ret_int HY.out.symm, HB2.out⟩
          · obtain rfl : k = left.length := by omega
            have HRes3 : Hid (RES = if ((Cov.asked ns tn).all fun c => decide (c ∈ left) || Cov.inR rows c) = true then 0 else 15) := hid (by rw [HChk2.out, hpre.out, Bool.true_and])
            have HB0 := hid hb
            clear hpre hb hbw hb1 HChk2
            have hb1 : Below W1.heap.size W1 wr := HB4.out.trans (HB0.out.mono hsz4)
            have HAsk := hid (asked_any ns HO.out.le hl F.length sa sc fa fc tn S wr (IntsV.keep HIn.out.1 (KeepS.below (HBW.out wr hb1))))
            have HW1 := hid hb1
            clear hb1
            go_wp2_with fail
            refine HAsk.out.mono ?_
            rintro e w5 ⟨xk, rfl, hxk, hb5⟩
            have hb15 := HW1.out.trans (hb5.mono HW1.out.size)
            have HXK := hid (RowsV.mono (S' := (· < w5.heap.size)) hxk (fun b h _ => h))
            have HB5 := hid (HBW.out w5 hb15)
            obtain ⟨ak, ck, rfl, hokk, hcapk, hmaxk⟩ := hxk.form
            have HKl : Hid (∀ r ∈ Cov.asked ns tn, r.length = ns.length) := hid (fun r hr => allP_len true ns r (List.mem_filter.1 hr).1)
            have HRl2 : Hid (∀ r ∈ rows, r.length = ns.length) := hid (fun r hr => by
              have := List.all_eq_true.1 HRows.out r hr
              rw [Bool.and_eq_true, Cov.rowB_eq, Bool.and_eq_true] at this
              exact Cov.comboB_len ns r this.1.1)
            clear hxk hb5 hb15 HAsk bx0 bx1 bx2 HB0 HW1 HXR hokR hcapR hmaxR HRd HRl
            generalize Cov.asked ns tn = K at *
            go_wp2
            go_loopw [14] (fun i wr => ∃ k : Nat, k ≤ K.length ∧ i = .int .i64 k ∧ Hid ((K.take k).all (fun c => decide (c ∈ left) || Cov.inR rows c) = true) ∧ ∃ n, wr = w5.drewN n) (fun i _ => K.length - (intOf i).toNat)
            case atStart => exact ⟨0, by omega, rfl, hid rfl, 0, rfl⟩
            case round =>
              obtain ⟨k, hk, rfl, hpre, n, rfl⟩ := hrel
              by_cases hlt : k < K.length
              · have hk0 : (0 : Int) ≤ k := by omega
                have hk1 : (k : Int) < K.length := by omega
                obtain ⟨uc, hcc, hbc, hrc⟩ := HXK.out.at hlt
                obtain ⟨ae, ce, rfl, -, -, -⟩ := hrc.form
                have HT := hid (all_take (fun c => decide (c ∈ left) || Cov.inR rows c) K k hlt)
                have HBad : Hid ((decide (K[k] ∈ left) || Cov.inR rows K[k]) = false → RES = 15) := hid (fun h => by
                  have : (K.all fun c => decide (c ∈ left) || Cov.inR rows c) = false := List.all_eq_false.2 ⟨K[k], List.getElem_mem hlt, by rw [h]; decide⟩
                  rw [HRes3.out, this]
                  rfl)
                have HInR := hid (fun nq => in_any rows K[k] (fun r hr => by rw [HRl2.out r hr, HKl.out _ (List.getElem_mem hlt)]) (.slice ra rows.length rc) (.slice ae K[k].length ce) _ _ (w5.drewN nq) (RowsV.keep HIn.out.2.2.1 (KeepS.below (below_drewN HB5.out nq))) (IntsV.keep hrc (KeepS.below (below_drewN (Below.refl _ _) nq))))
                have HRC := hid hrc
                have HPRE := hid hpre.out
                clear hrc hpre
                generalize K[k] = c at *
                go_wp2
                go_loopw [15, 16] (fun s i w2 => ∃ j : Nat, j ≤ left.length ∧ i = .int .i64 j ∧ s = .bool ((left.take j).any fun l => decide (l = c)) ∧ ∃ n, w2 = w5.drewN n) (fun _ i _ => left.length - (intOf i).toNat)
                case atStart => exact ⟨0, by omega, rfl, rfl, n, rfl⟩
                case round =>
                  obtain ⟨j, hj, rfl, rfl, n2, rfl⟩ := hrel
                  by_cases hjl : j < left.length
                  · have hj0 : (0 : Int) ≤ j := by omega
                    have hj1 : (j : Int) < left.length := by omega
                    have hlt9 : (j : Int) ≤ 9223372036854775807 := by omega
                    obtain ⟨ul, hcl, hbl, hrl⟩ := (RowsV.keep HIn.out.2.2.2.1 (KeepS.below HB5.out)).at hjl
                    have hbl2 : slb la < w5.heap.size := by have := HB5.out.size; omega
                    obtain ⟨xl, cl, rfl, -, -, -⟩ := hrl.form
                    have HA := hid (any_take (fun l => decide (l = c)) left j hjl)
                    have HSame : Hid (∀ nq, Calls Tryd.prog 29 #[.slice xl left[j].length cl, .slice ae c.length ce] (w5.drewN (n2 + nq)) fun e w'' => e = .returned (.bool (decide (left[j] = c))) ∧ ∃ m, w'' = w5.drewN (n2 + m)) := hid (fun nq =>
                      (sameInts_any left[j] c (.slice xl left[j].length cl) (.slice ae c.length ce) _ _ (w5.drewN (n2 + nq)) (IntsV.keep hrl (KeepS.below (below_drewN (Below.refl _ _) _))) (IntsV.keep HRC.out (KeepS.below (below_drewN (Below.refl _ _) _)))).mono (fun e w' ⟨h1, m, h2⟩ => ⟨h1, nq + m, by rw [h2, World.drewN_drewN, Nat.add_assoc]⟩))
                    clear hrl
                    generalize left[j] = lj at *
                    generalize hP : (left.take j).any (fun l => decide (l = c)) = P at *
                    clear hP
                    cases P with
                    | true =>
                      have HN : Hid (true = (left.take (j + 1)).any fun l => decide (l = c)) := hid (by rw [HA.out]; rfl)
                      clear HA
                      go_wp2
                      go_quiet (fail)
                      go_wp2
                      go_roundw
                      case rel => exact ⟨j + 1, by omega, by go_num, by rw [← HN.out], _, rfl⟩
                      case measure => simp [intOf]; omega
                    | false =>
                      have HN : Hid (decide (lj = c) = (left.take (j + 1)).any fun l => decide (l = c)) := hid (by rw [HA.out]; rfl)
                      clear HA
                      generalize decide (lj = c) = Q at *
                      go_wp2
                      go_quiet ((exact HSame.out _))
                      go_wp2
                      go_roundw
                      case rel => exact ⟨j + 1, by omega, by go_num, by rw [← HN.out], _, rfl⟩
                      case measure => simp [intOf]; omega
                  · obtain rfl : j = left.length := by omega
                    have hmem : (left.any fun l => decide (l = c)) = decide (c ∈ left) := by
                      rw [Bool.eq_iff_iff, List.any_eq_true, decide_eq_true_eq]
                      exact ⟨fun ⟨l, h1, h2⟩ => by rw [decide_eq_true_eq] at h2; rw [← h2]; exact h1, fun h => ⟨c, h, decide_eq_true rfl⟩⟩
                    rw [List.take_length, hmem]
                    clear hmem
                    generalize decide (c ∈ left) = lb at *
                    cases lb with
                    | true =>
                      have HN : Hid ((K.take (k + 1)).all (fun c => decide (c ∈ left) || Cov.inR rows c) = true) := hid (by rw [HT.out, HPRE.out]; rfl)
                      clear HT HBad
                      go_wp2
                      go_roundw
                      case rel => exact ⟨k + 1, by omega, by go_num, HN, _, rfl⟩
                      case measure => simp [intOf]; omega
                    | false =>
                      generalize Cov.inR rows c = ib at *
                      cases ib with
                      | true =>
                        have HN : Hid ((K.take (k + 1)).all (fun c => decide (c ∈ left) || Cov.inR rows c) = true) := hid (by rw [HT.out, HPRE.out]; rfl)
                        clear HT HBad
                        go_wp2_with fail
                        refine (HInR.out n2).mono ?_
                        rintro e w6 ⟨rfl, nq, rfl⟩
                        go_wp2
                        go_roundw
                        case rel => exact ⟨k + 1, by omega, by go_num, HN, _, rfl⟩
                        case measure => simp [intOf]; omega
                      | false =>
                        have HY := hid (HBad.out rfl)
                        clear HT HBad
                        go_wp2_with fail
                        refine (HInR.out n2).mono ?_
                        rintro e w6 ⟨rfl, nq, rfl⟩
                        go_wp2
                        go_ret
                        exact ⟨ret_int HY.out.symm, below_drewN HB5.out _⟩
              · obtain rfl : k = K.length := by omega
                have HY : Hid (RES = 0) := hid (by
                  have := hpre.out
                  rw [List.take_length] at this
                  rw [HRes3.out, this]; rfl)
                clear hpre
                go_wp2
                go_ret
                exact ⟨ret_int HY.out.symm, below_drewN HB5.out _⟩
      · have dl : ((left.length : Int) != (why.length : Int)) = true := bneT (by omega)
        have HY : Hid (RES = 15) := hid (by
          rw [HRes.out, HChk.out, decide_eq_false hlen, Bool.false_and, Bool.and_false]; rfl)
        have HB2 := hid (HBW.out wr HB0.out)
        clear HRes HChk hlen
        go_wp2
        go_ret
        exact ⟨ret_int HY.out.symm, HB2.out⟩

end Go.Proofs.YtjaejnacdanpkaaDoor
