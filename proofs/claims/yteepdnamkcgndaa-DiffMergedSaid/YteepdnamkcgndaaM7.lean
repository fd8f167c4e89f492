/- The reference's Merge. -/
import Derived.Test.YteepdnamkcgndaaM6
namespace Go.Proofs.Yteepdnamkcgndaa
open Go.RowKit

def mergeE (cs ds : List Chg) : Int := if Mer.plainR cs && Mer.plainR ds then (if Mer.clashR cs ds then 14 else 0) else 2
def mergeL (cs ds : List Chg) : List Chg := if Mer.plainR cs && Mer.plainR ds then (if Mer.clashR cs ds then [] else Mer.togetherR cs ds) else []

/-- The rows ahead of p clash with nothing. -/
def ClashTo (cs ds : List Chg) (p : Nat) : Prop := ∀ i (h : i < cs.length), i < p → ∀ j (h' : j < ds.length), Mer.clash1 cs ds cs[i] ds[j] = false
def ClashRow (cs ds : List Chg) (c : Chg) (q : Nat) : Prop := ∀ j (h' : j < ds.length), j < q → Mer.clash1 cs ds c ds[j] = false
theorem ClashTo.next {cs ds : List Chg} {p q : Nat} (h : ClashTo cs ds p) (hp : p < cs.length) (hq : ds.length ≤ q) (hr : ClashRow cs ds cs[p] q) : ClashTo cs ds (p + 1) := fun i hi hl j hj => by
  by_cases e : i = p
  · subst e; exact hr j hj (by omega)
  · exact h i hi (by omega) j hj
theorem ClashRow.next {cs ds : List Chg} {c : Chg} {q : Nat} (h : ClashRow cs ds c q) (hq : q < ds.length) (hr : Mer.clash1 cs ds c ds[q] = false) : ClashRow cs ds c (q + 1) := fun j hj hl => by
  by_cases e : j = q
  · subst e; exact hr
  · exact h j hj (by omega)
theorem ClashTo.last {cs ds : List Chg} {p : Nat} (h : ClashTo cs ds p) (hp : cs.length ≤ p) : Mer.clashR cs ds = false := by
  rw [Bool.eq_false_iff]
  intro h'
  unfold Mer.clashR at h'
  obtain ⟨x, hx, h'⟩ := List.any_eq_true.1 h'
  obtain ⟨y, hy, h'⟩ := List.any_eq_true.1 h'
  obtain ⟨i, hi, rfl⟩ := List.getElem_of_mem hx
  obtain ⟨j, hj, rfl⟩ := List.getElem_of_mem hy
  rw [h i hi (by omega) j hj] at h'
  cases h'
theorem clash_bad {cs ds : List Chg} {p q : Nat} (hp : p < cs.length) (hq : q < ds.length) (h : Mer.clash1 cs ds cs[p] ds[q] = true) : Mer.clashR cs ds = true := by
  unfold Mer.clashR
  exact List.any_eq_true.2 ⟨cs[p], List.getElem_mem _, List.any_eq_true.2 ⟨ds[q], List.getElem_mem _, h⟩⟩
theorem merge_form {cs ds : List Chg} (h : (Mer.plainR cs && Mer.plainR ds) = false) : mergeE cs ds = 2 ∧ mergeL cs ds = [] := by
  unfold mergeE mergeL; rw [h]; exact ⟨rfl, rfl⟩
theorem merge_bad {cs ds : List Chg} (h1 : Mer.plainR cs = true) (h2 : Mer.plainR ds = true) (h : Mer.clashR cs ds = true) : mergeE cs ds = 14 ∧ mergeL cs ds = [] := by
  unfold mergeE mergeL; rw [h1, h2, h]; exact ⟨rfl, rfl⟩
theorem merge_good {cs ds : List Chg} (h1 : Mer.plainR cs = true) (h2 : Mer.plainR ds = true) (h : Mer.clashR cs ds = false) : mergeE cs ds = 0 ∧ mergeL cs ds = Mer.togetherR cs ds := by
  unfold mergeE mergeL; rw [h1, h2, h]; exact ⟨rfl, rfl⟩

set_option maxRecDepth 100000 in
set_option maxHeartbeats 8000000 in
theorem rmerge_any (cs ds : List Chg) (hc : cs.length ≤ 100000) (hd : ds.length ≤ 100000) (hgc : GoodL cs) (hgd : GoodL ds) (u v : Value) (S T : Nat → Prop) (w : World) (hu : ChV S w u cs) (hv : ChV T w v ds) :
    Calls Try.prog 12 #[u, v] w fun e w' => ∃ x, e = .returned (.tuple #[x, .int .i64 (mergeE cs ds)]) ∧ ChV AnyB w' x (mergeL cs ds) ∧ Below w.heap.size w w' := by
  have HU0 := hid (ChV.mono (S' := AnyB) hu (fun _ _ _ => trivial))
  have HV0 := hid (ChV.mono (S' := AnyB) hv (fun _ _ _ => trivial))
  have HP1 := hid (rplain_any cs hc hgc u S w hu)
  have HP2 := hid (fun W (h : Below w.heap.size w W) => rplain_any ds hd hgd v T W (hv.keep (KeepS.below h)))
  obtain ⟨a, cap, rfl, hok, hcap, hmax⟩ := hu.form
  obtain ⟨a', cap', rfl, hok', hcap', hmax'⟩ := hv.form
  clear hu hv
  go_enter Try.func12, Try.ntmps12
  go_wp2_with fail
  refine HP1.out.mono ?_
  rintro e w1 ⟨rfl, hb1⟩
  have HB1 := hid hb1
  clear hb1
  cases hp1 : Mer.plainR cs with
  | false =>
    have HM := hid (merge_form (cs := cs) (ds := ds) (by rw [hp1]; rfl))
    clear hp1
    go_wp2
    go_ret2
    exact ⟨_, by rw [HM.out.1]; rfl, by rw [HM.out.2]; exact ChV.nil _ _, HB1.out⟩
  | true =>
    have HP1' := hid hp1
    clear hp1
    go_wp2_with fail
    refine (HP2.out _ HB1.out).mono ?_
    rintro e w2 ⟨rfl, hb2⟩
    have HB2 : Hid (Below w.heap.size w w2) := hid (HB1.out.trans (hb2.mono HB1.out.size))
    clear hb2 HB1 HP1 HP2
    cases hp2 : Mer.plainR ds with
    | false =>
      have HM := hid (merge_form (cs := cs) (ds := ds) (by rw [hp2]; exact Bool.and_false _))
      clear hp2
      go_wp2
      go_ret2
      exact ⟨_, by rw [HM.out.1]; rfl, by rw [HM.out.2]; exact ChV.nil _ _, HB2.out⟩
    | true =>
      have HP2' := hid hp2
      clear hp2
      go_wp2
      go_loopw [6] (fun i wr => ∃ p : Nat, p ≤ cs.length ∧ i = .int .i64 p ∧ Hid (ClashTo cs ds p) ∧ Hid (Below w.heap.size w wr)) (fun i _ => cs.length - (intOf i).toNat)
      case atStart => exact ⟨0, by omega, rfl, hid (fun j _ h => by omega), HB2⟩
      case round =>
        obtain ⟨p, hp, rfl, hto, hB⟩ := hrel
        by_cases hlp : p < cs.length
        · have hp0 : (0 : Int) ≤ p := by omega
          have hp1 : (p : Int) < cs.length := by omega
          go_wp2
          go_loopw [7] (fun i wr => ∃ q : Nat, q ≤ ds.length ∧ i = .int .i64 q ∧ Hid (ClashRow cs ds cs[p] q) ∧ Hid (Below w.heap.size w wr)) (fun i _ => ds.length - (intOf i).toNat)
          case atStart => exact ⟨0, by omega, rfl, hid (fun j _ h => by omega), hB⟩
          case round =>
            clear hB
            obtain ⟨q, hq, rfl, hrow, hB⟩ := hrel
            by_cases hlq : q < ds.length
            · have hq0 : (0 : Int) ≤ q := by omega
              have hq1 : (q : Int) < ds.length := by omega
              obtain ⟨hbkx, -, x0, x1, x2, x3, x4, ulx, x5, hulx⟩ := (HU0.out.keep (KeepS.below hB.out) : ChV AnyB wr (.slice a cs.length cap) cs).at hlp
              obtain ⟨hbky, -, y0, y1, y2, y3, y4, uly, y5, huly⟩ := (HV0.out.keep (KeepS.below hB.out) : ChV AnyB wr (.slice a' ds.length cap') ds).at hlq
              have HN : Hid (Mer.clash1 cs ds cs[p] ds[q] = false → Hid (ClashRow cs ds cs[p] (q + 1))) := hid (fun h => hid (hrow.out.next hlq h))
              have HY : Hid (Mer.clash1 cs ds cs[p] ds[q] = true → Hid (Mer.clashR cs ds = true)) := hid (fun h => hid (clash_bad hlp hlq h))
              have HTO : Hid (∀ m, ds.length ≤ m → ClashRow cs ds cs[p] m → ClashTo cs ds (p + 1)) := hid (fun m h1 h2 => hto.out.next hlp h1 h2)
              clear hrow
              generalize cs[p] = cx at *
              obtain ⟨kx, ix, fx, ox, nx, vsx⟩ := cx
              simp only at x0 x1 x2 x3 x4 hulx
              obtain ⟨alx, clx, rfl, -, -, -⟩ := hulx.form
              have HCx : Hid (∀ W, Below wr.heap.size wr W → IntsV AnyB W (.slice alx vsx.length clx) vsx) := hid (fun W h => hulx.keep (KeepS.below h))
              clear hulx
              generalize ds[q] = cy at *
              obtain ⟨ky, iy, fy, oy, ny, vsy⟩ := cy
              simp only at y0 y1 y2 y3 y4 huly
              obtain ⟨aly, cly, rfl, -, -, -⟩ := huly.form
              have HCy : Hid (∀ W, Below wr.heap.size wr W → IntsV AnyB W (.slice aly vsy.length cly) vsy) := hid (fun W h => huly.keep (KeepS.below h))
              clear huly
              have hal : Below wr.heap.size wr ((wr.alloc (.cells #[.int .i64 kx, .int .i64 ix, .int .i64 fx, .int .i64 ox, .int .i64 nx, .slice alx vsx.length clx] 54)).alloc (.cells #[.int .i64 ky, .int .i64 iy, .int .i64 fy, .int .i64 oy, .int .i64 ny, .slice aly vsy.length cly] 54)) := ((Below.refl _ _).alloc (Nat.le_refl _) _).alloc (by simp) _
              have HBW : Hid (∀ W, Below wr.heap.size wr W → Below w.heap.size w W) := hid (fun W h => hB.out.trans (h.mono hB.out.size))
              have HAL := hid hal
              clear hal
              by_cases hk : kx = ky
              · subst hk
                have HBX : Hid (∀ W', Below (wr.heap.size + 2) ((wr.alloc (.cells #[.int .i64 kx, .int .i64 ix, .int .i64 fx, .int .i64 ox, .int .i64 nx, .slice alx vsx.length clx] 54)).alloc (.cells #[.int .i64 kx, .int .i64 iy, .int .i64 fy, .int .i64 oy, .int .i64 ny, .slice aly vsy.length cly] 54)) W' → W'.cell? ⟨wr.heap.size, 0, none⟩ = some (.int .i64 kx) ∧ W'.cell? ⟨wr.heap.size, 1, none⟩ = some (.int .i64 ix) ∧ W'.cell? ⟨wr.heap.size, 2, none⟩ = some (.int .i64 fx) ∧
                    W'.cell? ⟨wr.heap.size + 1, 0, none⟩ = some (.int .i64 kx) ∧ W'.cell? ⟨wr.heap.size + 1, 1, none⟩ = some (.int .i64 iy) ∧ W'.cell? ⟨wr.heap.size + 1, 2, none⟩ = some (.int .i64 fy) ∧ wr.heap.size < W'.heap.size ∧ wr.heap.size + 1 < W'.heap.size) := hid (fun W' h => by
                  have h1 : W'.heap[wr.heap.size]? = some (.cells #[.int .i64 kx, .int .i64 ix, .int .i64 fx, .int .i64 ox, .int .i64 nx, .slice alx vsx.length clx] 54 (0, 0)) := by
                    rw [h.block _ (by omega)]
                    have e : (wr.alloc (.cells #[.int .i64 kx, .int .i64 ix, .int .i64 fx, .int .i64 ox, .int .i64 nx, .slice alx vsx.length clx] 54)).heap[wr.heap.size]? = _ := World.alloc_heap_new wr _
                    have hb : Below (wr.heap.size + 1) (wr.alloc (.cells #[.int .i64 kx, .int .i64 ix, .int .i64 fx, .int .i64 ox, .int .i64 nx, .slice alx vsx.length clx] 54)) ((wr.alloc (.cells #[.int .i64 kx, .int .i64 ix, .int .i64 fx, .int .i64 ox, .int .i64 nx, .slice alx vsx.length clx] 54)).alloc (.cells #[.int .i64 kx, .int .i64 iy, .int .i64 fy, .int .i64 oy, .int .i64 ny, .slice aly vsy.length cly] 54)) := (Below.refl _ _).alloc (by simp) _
                    rw [hb.block _ (by omega)]
                    exact e
                  have h2 : W'.heap[wr.heap.size + 1]? = some (.cells #[.int .i64 kx, .int .i64 iy, .int .i64 fy, .int .i64 oy, .int .i64 ny, .slice aly vsy.length cly] 54 (0, 0)) := by
                    rw [h.block _ (by omega)]
                    have e := World.alloc_heap_new (wr.alloc (.cells #[.int .i64 kx, .int .i64 ix, .int .i64 fx, .int .i64 ox, .int .i64 nx, .slice alx vsx.length clx] 54)) (.cells #[.int .i64 kx, .int .i64 iy, .int .i64 fy, .int .i64 oy, .int .i64 ny, .slice aly vsy.length cly] 54)
                    simpa using e
                  refine ⟨?_, ?_, ?_, ?_, ?_, ?_, (Array.getElem?_eq_some_iff.1 h1).1, (Array.getElem?_eq_some_iff.1 h2).1⟩
                  · rw [cell_of_row _ _ 0 _ _ (0, 0) h1]; rfl
                  · rw [cell_of_row _ _ 1 _ _ (0, 0) h1]; rfl
                  · rw [cell_of_row _ _ 2 _ _ (0, 0) h1]; rfl
                  · rw [cell_of_row _ _ 0 _ _ (0, 0) h2]; rfl
                  · rw [cell_of_row _ _ 1 _ _ (0, 0) h2]; rfl
                  · rw [cell_of_row _ _ 2 _ _ (0, 0) h2]; rfl)
                by_cases hx : 0 ≤ fx
                · have HDx := hid (decide_eq_false (show ¬ fx < 0 by omega))
                  by_cases hy : 0 ≤ fy
                  · by_cases hi : ix = iy
                    · subst hi
                      by_cases hf : fx = fy
                      · subst hf
                        have HS := hid (sameC_any ⟨kx, ix, fx, ox, nx, vsx⟩ ⟨kx, ix, fx, oy, ny, vsy⟩ _ _ _ _ _ (HCx.out _ HAL.out) (HCy.out _ HAL.out))
                        go_wp2_with fail
                        refine HS.out.mono ?_
                        rintro e w5 ⟨rfl, hb5⟩
                        have HB5 : Hid (Below wr.heap.size wr w5) := hid (HAL.out.trans (hb5.mono HAL.out.size))
                        obtain ⟨b0, b1, b2, b3, b4, b5, bs1, bs2⟩ := HBX.out w5 (hb5.mono (by simp))
                        clear hb5 HS
                        by_cases hxy : ((⟨kx, ix, fx, ox, nx, vsx⟩ : Chg) = ⟨kx, ix, fx, oy, ny, vsy⟩)
                        · have HR := HN.out (by unfold Mer.clash1 Mer.isSet; simp [hx, hxy])
                          have HD := hid (decide_eq_true hxy)
                          rw [HD.out]
                          clear HN HY hxy
                          go_wp2
                          have hdx := HDx.out
                          go_quiet (fail)
                          go_wp2
                          go_roundw
                          case rel => exact ⟨q + 1, by omega, by go_num, HR, hid (HBW.out _ (below_drewN HB5.out _))⟩
                          case measure => simp [intOf]; omega
                        · have HR := HY.out (by unfold Mer.clash1 Mer.isSet; simp only [hx, decide_true, Bool.true_and, decide_eq_false hxy]; rfl)
                          have HD := hid (decide_eq_false hxy)
                          rw [HD.out]
                          clear HN HY hxy
                          have HM := hid (merge_bad HP1'.out HP2'.out HR.out)
                          go_wp2
                          go_ret2
                          exact ⟨_, by rw [HM.out.1]; rfl, by rw [HM.out.2]; exact ChV.nil _ _, HBW.out _ HB5.out⟩
                      · have gf : (fx == fy) = false := beqF hf
                        have HR := HN.out (by unfold Mer.clash1 Mer.isSet; simp [hx, hy, hf])
                        clear HN HY
                        clear hf
                        go_wp2
                        have hdx := HDx.out
                        go_quiet (fail)
                        go_wp2
                        go_roundw
                        case rel => exact ⟨q + 1, by omega, by go_num, HR, hid (HBW.out _ (below_drewN HAL.out _))⟩
                        case measure => simp [intOf]; omega
                    · have gi : (ix == iy) = false := beqF hi
                      have HR := HN.out (by unfold Mer.clash1 Mer.isSet; simp [hx, hy, hi])
                      clear HN HY
                      clear hi
                      go_wp2
                      have hdx := HDx.out
                      go_quiet (fail)
                      go_wp2
                      go_roundw
                      case rel => exact ⟨q + 1, by omega, by go_num, HR, hid (HBW.out _ (below_drewN HAL.out _))⟩
                      case measure => simp [intOf]; omega
                  · by_cases hi : iy ≤ ix
                    · skip
                      have HR := HY.out (by unfold Mer.clash1 Mer.isSet; simp [hx, hy, hi])
                      clear HN HY
                      go_wp2
                      have hdx := HDx.out
                      go_quiet (fail)
                      have HM := hid (merge_bad HP1'.out HP2'.out HR.out)
                      go_wp2
                      go_ret2
                      exact ⟨_, by rw [HM.out.1]; rfl, by rw [HM.out.2]; exact ChV.nil _ _, HBW.out _ (below_drewN HAL.out _)⟩
                    · skip
                      have HR := HN.out (by unfold Mer.clash1 Mer.isSet; simp [hx, hy, hi])
                      clear HN HY
                      go_wp2
                      have hdx := HDx.out
                      go_quiet (fail)
                      go_wp2
                      go_roundw
                      case rel => exact ⟨q + 1, by omega, by go_num, HR, hid (HBW.out _ (below_drewN HAL.out _))⟩
                      case measure => simp [intOf]; omega
                · have HDx := hid (decide_eq_true (show fx < 0 by omega))
                  by_cases hy : 0 ≤ fy
                  · have HDy := hid (decide_eq_false (show ¬ fy < 0 by omega))
                    by_cases hi : ix ≤ iy
                    · skip
                      have HR := HY.out (by unfold Mer.clash1 Mer.isSet; simp [hx, hy, hi])
                      clear HN HY
                      go_wp2
                      have hdx := HDx.out
                      have hdy := HDy.out
                      go_quiet (fail)
                      have HM := hid (merge_bad HP1'.out HP2'.out HR.out)
                      go_wp2
                      go_ret2
                      exact ⟨_, by rw [HM.out.1]; rfl, by rw [HM.out.2]; exact ChV.nil _ _, HBW.out _ (below_drewN HAL.out _)⟩
                    · skip
                      have HR := HN.out (by unfold Mer.clash1 Mer.isSet; simp [hx, hy, hi])
                      clear HN HY
                      go_wp2
                      have hdx := HDx.out
                      have hdy := HDy.out
                      go_quiet (fail)
                      go_wp2
                      go_roundw
                      case rel => exact ⟨q + 1, by omega, by go_num, HR, hid (HBW.out _ (below_drewN HAL.out _))⟩
                      case measure => simp [intOf]; omega
                  · have HDy := hid (decide_eq_true (show fy < 0 by omega))
                    have HF1 := hid (fun W (h : Below wr.heap.size wr W) => of_any cs hc kx false (.slice a cs.length cap) AnyB W (HU0.out.keep (KeepS.below (HBW.out W h))))
                    have HF2 := hid (fun W (h : Below wr.heap.size wr W) => of_any ds hd kx false (.slice a' ds.length cap') AnyB W (HV0.out.keep (KeepS.below (HBW.out W h))))
                    have HCL : Hid (Mer.clash1 cs ds ⟨kx, ix, fx, ox, nx, vsx⟩ ⟨kx, iy, fy, oy, ny, vsy⟩ = !decide (Mer.ofR cs kx false = Mer.ofR ds kx false)) := hid (by unfold Mer.clash1 Mer.isSet; simp [hx, hy])
                    have HSZ : Hid (wr.heap.size + 2 ≤ ((wr.alloc (.cells #[.int .i64 kx, .int .i64 ix, .int .i64 fx, .int .i64 ox, .int .i64 nx, .slice alx vsx.length clx] 54)).alloc (.cells #[.int .i64 kx, .int .i64 iy, .int .i64 fy, .int .i64 oy, .int .i64 ny, .slice aly vsy.length cly] 54)).heap.size) := hid (by simp)
                    go_wp2
                    have hdx := HDx.out
                    have hdy := HDy.out
                    generalize ((wr.alloc (.cells #[.int .i64 kx, .int .i64 ix, .int .i64 fx, .int .i64 ox, .int .i64 nx, .slice alx vsx.length clx] 54)).alloc (.cells #[.int .i64 kx, .int .i64 iy, .int .i64 fy, .int .i64 oy, .int .i64 ny, .slice aly vsy.length cly] 54)) = wb at *
                    clear x0 x1 x2 x3 x4 x5 y0 y1 y2 y3 y4 y5
                    have e0 : ∀ x : Grew wb, x.1.cell? ⟨wr.heap.size, 0, none⟩ = some (.int .i64 kx) := fun x => (HBX.out x.1 (x.2.mono HSZ.out)).1
                    have e1 : ∀ x : Grew wb, x.1.cell? ⟨wr.heap.size, 2, none⟩ = some (.int .i64 fx) := fun x => (HBX.out x.1 (x.2.mono HSZ.out)).2.2.1
                    have e2 : ∀ x : Grew wb, x.1.cell? ⟨wr.heap.size + 1, 2, none⟩ = some (.int .i64 fy) := fun x => (HBX.out x.1 (x.2.mono HSZ.out)).2.2.2.2.2.1
                    refine wp_region_grewS 16 [(true, 0), (true, 1), (true, 2), (true, 3), (true, 4), (true, 5), (true, 6), (true, 7), (true, 8), (true, 9), (true, 10), (true, 11), (true, 13), (true, 14), (true, 15), (false, 12)] (by kernel_rfl) (by kernel_rfl) ?_
                    refine wpSteps_pre 12 (by decide) ?_
                    simp only [List.take_succ_cons, List.take_zero]
                    repeat (go_big_quiet_step (fail))
                    refine wpQuiet_nil ?_
                    iterate 3 (refine wpSteps_quiet rfl ?_; repeat (go_big_quiet_step (fail)); refine wpQuiet_nil ?_)
                    refine wpSteps_one rfl ?_
                    clear e0 e1 e2
                    have hdr : Below wb.heap.size wb (wb.drewN 1) := below_drewN (Below.refl _ _) 1
                    have HDR := hid hdr
                    clear hdr
                    go_wp2_with fail
                    refine (HF1.out _ (HAL.out.trans (HDR.out.mono HAL.out.size))).mono ?_
                    rintro e w5 ⟨z1, rfl, hz1, hb5⟩
                    have HB5 : Hid (Below wb.heap.size wb w5) := hid (HDR.out.trans (hb5.mono HDR.out.size))
                    have HZ1 := hid hz1
                    obtain ⟨za, zc, rfl, -, -, -⟩ := hz1.form
                    clear hz1 hb5
                    go_wp2
                    refine qn_mk ⟨InGrew.of HB5.out, ?_⟩
                    refine wpSteps_done ?_
                    go_wp2_with fail
                    refine (HF2.out _ (HAL.out.trans (HB5.out.mono HAL.out.size))).mono ?_
                    rintro e w6 ⟨z2, rfl, hz2, hb6⟩
                    have HZ2 := hid hz2
                    have HZ16 := hid (HZ1.out.keep (KeepS.below hb6))
                    have HB6 : Hid (Below wb.heap.size wb w6) := hid (HB5.out.trans (hb6.mono HB5.out.size))
                    obtain ⟨zb, zd, rfl, -, -, -⟩ := hz2.form
                    clear hz2 hb6
                    have HSA := hid (sameAll_any (Mer.ofR cs kx false) (Mer.ofR ds kx false) _ _ AnyB AnyB w6 HZ16.out HZ2.out)
                    go_wp2_with fail
                    refine HSA.out.mono ?_
                    rintro e w7 ⟨rfl, hb7⟩
                    have HB7 : Hid (Below wb.heap.size wb w7) := hid (HB6.out.trans (hb7.mono HB6.out.size))
                    obtain ⟨b0, b1, b2, b3, b4, b5, bs1, bs2⟩ := HBX.out w7 (HB7.out.mono HSZ.out)
                    have HB7r := hid (HAL.out.trans (HB7.out.mono HAL.out.size))
                    clear hb7
                    by_cases hof : Mer.ofR cs kx false = Mer.ofR ds kx false
                    · have HR := HN.out (by rw [HCL.out, decide_eq_true hof]; rfl)
                      have HD := hid (decide_eq_true hof)
                      rw [HD.out]
                      clear HN HY hof
                      go_wp2
                      go_roundw
                      case rel => exact ⟨q + 1, by omega, by go_num, HR, hid (HBW.out _ HB7r.out)⟩
                      case measure => simp [intOf]; omega
                    · have HR := HY.out (by rw [HCL.out, decide_eq_false hof]; rfl)
                      have HD := hid (decide_eq_false hof)
                      rw [HD.out]
                      clear HN HY hof
                      have HM := hid (merge_bad HP1'.out HP2'.out HR.out)
                      go_wp2
                      go_ret2
                      exact ⟨_, by rw [HM.out.1]; rfl, by rw [HM.out.2]; exact ChV.nil _ _, HBW.out _ HB7r.out⟩
              · have gk : (kx != ky) = true := bneT hk
                have HR := HN.out (by unfold Mer.clash1 Mer.isSet; simp [hk])
                clear HN HY
                clear hk

                go_wp2
                go_roundw
                case rel => exact ⟨q + 1, by omega, by go_num, HR, hid (HBW.out _ HAL.out)⟩
                case measure => simp [intOf]; omega
            · have HT : Hid (ClashTo cs ds (p + 1)) := hid (hto.out.next hlp (by omega) hrow.out)
              have hq1 : ¬ (q : Int) < ds.length := by omega
              go_wp2
              go_roundw
              case rel => exact ⟨p + 1, by omega, by go_num, HT, hB⟩
              case measure => simp [intOf]; omega
        · have HCF := hid (hto.out.last (by omega))
          have hp1 : ¬ (p : Int) < cs.length := by omega
          have HM := hid (merge_good HP1'.out HP2'.out HCF.out)
          have HTG := hid (together_any cs ds hc hd _ _ _ _ wr (HU0.out.keep (KeepS.below hB.out)) (HV0.out.keep (KeepS.below hB.out)))
          go_wp2_with fail
          refine HTG.out.mono ?_
          rintro e w5 ⟨x, rfl, hx, hb5⟩
          have HX := hid hx
          have HB5 : Hid (Below w.heap.size w w5) := hid (hB.out.trans (hb5.mono hB.out.size))
          clear hx hb5
          go_wp2
          go_ret2
          exact ⟨_, by rw [HM.out.1]; rfl, by rw [HM.out.2]; exact HX.out, HB5.out⟩

end Go.Proofs.Yteepdnamkcgndaa
