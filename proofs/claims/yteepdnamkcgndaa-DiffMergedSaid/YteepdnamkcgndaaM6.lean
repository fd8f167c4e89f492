/- The reference's together. -/
import Derived.Test.YteepdnamkcgndaaM5
namespace Go.Proofs.Yteepdnamkcgndaa
open Go.RowKit

theorem tog_nil (b : List Chg) : Mer.togetherR [] b = b := by rw [Mer.togetherR]
theorem tog_nil' (a : List Chg) : Mer.togetherR a [] = a := by cases a <;> rw [Mer.togetherR]
theorem tog_cons (x y : Chg) (a b : List Chg) : Mer.togetherR (x :: a) (y :: b) = if x = y then x :: Mer.togetherR a b else if Mer.firstB x y = true then x :: Mer.togetherR a (y :: b) else y :: Mer.togetherR (x :: a) b := by rw [Mer.togetherR]
/-- What is written and what is left. -/
def TogTo (cs ds out : List Chg) (p q : Nat) : Prop := out ++ Mer.togetherR (cs.drop p) (ds.drop q) = Mer.togetherR cs ds
theorem TogTo.zero (cs ds : List Chg) : TogTo cs ds [] 0 0 := by simp [TogTo]
theorem TogTo.last {cs ds out : List Chg} {p q : Nat} (h : TogTo cs ds out p q) (hp : cs.length ≤ p) (hq : ds.length ≤ q) : out = Mer.togetherR cs ds := by
  unfold TogTo at h
  rw [List.drop_eq_nil_of_le hp, List.drop_eq_nil_of_le hq, tog_nil, List.append_nil] at h
  exact h
theorem TogTo.step {cs ds out : List Chg} {p q p' q' : Nat} {c : Chg} (h : TogTo cs ds out p q) (e : Mer.togetherR (cs.drop p) (ds.drop q) = c :: Mer.togetherR (cs.drop p') (ds.drop q')) : TogTo cs ds (out ++ [c]) p' q' := by
  unfold TogTo at h ⊢
  rw [← h, e, List.append_assoc]
  rfl
theorem TogTo.right {cs ds out : List Chg} {p q : Nat} (h : TogTo cs ds out p q) (hp : cs.length ≤ p) (hq : q < ds.length) : TogTo cs ds (out ++ [ds[q]]) p (q + 1) := by
  refine h.step ?_
  rw [List.drop_eq_nil_of_le hp, List.drop_eq_getElem_cons hq, tog_nil, tog_nil]
theorem TogTo.left {cs ds out : List Chg} {p q : Nat} (h : TogTo cs ds out p q) (hp : p < cs.length) (hq : ds.length ≤ q) : TogTo cs ds (out ++ [cs[p]]) (p + 1) q := by
  refine h.step ?_
  rw [List.drop_eq_nil_of_le hq, List.drop_eq_getElem_cons hp, tog_nil', tog_nil']
theorem TogTo.both {cs ds out : List Chg} {p q : Nat} (h : TogTo cs ds out p q) (hp : p < cs.length) (hq : q < ds.length) (he : cs[p] = ds[q]) : TogTo cs ds (out ++ [cs[p]]) (p + 1) (q + 1) := by
  refine h.step ?_
  rw [List.drop_eq_getElem_cons hp, List.drop_eq_getElem_cons hq, tog_cons, if_pos he]
theorem TogTo.first {cs ds out : List Chg} {p q : Nat} (h : TogTo cs ds out p q) (hp : p < cs.length) (hq : q < ds.length) (he : ¬ cs[p] = ds[q]) (hf : Mer.firstB cs[p] ds[q] = true) : TogTo cs ds (out ++ [cs[p]]) (p + 1) q := by
  refine h.step ?_
  rw [List.drop_eq_getElem_cons hp, List.drop_eq_getElem_cons hq, tog_cons, if_neg he, if_pos hf]
theorem TogTo.second {cs ds out : List Chg} {p q : Nat} (h : TogTo cs ds out p q) (hp : p < cs.length) (hq : q < ds.length) (he : ¬ cs[p] = ds[q]) (hf : Mer.firstB cs[p] ds[q] = false) : TogTo cs ds (out ++ [ds[q]]) p (q + 1) := by
  refine h.step ?_
  rw [List.drop_eq_getElem_cons hp, List.drop_eq_getElem_cons hq, tog_cons, if_neg he, if_neg (by rw [hf]; exact Bool.false_ne_true)]

set_option maxRecDepth 100000 in
set_option maxHeartbeats 8000000 in
theorem together_any (cs ds : List Chg) (ha : cs.length ≤ 100000) (hb : ds.length ≤ 100000) (u v : Value) (S T : Nat → Prop) (w : World) (hu : ChV S w u cs) (hv : ChV T w v ds) :
    Calls Try.prog 32 #[u, v] w fun e w' => ∃ x, e = .returned x ∧ ChV AnyB w' x (Mer.togetherR cs ds) ∧ Below w.heap.size w w' := by
  have HU0 := hid (ChV.mono (S' := (· < w.heap.size)) hu (fun b hb _ => hb))
  have HV0 := hid (ChV.mono (S' := (· < w.heap.size)) hv (fun b hb _ => hb))
  obtain ⟨a, cap, rfl, hok, hcap, hmax⟩ := hu.form
  obtain ⟨a', cap', rfl, hok', hcap', hmax'⟩ := hv.form
  clear hu hv
  go_enter Try.func32, Try.ntmps32
  go_wp2
  go_loopw [5, 6, 7] (fun x i j wr => ∃ p q : Nat, ∃ out : List Chg, p ≤ cs.length ∧ q ≤ ds.length ∧ out.length ≤ p + q ∧ i = .int .i64 p ∧ j = .int .i64 q ∧ OwnC (· < w.heap.size) w.heap.size 54 wr x out ∧ Hid (TogTo cs ds out p q) ∧ Hid (Below w.heap.size w wr)) (fun _ i j _ => cs.length + ds.length - (intOf i).toNat - (intOf j).toNat)
  case atStart => exact ⟨0, 0, [], by omega, by omega, by simp, rfl, rfl, OwnC.nil _ _ _ _, hid (TogTo.zero cs ds), hid (Below.refl _ _)⟩
  case round =>
    obtain ⟨p, q, out, hp, hq, hlen, rfl, rfl, hown, hto, hB⟩ := hrel
    have HOWN : Hid (∀ W, Below wr.heap.size wr W → OwnC (· < w.heap.size) w.heap.size 54 W u5 out) := hid (fun W h => hown.below h)
    have HLT := hid hown.lt
    have HBW : Hid (∀ W, Below wr.heap.size wr W → Below w.heap.size w W) := hid (fun W h => hB.out.trans (h.mono hB.out.size))
    have HSZ : Hid (∀ W, Below wr.heap.size wr W → w.heap.size ≤ W.heap.size) := hid (fun W h => (hB.out.trans (h.mono hB.out.size)).size)
    clear hown
    have hp0 : (0 : Int) ≤ p := by omega
    have hq0 : (0 : Int) ≤ q := by omega
    by_cases hlp : p < cs.length
    · have hlp0 : (p : Int) < cs.length := by omega
      have glp : ((p : Int) == cs.length) = false := beqF (by omega)
      obtain ⟨hbkx, -, x0, x1, x2, x3, x4, ulx, x5, hulx⟩ := (HU0.out.keep (KeepS.below hB.out) : ChV (· < w.heap.size) wr (.slice a cs.length cap) cs).at hlp
      by_cases hlq : q < ds.length
      · have hlq0 : (q : Int) < ds.length := by omega
        have glq : ((q : Int) == ds.length) = false := beqF (by omega)
        obtain ⟨hbky, -, y0, y1, y2, y3, y4, uly, y5, huly⟩ := (HV0.out.keep (KeepS.below hB.out) : ChV (· < w.heap.size) wr (.slice a' ds.length cap') ds).at hlq
        have H1 : Hid (cs[p] = ds[q] → Hid (TogTo cs ds (out ++ [cs[p]]) (p + 1) (q + 1))) := hid (fun h => hid (hto.out.both hlp hlq h))
        have H2 : Hid (¬ cs[p] = ds[q] → Mer.firstB cs[p] ds[q] = true → Hid (TogTo cs ds (out ++ [cs[p]]) (p + 1) q)) := hid (fun h h' => hid (hto.out.first hlp hlq h h'))
        have H3 : Hid (¬ cs[p] = ds[q] → Mer.firstB cs[p] ds[q] = false → Hid (TogTo cs ds (out ++ [ds[q]]) p (q + 1))) := hid (fun h h' => hid (hto.out.second hlp hlq h h'))
        generalize cs[p] = cx at *
        obtain ⟨kx, ix, fx, ox, nx, vsx⟩ := cx
        simp only at x0 x1 x2 x3 x4 hulx
        obtain ⟨alx, clx, rfl, -, -, -⟩ := hulx.form
        have HULx : Hid (∀ W, Below wr.heap.size wr W → IntsV (fun b => b < w.heap.size ∧ some b ≠ u5.ownBlock) W (.slice alx vsx.length clx) vsx) := hid (fun W h => IntsV.mono (hulx.keep (KeepS.below h)) (fun b _ hb' => ⟨hb', fun e => by have := (HLT.out b e).1; omega⟩))
        have HCx : Hid (∀ W, Below wr.heap.size wr W → IntsV (· < w.heap.size) W (.slice alx vsx.length clx) vsx) := hid (fun W h => hulx.keep (KeepS.below h))
        clear hulx
        generalize ds[q] = cy at *
        obtain ⟨ky, iy, fy, oy, ny, vsy⟩ := cy
        simp only at y0 y1 y2 y3 y4 huly
        obtain ⟨aly, cly, rfl, -, -, -⟩ := huly.form
        have HULy : Hid (∀ W, Below wr.heap.size wr W → IntsV (fun b => b < w.heap.size ∧ some b ≠ u5.ownBlock) W (.slice aly vsy.length cly) vsy) := hid (fun W h => IntsV.mono (huly.keep (KeepS.below h)) (fun b _ hb' => ⟨hb', fun e => by have := (HLT.out b e).1; omega⟩))
        have HCy : Hid (∀ W, Below wr.heap.size wr W → IntsV (· < w.heap.size) W (.slice aly vsy.length cly) vsy) := hid (fun W h => huly.keep (KeepS.below h))
        clear huly
        have HS := hid (fun W hW => sameC_any ⟨kx, ix, fx, ox, nx, vsx⟩ ⟨ky, iy, fy, oy, ny, vsy⟩ _ _ _ _ W (HCx.out W hW) (HCy.out W hW))
        have HX0 := hid x0
        have HX1 := hid x1
        have HX2 := hid x2
        have HX3 := hid x3
        have HX4 := hid x4
        have HX5 := hid x5
        have HY0 := hid y0
        have HY1 := hid y1
        have HY2 := hid y2
        have HY3 := hid y3
        have HY4 := hid y4
        have HY5 := hid y5
        go_wp2
        refine wp_region_quiet_tail 8 (by kernel_rfl) (by kernel_rfl) ?_
        simp only [List.take_succ_cons, List.take_zero, List.drop_succ_cons, List.drop_zero]
        repeat (go_big_quiet_step (fail))
        refine wpQuiet_nil ?_
        clear x0 x1 x2 x3 x4 x5 y0 y1 y2 y3 y4 y5
        go_wp2_with fail
        refine (HS.out _ (below_drewN (Below.refl _ _) _)).mono ?_
        rintro e w5 ⟨rfl, hb5⟩
        have HB5 : Hid (Below wr.heap.size wr w5) := hid ((below_drewN (Below.refl _ _) _).trans hb5)
        clear hb5 HS
        have x0 := cell_later HB5.out HX0.out
        have x1 := cell_later HB5.out HX1.out
        have x2 := cell_later HB5.out HX2.out
        have x3 := cell_later HB5.out HX3.out
        have x4 := cell_later HB5.out HX4.out
        have x5 := cell_later HB5.out HX5.out
        have y0 := cell_later HB5.out HY0.out
        have y1 := cell_later HB5.out HY1.out
        have y2 := cell_later HB5.out HY2.out
        have y3 := cell_later HB5.out HY3.out
        have y4 := cell_later HB5.out HY4.out
        have y5 := cell_later HB5.out HY5.out
        have szx := Nat.lt_of_lt_of_le hbkx HB5.out.size
        have szy := Nat.lt_of_lt_of_le hbky HB5.out.size
        by_cases hxy : ((⟨kx, ix, fx, ox, nx, vsx⟩ : Chg) = ⟨ky, iy, fy, oy, ny, vsy⟩)
        · have HT := H1.out hxy
          have HD := hid (decide_eq_true hxy)
          rw [HD.out]
          clear H1 H2 H3 hxy HX0 HX1 HX2 HX3 HX4 HX5 HY0 HY1 HY2 HY3 HY4 HY5
          go_wp2_with (at_builtin; go_must (refine wpList_appC1 rfl _ _ rfl Try.app34 rfl (HOWN.out _ HB5.out) rfl ⟨kx, ix, fx, ox, nx, vsx⟩ (.slice alx vsx.length clx) rfl rfl (HULx.out _ HB5.out) (by omega) (HSZ.out _ HB5.out) ?_))
          intro v' w1 hown2 ht
          have hb2 : Hid (Below w.heap.size w w1) := hid ((HBW.out _ HB5.out).trans (ht.below (HSZ.out _ HB5.out) (fun b hb' => (HLT.out b hb').1)))
          clear ht HOWN HLT HBW HSZ
          go_wp2
          go_roundw
          case rel => exact ⟨p + 1, q + 1, _, by omega, by omega, by simp; omega, by go_num, by go_num, hown2, HT, hb2⟩
          case measure => simp [intOf]; omega
        · have HT2 := hid (H2.out hxy)
          have HT3 := hid (H3.out hxy)
          have HD := hid (decide_eq_false hxy)
          rw [HD.out]
          clear H1 H2 H3 hxy
          by_cases hk : kx = ky
          · subst hk
            by_cases hf : fy < 0
            · have HT := HT2.out (by unfold Mer.firstB Mer.isSet; simp; omega)
              clear HX0 HX1 HX2 HX3 HX4 HX5 HY0 HY1 HY2 HY3 HY4 HY5
              clear HT2 HT3
              have HDf := hid (decide_eq_true hf)
              go_wp2
              have hdf := HDf.out
              go_quiet (fail)
              go_wp2
              go_quiet (fail)
              go_wp2
              go_quiet (fail)
              go_wp2_with (at_builtin; go_must (refine wpList_appC1 rfl _ _ rfl Try.app34 rfl (HOWN.out _ (below_drewN HB5.out _)) rfl ⟨kx, ix, fx, ox, nx, vsx⟩ (.slice alx vsx.length clx) rfl rfl (HULx.out _ (below_drewN HB5.out _)) (by omega) (HSZ.out _ (below_drewN HB5.out _)) ?_))
              intro v' w1 hown2 ht
              have hb2 : Hid (Below w.heap.size w w1) := hid ((HBW.out _ (below_drewN HB5.out _)).trans (ht.below (HSZ.out _ (below_drewN HB5.out _)) (fun b hb' => (HLT.out b hb').1)))
              clear ht HOWN HLT HBW HSZ
              go_wp2
              go_roundw
              case rel => exact ⟨p + 1, q, _, by omega, by omega, by simp; omega, by go_num, by go_num, hown2, HT, hb2⟩
              case measure => simp [intOf]; omega
            · by_cases hg : fx < 0
              · have HT := HT3.out (by unfold Mer.firstB Mer.isSet; simp; omega)
                clear HX0 HX1 HX2 HX3 HX4 HX5 HY0 HY1 HY2 HY3 HY4 HY5
                clear HT2 HT3
                have HDf := hid (decide_eq_false hf)
                have HDg := hid (decide_eq_false (show ¬ 0 ≤ fx by omega))
                go_wp2
                have hdf := HDf.out
                have hdg := HDg.out
                go_quiet (fail)
                go_wp2
                go_quiet (fail)
                go_wp2
                go_quiet (fail)
                go_wp2_with (at_builtin; go_must (refine wpList_appC1 rfl _ _ rfl Try.app34 rfl (HOWN.out _ (below_drewN HB5.out _)) rfl ⟨kx, iy, fy, oy, ny, vsy⟩ (.slice aly vsy.length cly) rfl rfl (HULy.out _ (below_drewN HB5.out _)) (by omega) (HSZ.out _ (below_drewN HB5.out _)) ?_))
                intro v' w1 hown2 ht
                have hb2 : Hid (Below w.heap.size w w1) := hid ((HBW.out _ (below_drewN HB5.out _)).trans (ht.below (HSZ.out _ (below_drewN HB5.out _)) (fun b hb' => (HLT.out b hb').1)))
                clear ht HOWN HLT HBW HSZ
                go_wp2
                go_roundw
                case rel => exact ⟨p, q + 1, _, by omega, by omega, by simp; omega, by go_num, by go_num, hown2, HT, hb2⟩
                case measure => simp [intOf]; omega
              · have HFB : Hid (Mer.firstB ⟨kx, ix, fx, ox, nx, vsx⟩ ⟨kx, iy, fy, oy, ny, vsy⟩ = Mer.afterB ⟨kx, iy, fy, oy, ny, vsy⟩ ⟨kx, ix, fx, ox, nx, vsx⟩) := hid (by unfold Mer.firstB Mer.isSet; rw [if_pos rfl]; simp [show 0 ≤ fx by omega, show 0 ≤ fy by omega])
                have HAF := hid (fun W => after_any ⟨kx, iy, fy, oy, ny, vsy⟩ ⟨kx, ix, fx, ox, nx, vsx⟩ aly alx vsy.length vsx.length cly clx W)
                have HDf := hid (decide_eq_false hf)
                have HDg := hid (decide_eq_true (show 0 ≤ fx by omega))
                go_wp2
                have hdf := HDf.out
                have hdg := HDg.out
                go_quiet (fail)
                go_wp2
                go_quiet (fail)
                go_wp2
                refine wp_region_quiet_tail 22 (by kernel_rfl) (by kernel_rfl) ?_
                simp only [List.take_succ_cons, List.take_zero, List.drop_succ_cons, List.drop_zero]
                repeat (go_big_quiet_step (fail))
                refine wpQuiet_nil ?_
                clear x0 x1 x2 x3 x4 x5 y0 y1 y2 y3 y4 y5
                go_wp2_with fail
                refine (HAF.out _).mono ?_
                rintro e w6 ⟨rfl, hb6⟩
                have HB6 : Hid (Below wr.heap.size wr w6) := hid ((below_drewN HB5.out _).trans (hb6.mono (by simp; exact HB5.out.size)))
                clear hb6
                have x0 := cell_later HB6.out HX0.out
                have x1 := cell_later HB6.out HX1.out
                have x2 := cell_later HB6.out HX2.out
                have x3 := cell_later HB6.out HX3.out
                have x4 := cell_later HB6.out HX4.out
                have x5 := cell_later HB6.out HX5.out
                have y0 := cell_later HB6.out HY0.out
                have y1 := cell_later HB6.out HY1.out
                have y2 := cell_later HB6.out HY2.out
                have y3 := cell_later HB6.out HY3.out
                have y4 := cell_later HB6.out HY4.out
                have y5 := cell_later HB6.out HY5.out
                have szx := Nat.lt_of_lt_of_le hbkx HB6.out.size
                have szy := Nat.lt_of_lt_of_le hbky HB6.out.size
                clear HX0 HX1 HX2 HX3 HX4 HX5 HY0 HY1 HY2 HY3 HY4 HY5
                cases hA : Mer.afterB ⟨kx, iy, fy, oy, ny, vsy⟩ ⟨kx, ix, fx, ox, nx, vsx⟩ with
                | true =>
                  have HT := HT2.out (HFB.out.trans hA)
                  clear HT2 HT3 hA HFB
                  go_wp2_with (at_builtin; go_must (refine wpList_appC1 rfl _ _ rfl Try.app34 rfl (HOWN.out _ HB6.out) rfl ⟨kx, ix, fx, ox, nx, vsx⟩ (.slice alx vsx.length clx) rfl rfl (HULx.out _ HB6.out) (by omega) (HSZ.out _ HB6.out) ?_))
                  intro v' w1 hown2 ht
                  have hb2 : Hid (Below w.heap.size w w1) := hid ((HBW.out _ HB6.out).trans (ht.below (HSZ.out _ HB6.out) (fun b hb' => (HLT.out b hb').1)))
                  clear ht HOWN HLT HBW HSZ
                  go_wp2
                  go_roundw
                  case rel => exact ⟨p + 1, q, _, by omega, by omega, by simp; omega, by go_num, by go_num, hown2, HT, hb2⟩
                  case measure => simp [intOf]; omega
                | false =>
                  have HT := HT3.out (HFB.out.trans hA)
                  clear HT2 HT3 hA HFB
                  go_wp2_with (at_builtin; go_must (refine wpList_appC1 rfl _ _ rfl Try.app34 rfl (HOWN.out _ HB6.out) rfl ⟨kx, iy, fy, oy, ny, vsy⟩ (.slice aly vsy.length cly) rfl rfl (HULy.out _ HB6.out) (by omega) (HSZ.out _ HB6.out) ?_))
                  intro v' w1 hown2 ht
                  have hb2 : Hid (Below w.heap.size w w1) := hid ((HBW.out _ HB6.out).trans (ht.below (HSZ.out _ HB6.out) (fun b hb' => (HLT.out b hb').1)))
                  clear ht HOWN HLT HBW HSZ
                  go_wp2
                  go_roundw
                  case rel => exact ⟨p, q + 1, _, by omega, by omega, by simp; omega, by go_num, by go_num, hown2, HT, hb2⟩
                  case measure => simp [intOf]; omega
          · have ghk : (kx == ky) = false := beqF hk
            by_cases hl : kx < ky
            · have HT := HT2.out (by unfold Mer.firstB; simp [hk, hl])
              clear HX0 HX1 HX2 HX3 HX4 HX5 HY0 HY1 HY2 HY3 HY4 HY5
              clear HT2 HT3 hk
              have HDl := hid (decide_eq_true hl)
              go_wp2
              have hdl := HDl.out
              go_quiet (fail)
              go_wp2
              go_quiet (fail)
              go_wp2_with (at_builtin; go_must (refine wpList_appC1 rfl _ _ rfl Try.app34 rfl (HOWN.out _ (below_drewN HB5.out _)) rfl ⟨kx, ix, fx, ox, nx, vsx⟩ (.slice alx vsx.length clx) rfl rfl (HULx.out _ (below_drewN HB5.out _)) (by omega) (HSZ.out _ (below_drewN HB5.out _)) ?_))
              intro v' w1 hown2 ht
              have hb2 : Hid (Below w.heap.size w w1) := hid ((HBW.out _ (below_drewN HB5.out _)).trans (ht.below (HSZ.out _ (below_drewN HB5.out _)) (fun b hb' => (HLT.out b hb').1)))
              clear ht HOWN HLT HBW HSZ
              go_wp2
              go_roundw
              case rel => exact ⟨p + 1, q, _, by omega, by omega, by simp; omega, by go_num, by go_num, hown2, HT, hb2⟩
              case measure => simp [intOf]; omega
            · have HT := HT3.out (by unfold Mer.firstB; simp [hk, hl])
              clear HX0 HX1 HX2 HX3 HX4 HX5 HY0 HY1 HY2 HY3 HY4 HY5
              clear HT2 HT3 hk
              have HDl := hid (decide_eq_false hl)
              go_wp2
              have hdl := HDl.out
              go_quiet (fail)
              go_wp2
              go_quiet (fail)
              go_wp2_with (at_builtin; go_must (refine wpList_appC1 rfl _ _ rfl Try.app34 rfl (HOWN.out _ (below_drewN HB5.out _)) rfl ⟨ky, iy, fy, oy, ny, vsy⟩ (.slice aly vsy.length cly) rfl rfl (HULy.out _ (below_drewN HB5.out _)) (by omega) (HSZ.out _ (below_drewN HB5.out _)) ?_))
              intro v' w1 hown2 ht
              have hb2 : Hid (Below w.heap.size w w1) := hid ((HBW.out _ (below_drewN HB5.out _)).trans (ht.below (HSZ.out _ (below_drewN HB5.out _)) (fun b hb' => (HLT.out b hb').1)))
              clear ht HOWN HLT HBW HSZ
              go_wp2
              go_roundw
              case rel => exact ⟨p, q + 1, _, by omega, by omega, by simp; omega, by go_num, by go_num, hown2, HT, hb2⟩
              case measure => simp [intOf]; omega
      · have hlq0 : ¬ (q : Int) < ds.length := by omega
        obtain rfl : q = ds.length := by omega
        have HT : Hid (TogTo cs ds (out ++ [cs[p]]) (p + 1) ds.length) := hid (hto.out.left hlp (Nat.le_refl _))
        generalize cs[p] = cx at *
        obtain ⟨kx, ix, fx, ox, nx, vsx⟩ := cx
        simp only at x0 x1 x2 x3 x4 hulx
        obtain ⟨alx, clx, rfl, -, -, -⟩ := hulx.form
        have HULx : Hid (∀ W, Below wr.heap.size wr W → IntsV (fun b => b < w.heap.size ∧ some b ≠ u5.ownBlock) W (.slice alx vsx.length clx) vsx) := hid (fun W h => IntsV.mono (hulx.keep (KeepS.below h)) (fun b _ hb' => ⟨hb', fun e => by have := (HLT.out b e).1; omega⟩))
        have HCx : Hid (∀ W, Below wr.heap.size wr W → IntsV (· < w.heap.size) W (.slice alx vsx.length clx) vsx) := hid (fun W h => hulx.keep (KeepS.below h))
        clear hulx
        go_wp2_with (at_builtin; go_must (refine wpList_appC1 rfl _ _ rfl Try.app34 rfl (HOWN.out _ (Below.refl _ _)) rfl ⟨kx, ix, fx, ox, nx, vsx⟩ (.slice alx vsx.length clx) rfl rfl (HULx.out _ (Below.refl _ _)) (by omega) (HSZ.out _ (Below.refl _ _)) ?_))
        intro v' w1 hown2 ht
        have hb2 : Hid (Below w.heap.size w w1) := hid ((HBW.out _ (Below.refl _ _)).trans (ht.below (HSZ.out _ (Below.refl _ _)) (fun b hb' => (HLT.out b hb').1)))
        clear ht HOWN HLT HBW HSZ
        go_wp2
        go_roundw
        case rel => exact ⟨p + 1, ds.length, _, by omega, by omega, by simp; omega, by go_num, by go_num, hown2, HT, hb2⟩
        case measure => simp [intOf]; omega
    · have hlp0 : ¬ (p : Int) < cs.length := by omega
      obtain rfl : p = cs.length := by omega
      by_cases hlq : q < ds.length
      · have hlq0 : (q : Int) < ds.length := by omega
        obtain ⟨hbky, -, y0, y1, y2, y3, y4, uly, y5, huly⟩ := (HV0.out.keep (KeepS.below hB.out) : ChV (· < w.heap.size) wr (.slice a' ds.length cap') ds).at hlq
        have HT : Hid (TogTo cs ds (out ++ [ds[q]]) cs.length (q + 1)) := hid (hto.out.right (Nat.le_refl _) hlq)
        generalize ds[q] = cy at *
        obtain ⟨ky, iy, fy, oy, ny, vsy⟩ := cy
        simp only at y0 y1 y2 y3 y4 huly
        obtain ⟨aly, cly, rfl, -, -, -⟩ := huly.form
        have HULy : Hid (∀ W, Below wr.heap.size wr W → IntsV (fun b => b < w.heap.size ∧ some b ≠ u5.ownBlock) W (.slice aly vsy.length cly) vsy) := hid (fun W h => IntsV.mono (huly.keep (KeepS.below h)) (fun b _ hb' => ⟨hb', fun e => by have := (HLT.out b e).1; omega⟩))
        have HCy : Hid (∀ W, Below wr.heap.size wr W → IntsV (· < w.heap.size) W (.slice aly vsy.length cly) vsy) := hid (fun W h => huly.keep (KeepS.below h))
        clear huly
        go_wp2_with (at_builtin; go_must (refine wpList_appC1 rfl _ _ rfl Try.app34 rfl (HOWN.out _ (Below.refl _ _)) rfl ⟨ky, iy, fy, oy, ny, vsy⟩ (.slice aly vsy.length cly) rfl rfl (HULy.out _ (Below.refl _ _)) (by omega) (HSZ.out _ (Below.refl _ _)) ?_))
        intro v' w1 hown2 ht
        have hb2 : Hid (Below w.heap.size w w1) := hid ((HBW.out _ (Below.refl _ _)).trans (ht.below (HSZ.out _ (Below.refl _ _)) (fun b hb' => (HLT.out b hb').1)))
        clear ht HOWN HLT HBW HSZ
        go_wp2
        go_roundw
        case rel => exact ⟨cs.length, q + 1, _, by omega, by omega, by simp; omega, by go_num, by go_num, hown2, HT, hb2⟩
        case measure => simp [intOf]; omega
      · have hlq0 : ¬ (q : Int) < ds.length := by omega
        have HE := hid (hto.out.last (Nat.le_refl _) (by omega))
        have HRES : Hid (ChV AnyB wr u5 (Mer.togetherR cs ds)) := hid (by rw [← HE.out]; exact ChV.mono (HOWN.out wr (Below.refl _ _)).sl (fun _ _ _ => trivial))
        clear HOWN HLT HBW HSZ
        go_wp2
        go_ret
        exact ⟨_, rfl, HRES.out, hB.out⟩

end Go.Proofs.Yteepdnamkcgndaa
