/- The law DiffMerged. -/
import Derived.Test.YteepdnamkcgndaaM23
import Derived.Test.YteepdnamkcgndaaM20
import Derived.Test.YteepdnamkcgndaaM10
namespace Go.Proofs.Yteepdnamkcgndaa
open Go.RowKit

set_option maxRecDepth 100000 in
set_option maxHeartbeats 16000000 in
theorem merged_any (l m k : List Int) (hl : Fit l) (hm : Fit m) (hk : Fit k) (al am ak : Option Addr) (nl nm nk cl cm ck : Nat) (w : World) (vl : IntsV AnyB w (.slice al nl cl) l) (vm : IntsV AnyB w (.slice am nm cm) m) (vk : IntsV AnyB w (.slice ak nk ck) k) :
    Calls Try.prog 4 #[.slice al nl cl, .slice am nm cm, .slice ak nk ck] w fun e w' => e = .returned (.bool true) ∧ Below w.heap.size w w' := by
  have sl := shapeL_ok l
  have A0 := worldL_shape (shapeL l) l sl
  go_enter Try.func4, Try.ntmps4
  go_wp2_with fail
  refine (shape_any l hl _ _ w vl).mono ?_
  rintro e w1 ⟨s, rfl, hs, b1⟩
  have hs' := IntsV.mono (S' := AnyB) hs (fun _ _ _ => trivial)
  obtain ⟨as_, cs_, rfl, -, -, -⟩ := hs'.form
  have vl1 : IntsV AnyB w1 _ l := vl.keep (KeepS.below b1)
  go_wp2_with fail
  refine (world_any (shapeL l) sl l hl _ _ _ _ w1 hs' vl1).mono ?_
  rintro e w2 ⟨va, rfl, ha, b2⟩
  have hA2 := WorldV.mono (S' := AnyB) ha (fun _ _ _ => trivial)
  have b02 : Below w.heap.size w w2 := b1.trans (b2.mono b1.size)
  have HA2 := hid hA2
  have HS2 := hid (IntsV.keep hs' (KeepS.below b2))
  have HM2 := hid (vm.keep (KeepS.below b02))
  have HK2 := hid (vk.keep (KeepS.below b02))
  have B02 := hid b02
  generalize worldL (shapeL l) l = A at *
  have hSA := A0.small sl
  obtain ⟨xa, ya, rfl, hoka, hcapa, hmaxa⟩ := hA2.form
  clear vl vl1 vm vk hs hs' ha b1 b2 hA2 b02
  go_wp2_with fail
  refine (near_any _ (shapeL l) m A0 sl (shapeL_pos l) hm _ _ _ _ _ _ w2 HA2.out HS2.out HM2.out).mono ?_
  rintro e w3 ⟨vn, Wp, rfl, hn, N1, bn⟩
  have HP3 := hid (WorldV.mono (S' := AnyB) (WorldF.sl hn) (fun _ _ _ => trivial))
  have HA3 := hid (WorldV.keep HA2.out (KeepS.below bn))
  have HS3 := hid (IntsV.keep HS2.out (KeepS.below bn))
  have HK3 := hid (IntsV.keep HK2.out (KeepS.below bn))
  have B03 := hid (B02.out.trans (bn.mono B02.out.size))
  have hSP := N1.small sl
  obtain ⟨xp, yp, rfl, hokp, hcapp, hmaxp⟩ := HP3.out.form
  clear hn bn HA2 HS2 HM2 HK2 B02
  go_wp2_with fail
  refine (near_any _ (shapeL l) k A0 sl (shapeL_pos l) hk _ _ _ _ _ _ w3 HA3.out HS3.out HK3.out).mono ?_
  rintro e w4 ⟨vn, Wq, rfl, hn, N2, bn⟩
  have HQ4 := hid (WorldV.mono (S' := AnyB) (WorldF.sl hn) (fun _ _ _ => trivial))
  have HA4 := hid (WorldV.keep HA3.out (KeepS.below bn))
  have HP4 := hid (WorldV.keep HP3.out (KeepS.below bn))
  have B04 := hid (B03.out.trans (bn.mono B03.out.size))
  have hSQ := N2.small sl
  obtain ⟨xq, yq, rfl, hokq, hcapq, hmaxq⟩ := HQ4.out.form
  clear hn bn HA3 HS3 HK3 HP3 B03
  have hE1 : diffE A Wp = 0 := by unfold diffE; rw [if_pos (shapeW_ok A0 N1 sl)]
  have hE2 : diffE A Wq = 0 := by unfold diffE; rw [if_pos (shapeW_ok A0 N2 sl)]
  have HMC := hid (merge_cases sl A0 N1 N2)
  have n1 := diffC_len_small A0 N1 sl
  have n2 := diffC_len_small A0 N2 sl
  have G1 := hid (diffC_good A0 N1 sl)
  have G2 := hid (diffC_good A0 N2 sl)
  have HLA := hid (show A.length = Wp.length by rw [A0.1, N1.1])
  have HLQ := hid (show Wq.length = Wp.length by rw [N2.1, N1.1])
  have hl3 : A.length ≤ 3 := by rw [A0.1]; exact sl.1
  have HRP : Hid (∀ q (hq : q < A.length) j, j < (A.getD q []).length → j < (Wp.getD q []).length → ((Wp.getD q []).getD j []).length = ((A.getD q []).getD j []).length) := hid (fun q hq j g1 g2 => shape_row A0 N1 hq g1 g2)
  have HRQ : Hid (∀ q (hq : q < A.length) j, j < (A.getD q []).length → j < (Wq.getD q []).length → ((Wq.getD q []).getD j []).length = ((A.getD q []).getD j []).length) := hid (fun q hq j g1 g2 => shape_row A0 N2 hq g1 g2)
  have HL6 : Hid (∀ q (hq : q < A.length), (A.getD q []).length ≤ 6 ∧ (Wp.getD q []).length ≤ 6 ∧ (Wq.getD q []).length ≤ 6) := hid (fun q hq => ⟨(shapeW_getD A0 hq).1, (shapeW_getD N1 (by have := HLA.out; omega)).1, (shapeW_getD N2 (by have := HLA.out; have := HLQ.out; omega)).1⟩)
  have HX6 : Hid (∀ X, ShapeW (shapeL l) X → X.length = A.length) := hid (fun X hX => by rw [hX.1, A0.1])
  clear A0 N1 N2
  go_wp2_with fail
  refine (pdiff_any A Wp hSA hSP _ _ AnyB AnyB w4 HA4.out HP4.out).mono ?_
  rw [hE1]
  rintro e w5 ⟨z1, rfl, hz, bd⟩
  have HZ15 := hid hz
  have HA5 := hid (WorldV.keep HA4.out (KeepS.below bd))
  have HP5 := hid (WorldV.keep HP4.out (KeepS.below bd))
  have HQ5 := hid (WorldV.keep HQ4.out (KeepS.below bd))
  have B05 := hid (B04.out.trans (bd.mono B04.out.size))
  obtain ⟨q1, r1, rfl, -⟩ := hz.form
  clear hz bd HA4 HP4 HQ4 B04 hE1
  go_wp2_with fail
  refine (pdiff_any A Wq hSA hSQ _ _ AnyB AnyB w5 HA5.out HQ5.out).mono ?_
  rw [hE2]
  rintro e w6 ⟨z2, rfl, hz, bd⟩
  have HZ26 := hid hz
  have HZ16 := hid (ChV.keep HZ15.out (KeepS.below bd))
  have HA6 := hid (WorldV.keep HA5.out (KeepS.below bd))
  have HP6 := hid (WorldV.keep HP5.out (KeepS.below bd))
  have HQ6 := hid (WorldV.keep HQ5.out (KeepS.below bd))
  have B06 := hid (B05.out.trans (bd.mono B05.out.size))
  obtain ⟨q2, r2, rfl, -⟩ := hz.form
  clear hz bd HA5 HP5 HQ5 B05 HZ15 hE2
  generalize diffC A Wp = L1 at *
  generalize diffC A Wq = L2 at *
  obtain ⟨ML, hML⟩ : ∃ ML, ML = mergeL L1 L2 := ⟨_, rfl⟩
  obtain ⟨me, hme⟩ : ∃ me, me = mergeE L1 L2 := ⟨_, rfl⟩
  have hmc := HMC.out
  rw [← hML, ← hme] at hmc
  obtain ⟨⟨hs1, hs2⟩, ⟨hlen, hvals⟩, hcases⟩ := hmc
  have HV := hid hvals
  have HS1 := hid hs1
  have HS2 := hid hs2
  have HC := hid hcases
  have HML := hid hML
  have HME := hid hme
  clear hML hme hs1 hs2 hvals hcases HMC
  go_wp2_with fail
  refine (pmerge_any L1 L2 (by omega) (by omega) G1.out G2.out _ _ AnyB AnyB w6 HZ16.out HZ26.out).mono ?_
  rw [← HML.out, ← HME.out]
  rintro e w7 ⟨z3, rfl, hz, bd⟩
  have HC7 := hid hz
  have HZ17 := hid (ChV.keep HZ16.out (KeepS.below bd))
  have HZ27 := hid (ChV.keep HZ26.out (KeepS.below bd))
  have B67 := hid bd
  obtain ⟨q3, r3, rfl, -⟩ := hz.form
  clear hz bd HZ16 HZ26
  go_wp2_with fail
  refine (pmerge_any L2 L1 (by omega) (by omega) G2.out G1.out _ _ AnyB AnyB w7 HZ27.out HZ17.out).mono ?_
  rw [HS1.out, HS2.out]
  rintro e w8 ⟨z4, rfl, hz, bd⟩
  have HD8 := hid hz
  have HC8 := hid (ChV.keep HC7.out (KeepS.below bd))
  have B68 := hid (B67.out.trans (bd.mono B67.out.size))
  obtain ⟨q4, r4, rfl, -⟩ := hz.form
  clear hz bd HZ17 HZ27 HC7 B67 HS1 HS2 HML HME G1 G2
  have hne : (me != me) = false := bneF rfl
  go_wp2_with fail
  refine (plain_any ML (by omega) _ AnyB w8 HC8.out).mono ?_
  rintro e w9 ⟨z5, rfl, hz, bd⟩
  have HE9 := hid hz
  have HC9 := hid (ChV.keep HC8.out (KeepS.below bd))
  have HD9 := hid (ChV.keep HD8.out (KeepS.below bd))
  have B69 := hid (B68.out.trans (bd.mono B68.out.size))
  obtain ⟨q5, r5, rfl, -⟩ := hz.form
  clear hz bd HC8 HD8 B68
  go_wp2_with fail
  refine (plain_any ML (by omega) _ AnyB w9 HD9.out).mono ?_
  rintro e w10 ⟨z6, rfl, hz, bd⟩
  have HF10 := hid hz
  have HE10 := hid (ChV.keep HE9.out (KeepS.below bd))
  have HC10 := hid (ChV.keep HC9.out (KeepS.below bd))
  have B610 := hid (B69.out.trans (bd.mono B69.out.size))
  obtain ⟨q6, r6, rfl, -⟩ := hz.form
  clear hz bd HE9 HC9 HD9 B69
  go_wp2_with fail
  refine (sameAll_any ML ML _ _ AnyB AnyB w10 HE10.out HF10.out).mono ?_
  rw [decide_eq_true (rfl : ML = ML)]
  rintro e w11 ⟨rfl, bd⟩
  have HC11 := hid (ChV.keep HC10.out (KeepS.below bd))
  have B611 := hid (B610.out.trans (bd.mono B610.out.size))
  have HA11 := hid (WorldV.keep HA6.out (KeepS.below B611.out))
  have HP11 := hid (WorldV.keep HP6.out (KeepS.below B611.out))
  have HQ11 := hid (WorldV.keep HQ6.out (KeepS.below B611.out))
  have B011 := hid (B06.out.trans (B611.out.mono B06.out.size))
  clear bd HC10 HE10 HF10 B610 B611 B06 HA6 HP6 HQ6 hne
  rcases HC.out with rfl | ⟨rfl, X, hX, hap, hmer⟩
  · clear HC
    go_wp2_with fail
    refine (lives_any w11).mono ?_
    rintro e w12 ⟨rfl, bd⟩
    have B012 := hid (B011.out.trans (bd.mono B011.out.size))
    clear bd
    go_wp2
    go_ret
    exact ⟨rfl, B012.out⟩
  · have HMer := hid hmer
    have HXL := hid (HX6.out X hX)
    have HXL6 : Hid (∀ q (hq : q < A.length), (X.getD q []).length ≤ 6) := hid (fun q hq => (shapeW_getD hX (by have := HXL.out; omega)).1)
    have HRX : Hid (∀ q (hq : q < A.length) j, j < (X.getD q []).length → j < (A.getD q []).length → ((X.getD q []).getD j []).length = ((A.getD q []).getD j []).length) := hid (fun q hq j g1 g2 => (hmer q hq).row j g1 g2)
    clear HC HX6 hX hmer
    go_wp2_with fail
    refine (applyP_any A hSA ML (by omega) HV.out _ _ AnyB AnyB w11 HA11.out HC11.out).mono ?_
    rw [hap]
    rintro e w12 ⟨z7, rfl, hz, bd⟩
    have HA12 := hid (WorldV.keep HA11.out (KeepS.below bd))
    have HP12 := hid (WorldV.keep HP11.out (KeepS.below bd))
    have HQ12 := hid (WorldV.keep HQ11.out (KeepS.below bd))
    have B012 := hid (B011.out.trans (bd.mono B011.out.size))
    have HX12 : Hid (WorldV AnyB w12 z7 X) := hid hz
    obtain ⟨xx, yx, rfl, hokx, hcapx, hmaxx⟩ := HX12.out.form
    clear hz bd hap HA11 HP11 HQ11 B011 HC11 HV
    have hnl : ((X.length : Int) != (A.length : Int)) = false := bneF (by have := HXL.out; omega)
    go_wp2
    clear hnl hSA hSP hSQ hlen n1 n2
    go_loopw [21] (fun i wr => ∃ q : Nat, q ≤ A.length ∧ i = .int .i64 q ∧ Hid (Below w12.heap.size w12 wr)) (fun i _ => A.length - (intOf i).toNat)
    case atStart => exact ⟨0, by omega, rfl, hid (Below.refl _ _)⟩
    case round =>
      obtain ⟨q, hq, rfl, HB⟩ := hrel
      by_cases hlt : q < A.length
      · have hqp : q < Wp.length := by have := HLA.out; omega
        have hqq : q < Wq.length := by have := HLA.out; have := HLQ.out; omega
        have hqx : q < X.length := by have := HXL.out; omega
        have hM := HMer.out q hlt
        have m1 := hM.len
        have m2 := hM.val
        have m3 := HRP.out q hlt
        have m4 := HRQ.out q hlt
        have m5 := HRX.out q hlt
        have m6 := HL6.out q hlt
        have m7 := HXL6.out q hlt
        clear hM
        rw [getD_eq hlt, getD_eq hqp, getD_eq hqq, getD_eq hqx] at m1 m2
        rw [getD_eq hlt, getD_eq hqp] at m3
        rw [getD_eq hlt, getD_eq hqq] at m4
        rw [getD_eq hlt, getD_eq hqx] at m5
        rw [getD_eq hlt, getD_eq hqp, getD_eq hqq] at m6
        rw [getD_eq hqx] at m7
        obtain ⟨ua, hca, hba, hra⟩ := (WorldV.keep HA12.out (KeepS.below HB.out)).at hlt
        obtain ⟨up, hcp, hbp, hrp⟩ := (WorldV.keep HP12.out (KeepS.below HB.out)).at hqp
        obtain ⟨uq, hcq, hbq, hrq⟩ := (WorldV.keep HQ12.out (KeepS.below HB.out)).at hqq
        obtain ⟨ux, hcx, hbx, hrx⟩ := (WorldV.keep HX12.out (KeepS.below HB.out)).at hqx
        generalize A[q] = ra at *
        generalize Wp[q] = rp at *
        generalize Wq[q] = rq at *
        generalize X[q] = rx at *
        obtain ⟨ja, ka, rfl, hja, hka1, hka2⟩ := hra.form
        obtain ⟨jp, kp, rfl, hjp, hkp1, hkp2⟩ := hrp.form
        obtain ⟨jq, kq, rfl, hjq, hkq1, hkq2⟩ := hrq.form
        obtain ⟨jx, kx, rfl, hjx, hkx1, hkx2⟩ := hrx.form
        have HRA := hid hra
        have HRPq := hid hrp
        have HRQq := hid hrq
        have HRXq := hid hrx
        have M2 := hid m2
        have M3 := hid m3
        have M4 := hid m4
        have M5 := hid m5
        have hm6a := m6.1
        have hm6b := m6.2.1
        have hm6c := m6.2.2
        clear hra hrp hrq hrx m2 m3 m4 m5 m6
        have hq0 : (0 : Int) ≤ q := by omega
        have hqa : (q : Int) < A.length := by omega
        have hqp' : (q : Int) < Wp.length := by omega
        have hqq' : (q : Int) < Wq.length := by omega
        have hqx' : (q : Int) < X.length := by omega
        obtain ⟨wo, rfl⟩ : ∃ wo : World, wo = wr := ⟨_, rfl⟩
        by_cases hpl : rp.length = ra.length
        · rw [if_pos hpl] at m1
          have hpb : ((rp.length : Int) == (ra.length : Int)) = true := beqT (by omega)
          have hxb : ((rx.length : Int) != (rq.length : Int)) = false := bneF (by omega)
          have M1 := hid m1
          have HPL := hid hpl
          clear m1 hpl
          go_wp2
          clear hpb hxb
          go_loopw [23] (fun i wr => ∃ j : Nat, j ≤ rq.length ∧ i = .int .i64 j ∧ Hid (Below wo.heap.size wo wr)) (fun i _ => rq.length - (intOf i).toNat)
          case atStart => exact ⟨0, by omega, rfl, hid (Below.refl _ _)⟩
          case round =>
            obtain ⟨j, hj, rfl, HB2⟩ := hrel
            have hb2s := HB2.out.size
            have hca2 := cell_later HB2.out hca
            have hcp2 := cell_later HB2.out hcp
            have hcq2 := cell_later HB2.out hcq
            have hcx2 := cell_later HB2.out hcx
            have hba2 : slb xa < wr.heap.size := by omega
            have hbp2 : slb xp < wr.heap.size := by omega
            have hbq2 : slb xq < wr.heap.size := by omega
            have hbx2 : slb xx < wr.heap.size := by omega
            have hj0 : (0 : Int) ≤ j := by omega
            have HBX := hid (HB.out.trans (HB2.out.mono HB.out.size))
            by_cases hall : j < rq.length ∧ j < ra.length ∧ j < rp.length ∧ j < rq.length
            · obtain ⟨h1, h2, h3, h4⟩ := hall
              have h5 : j < rx.length := by have := M1.out; omega
              have d1 : decide ((j : Int) < rq.length) = true := decide_eq_true (by omega)
              have d2 : decide ((j : Int) < ra.length) = true := decide_eq_true (by omega)
              have d3 : decide ((j : Int) < rp.length) = true := decide_eq_true (by omega)
              have d4 : decide ((j : Int) < rq.length) = true := decide_eq_true (by omega)
              have d5 : (j : Int) < rx.length := by omega
              have e3 := M3.out j h2 h3
              have e4 := M4.out j h2 h4
              have e5 := M5.out j h5 h2
              have e2 := fun v => M2.out j v h5 h2 h3 h4
              rw [getD_eq h2, getD_eq h3] at e3
              rw [getD_eq h2, getD_eq h4] at e4
              rw [getD_eq h2, getD_eq h5] at e5
              rw [getD_eq h2, getD_eq h3, getD_eq h4, getD_eq h5] at e2
              obtain ⟨ta, oca, oba, ora⟩ := (RowsV.keep HRA.out (KeepS.below HB2.out)).at h2
              obtain ⟨tp, ocp, obp, orp⟩ := (RowsV.keep HRPq.out (KeepS.below HB2.out)).at h3
              obtain ⟨tq, ocq, obq, orq⟩ := (RowsV.keep HRQq.out (KeepS.below HB2.out)).at h4
              obtain ⟨tx, ocx, obx, orx⟩ := (RowsV.keep HRXq.out (KeepS.below HB2.out)).at h5
              generalize ra[j] = sa at *
              generalize rp[j] = sp at *
              generalize rq[j] = sq at *
              generalize rx[j] = sx at *
              obtain ⟨ia, la, rfl, hia, hia1, hia2⟩ := ora.form
              obtain ⟨ip, lp, rfl, hip, hip1, hip2⟩ := orp.form
              obtain ⟨iq, lq, rfl, hiq, hiq1, hiq2⟩ := orq.form
              obtain ⟨ix, lx, rfl, hix, hix1, hix2⟩ := orx.form
              have HOA := hid ora
              have HOP := hid orp
              have HOQ := hid orq
              have HOX := hid orx
              have E2 := hid e2
              have E3 := hid e3
              have E4 := hid e4
              have E5 := hid e5
              clear ora orp orq orx e2 e3 e4 e5
              go_wp2
              clear d1 d2 d3 d4
              obtain ⟨wm, rfl⟩ : ∃ wm : World, wm = wr := ⟨_, rfl⟩
              go_loopw [24] (fun i wr => ∃ v : Nat, v ≤ sa.length ∧ i = .int .i64 v ∧ Hid (Below wm.heap.size wm wr)) (fun i _ => sa.length - (intOf i).toNat)
              case atStart => exact ⟨0, by omega, rfl, hid (Below.refl _ _)⟩
              case round =>
                obtain ⟨v, hv, rfl, HB3⟩ := hrel
                have hb3s := HB3.out.size
                have hca3 := cell_later HB3.out hca2
                have hcp3 := cell_later HB3.out hcp2
                have hcq3 := cell_later HB3.out hcq2
                have hcx3 := cell_later HB3.out hcx2
                have oca3 := cell_later HB3.out oca
                have ocp3 := cell_later HB3.out ocp
                have ocq3 := cell_later HB3.out ocq
                have ocx3 := cell_later HB3.out ocx
                have hba3 : slb xa < wr.heap.size := by omega
                have hbp3 : slb xp < wr.heap.size := by omega
                have hbq3 : slb xq < wr.heap.size := by omega
                have hbx3 : slb xx < wr.heap.size := by omega
                have oba3 : slb ja < wr.heap.size := by omega
                have obp3 : slb jp < wr.heap.size := by omega
                have obq3 : slb jq < wr.heap.size := by omega
                have obx3 : slb jx < wr.heap.size := by omega
                clear hca2 hcp2 hcq2 hcx2 oca ocp ocq ocx hba2 hbp2 hbq2 hbx2 oba obp obq obx hca hcp hcq hcx hba hbp hbq hbx
                by_cases hvl : v < sa.length
                · have hca4 := (IntsV.keep HOA.out (KeepS.below HB3.out)).cell rfl hvl
                  have hcp4 := (IntsV.keep HOP.out (KeepS.below HB3.out)).cell rfl (show v < sp.length by have := E3.out; omega)
                  have hcq4 := (IntsV.keep HOQ.out (KeepS.below HB3.out)).cell rfl (show v < sq.length by have := E4.out; omega)
                  have hcx4 := (IntsV.keep HOX.out (KeepS.below HB3.out)).cell rfl (show v < sx.length by have := E5.out; omega)
                  have hval := E2.out v hvl
                  generalize sa.getD v 0 = na at *
                  generalize sp.getD v 0 = np at *
                  generalize sq.getD v 0 = nq at *
                  generalize sx.getD v 0 = nx at *
                  have hv0 : (0 : Int) ≤ v := by omega
                  have hv1 : (v : Int) < sa.length := by omega
                  have hv2 : (v : Int) < sp.length := by have := E3.out; omega
                  have hv3 : (v : Int) < sq.length := by have := E4.out; omega
                  have hv4 : (v : Int) < sx.length := by have := E5.out; omega
                  have f2 : (j : Int) < ra.length := by omega
                  have f3 : (j : Int) < rp.length := by omega
                  have f4 : (j : Int) < rq.length := by omega
                  have hsl : ((sx.length : Int) != (sa.length : Int)) = false := bneF (by have := E5.out; omega)
                  by_cases hnn : np = na
                  · rw [if_pos hnn] at hval
                    subst hval
                    have hb : (np == na) = true := beqT hnn
                    have hb2 : (nx != nx) = false := bneF rfl
                    clear hnn
                    go_wp2
                    go_quiet (fail)
                    go_wp2
                    go_roundw
                    case rel => exact ⟨v + 1, by omega, by go_num, hid (below_drewN HB3.out _)⟩
                    case measure => simp [intOf]; omega
                  · rw [if_neg hnn] at hval
                    subst hval
                    have hb : (nx == na) = false := beqF hnn
                    have hb2 : (nx != nx) = false := bneF rfl
                    clear hnn
                    go_wp2
                    go_quiet (fail)
                    go_wp2
                    go_roundw
                    case rel => exact ⟨v + 1, by omega, by go_num, hid (below_drewN HB3.out _)⟩
                    case measure => simp [intOf]; omega
                · obtain rfl : v = sa.length := by omega
                  go_wp2
                  go_roundw
                  case rel => exact ⟨j + 1, by omega, by go_num, hid (HB2.out.trans (HB3.out.mono HB2.out.size))⟩
                  case measure => simp [intOf]; omega
            · clear M2 M3 M4 M5 hcx hbx
              have hfour : ¬ j < rq.length ∨ (j < rq.length ∧ ¬ j < ra.length) := by have := HPL.out; omega
              rcases hfour with h1 | ⟨h1, h2⟩
              · have d1 : decide ((j : Int) < rq.length) = false := decide_eq_false (by omega)
                go_wp2
                go_roundw
                case rel => exact ⟨q + 1, by omega, by go_num, HBX⟩
                case measure => simp [intOf]; omega
              · have d1 : decide ((j : Int) < rq.length) = true := decide_eq_true (by omega)
                have d2 : decide ((j : Int) < ra.length) = false := decide_eq_false (by omega)
                go_wp2
                go_roundw
                case rel => exact ⟨q + 1, by omega, by go_num, HBX⟩
                case measure => simp [intOf]; omega
        · rw [if_neg hpl] at m1
          have hpb : ((rp.length : Int) == (ra.length : Int)) = false := beqF (by omega)
          have hxb : ((rx.length : Int) != (rp.length : Int)) = false := bneF (by omega)
          have M1 := hid m1
          clear m1 hpl
          go_wp2
          clear hpb hxb
          go_loopw [23] (fun i wr => ∃ j : Nat, j ≤ rp.length ∧ i = .int .i64 j ∧ Hid (Below wo.heap.size wo wr)) (fun i _ => rp.length - (intOf i).toNat)
          case atStart => exact ⟨0, by omega, rfl, hid (Below.refl _ _)⟩
          case round =>
            obtain ⟨j, hj, rfl, HB2⟩ := hrel
            have hb2s := HB2.out.size
            have hca2 := cell_later HB2.out hca
            have hcp2 := cell_later HB2.out hcp
            have hcq2 := cell_later HB2.out hcq
            have hcx2 := cell_later HB2.out hcx
            have hba2 : slb xa < wr.heap.size := by omega
            have hbp2 : slb xp < wr.heap.size := by omega
            have hbq2 : slb xq < wr.heap.size := by omega
            have hbx2 : slb xx < wr.heap.size := by omega
            have hj0 : (0 : Int) ≤ j := by omega
            have HBX := hid (HB.out.trans (HB2.out.mono HB.out.size))
            by_cases hall : j < rp.length ∧ j < ra.length ∧ j < rp.length ∧ j < rq.length
            · obtain ⟨h1, h2, h3, h4⟩ := hall
              have h5 : j < rx.length := by have := M1.out; omega
              have d1 : decide ((j : Int) < rp.length) = true := decide_eq_true (by omega)
              have d2 : decide ((j : Int) < ra.length) = true := decide_eq_true (by omega)
              have d3 : decide ((j : Int) < rp.length) = true := decide_eq_true (by omega)
              have d4 : decide ((j : Int) < rq.length) = true := decide_eq_true (by omega)
              have d5 : (j : Int) < rx.length := by omega
              have e3 := M3.out j h2 h3
              have e4 := M4.out j h2 h4
              have e5 := M5.out j h5 h2
              have e2 := fun v => M2.out j v h5 h2 h3 h4
              rw [getD_eq h2, getD_eq h3] at e3
              rw [getD_eq h2, getD_eq h4] at e4
              rw [getD_eq h2, getD_eq h5] at e5
              rw [getD_eq h2, getD_eq h3, getD_eq h4, getD_eq h5] at e2
              obtain ⟨ta, oca, oba, ora⟩ := (RowsV.keep HRA.out (KeepS.below HB2.out)).at h2
              obtain ⟨tp, ocp, obp, orp⟩ := (RowsV.keep HRPq.out (KeepS.below HB2.out)).at h3
              obtain ⟨tq, ocq, obq, orq⟩ := (RowsV.keep HRQq.out (KeepS.below HB2.out)).at h4
              obtain ⟨tx, ocx, obx, orx⟩ := (RowsV.keep HRXq.out (KeepS.below HB2.out)).at h5
              generalize ra[j] = sa at *
              generalize rp[j] = sp at *
              generalize rq[j] = sq at *
              generalize rx[j] = sx at *
              obtain ⟨ia, la, rfl, hia, hia1, hia2⟩ := ora.form
              obtain ⟨ip, lp, rfl, hip, hip1, hip2⟩ := orp.form
              obtain ⟨iq, lq, rfl, hiq, hiq1, hiq2⟩ := orq.form
              obtain ⟨ix, lx, rfl, hix, hix1, hix2⟩ := orx.form
              have HOA := hid ora
              have HOP := hid orp
              have HOQ := hid orq
              have HOX := hid orx
              have E2 := hid e2
              have E3 := hid e3
              have E4 := hid e4
              have E5 := hid e5
              clear ora orp orq orx e2 e3 e4 e5
              go_wp2
              clear d1 d2 d3 d4
              obtain ⟨wm, rfl⟩ : ∃ wm : World, wm = wr := ⟨_, rfl⟩
              go_loopw [24] (fun i wr => ∃ v : Nat, v ≤ sa.length ∧ i = .int .i64 v ∧ Hid (Below wm.heap.size wm wr)) (fun i _ => sa.length - (intOf i).toNat)
              case atStart => exact ⟨0, by omega, rfl, hid (Below.refl _ _)⟩
              case round =>
                obtain ⟨v, hv, rfl, HB3⟩ := hrel
                have hb3s := HB3.out.size
                have hca3 := cell_later HB3.out hca2
                have hcp3 := cell_later HB3.out hcp2
                have hcq3 := cell_later HB3.out hcq2
                have hcx3 := cell_later HB3.out hcx2
                have oca3 := cell_later HB3.out oca
                have ocp3 := cell_later HB3.out ocp
                have ocq3 := cell_later HB3.out ocq
                have ocx3 := cell_later HB3.out ocx
                have hba3 : slb xa < wr.heap.size := by omega
                have hbp3 : slb xp < wr.heap.size := by omega
                have hbq3 : slb xq < wr.heap.size := by omega
                have hbx3 : slb xx < wr.heap.size := by omega
                have oba3 : slb ja < wr.heap.size := by omega
                have obp3 : slb jp < wr.heap.size := by omega
                have obq3 : slb jq < wr.heap.size := by omega
                have obx3 : slb jx < wr.heap.size := by omega
                clear hca2 hcp2 hcq2 hcx2 oca ocp ocq ocx hba2 hbp2 hbq2 hbx2 oba obp obq obx hca hcp hcq hcx hba hbp hbq hbx
                by_cases hvl : v < sa.length
                · have hca4 := (IntsV.keep HOA.out (KeepS.below HB3.out)).cell rfl hvl
                  have hcp4 := (IntsV.keep HOP.out (KeepS.below HB3.out)).cell rfl (show v < sp.length by have := E3.out; omega)
                  have hcq4 := (IntsV.keep HOQ.out (KeepS.below HB3.out)).cell rfl (show v < sq.length by have := E4.out; omega)
                  have hcx4 := (IntsV.keep HOX.out (KeepS.below HB3.out)).cell rfl (show v < sx.length by have := E5.out; omega)
                  have hval := E2.out v hvl
                  generalize sa.getD v 0 = na at *
                  generalize sp.getD v 0 = np at *
                  generalize sq.getD v 0 = nq at *
                  generalize sx.getD v 0 = nx at *
                  have hv0 : (0 : Int) ≤ v := by omega
                  have hv1 : (v : Int) < sa.length := by omega
                  have hv2 : (v : Int) < sp.length := by have := E3.out; omega
                  have hv3 : (v : Int) < sq.length := by have := E4.out; omega
                  have hv4 : (v : Int) < sx.length := by have := E5.out; omega
                  have f2 : (j : Int) < ra.length := by omega
                  have f3 : (j : Int) < rp.length := by omega
                  have f4 : (j : Int) < rq.length := by omega
                  have hsl : ((sx.length : Int) != (sa.length : Int)) = false := bneF (by have := E5.out; omega)
                  by_cases hnn : np = na
                  · rw [if_pos hnn] at hval
                    subst hval
                    have hb : (np == na) = true := beqT hnn
                    have hb2 : (nx != nx) = false := bneF rfl
                    clear hnn
                    go_wp2
                    go_quiet (fail)
                    go_wp2
                    go_roundw
                    case rel => exact ⟨v + 1, by omega, by go_num, hid (below_drewN HB3.out _)⟩
                    case measure => simp [intOf]; omega
                  · rw [if_neg hnn] at hval
                    subst hval
                    have hb : (nx == na) = false := beqF hnn
                    have hb2 : (nx != nx) = false := bneF rfl
                    clear hnn
                    go_wp2
                    go_quiet (fail)
                    go_wp2
                    go_roundw
                    case rel => exact ⟨v + 1, by omega, by go_num, hid (below_drewN HB3.out _)⟩
                    case measure => simp [intOf]; omega
                · obtain rfl : v = sa.length := by omega
                  go_wp2
                  go_roundw
                  case rel => exact ⟨j + 1, by omega, by go_num, hid (HB2.out.trans (HB3.out.mono HB2.out.size))⟩
                  case measure => simp [intOf]; omega
            · clear M2 M3 M4 M5 hcx hbx
              have hfour : ¬ j < rp.length ∨ (j < rp.length ∧ ¬ j < ra.length) ∨ (j < rp.length ∧ j < ra.length ∧ ¬ j < rq.length) := by omega
              rcases hfour with h1 | ⟨h1, h2⟩ | ⟨h1, h2, h4⟩
              · have d1 : decide ((j : Int) < rp.length) = false := decide_eq_false (by omega)
                go_wp2
                go_roundw
                case rel => exact ⟨q + 1, by omega, by go_num, HBX⟩
                case measure => simp [intOf]; omega
              · have d1 : decide ((j : Int) < rp.length) = true := decide_eq_true (by omega)
                have d2 : decide ((j : Int) < ra.length) = false := decide_eq_false (by omega)
                go_wp2
                go_roundw
                case rel => exact ⟨q + 1, by omega, by go_num, HBX⟩
                case measure => simp [intOf]; omega
              · have d1 : decide ((j : Int) < rp.length) = true := decide_eq_true (by omega)
                have d2 : decide ((j : Int) < ra.length) = true := decide_eq_true (by omega)
                have d4 : decide ((j : Int) < rq.length) = false := decide_eq_false (by omega)
                go_wp2
                go_roundw
                case rel => exact ⟨q + 1, by omega, by go_num, HBX⟩
                case measure => simp [intOf]; omega
      · obtain rfl : q = A.length := by omega
        go_wp2_with fail
        refine (lives_any wr).mono ?_
        rintro e w19 ⟨rfl, b19⟩
        have HB19 := hid (B012.out.trans ((HB.out.trans (b19.mono HB.out.size)).mono B012.out.size))
        clear b19
        go_wp2
        go_ret
        exact ⟨rfl, HB19.out⟩

end Go.Proofs.Yteepdnamkcgndaa
