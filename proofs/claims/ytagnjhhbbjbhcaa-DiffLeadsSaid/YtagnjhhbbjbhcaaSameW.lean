/- SameWorld: two worlds are compared. -/
import Derived.Test.YtagnjhhbbjbhcaaSameAll
namespace Go.Proofs.Ytagnjhhbbjbhcaa
open Go.RowKit

theorem ex_drewN {w : World} {a b : Nat} : ∃ n, (w.drewN a).drewN b = w.drewN n := ⟨a + b, World.drewN_drewN _ _ _⟩

set_option maxHeartbeats 1000000 in
theorem sameWorld_any (V W : List (List (List Int))) (u v : Value) (S T : Nat → Prop) (w : World) (hu : WorldV S w u V) (hv : WorldV T w v W) :
    Calls Try.prog 19 #[u, v] w fun e w' => e = .returned (.bool (decide (V = W))) ∧ Below w.heap.size w w' := by
  have hu0 := hu
  have hv0 := hv
  obtain ⟨a, cap, rfl, hok, hcap, hmax⟩ := hu.form
  obtain ⟨a', cap', rfl, hok', hcap', hmax'⟩ := hv.form
  clear hu hv
  by_cases hl : V.length = W.length
  · have hl2 : ((V.length : Int) != (W.length : Int)) = false := by simp [hl]
    have hl3 : V.length ≤ W.length := by omega
    have HL := hid hl
    clear hl
    go_enter Try.func19, Try.ntmps19
    go_wp2
    go_loopw [5] (fun i wr => ∃ k : Nat, k ≤ V.length ∧ i = .int .i64 k ∧ Hid (V.take k = W.take k) ∧ Below w.heap.size w wr) (fun i _ => V.length - (intOf i).toNat)
    case atStart => exact ⟨0, Nat.zero_le _, rfl, hid rfl, Below.refl _ _⟩
    case round =>
      obtain ⟨k, hk, rfl, hpre, hb⟩ := hrel
      by_cases hlt : k < V.length
      · have hlt' : k < W.length := by omega
        have hu1 : WorldV S wr (.slice a V.length cap) V := hu0.keep (KeepS.below hb)
        have hv1 : WorldV T wr (.slice a' W.length cap') W := hv0.keep (KeepS.below hb)
        obtain ⟨uk, hck, hbk, hrk⟩ := hu1.at hlt
        obtain ⟨vk, hdk, hbk', hsk⟩ := hv1.at hlt'
        have HE : Hid (V[k] = W[k] → V.take (k + 1) = W.take (k + 1)) := hid (take_eq_succ' hlt hlt' hpre.out)
        have HN : Hid (V[k] ≠ W[k] → ¬ V = W) := hid (fun h e => h (by subst e; rfl))
        generalize V[k] = rows at *
        generalize W[k] = sows at *
        have hrk0 := hrk
        have hsk0 := hsk
        obtain ⟨ak, ck, rfl, hokk, hcapk, hmaxk⟩ := hrk.form
        obtain ⟨bk, dk, rfl, hokk', hcapk', hmaxk'⟩ := hsk.form
        clear hrk hsk
        have hk0 : (0 : Int) ≤ k := by omega
        have hk1 : (k : Int) < V.length := by omega
        have hk2 : (k : Int) < W.length := by omega
        by_cases hr : rows.length = sows.length
        · have g1 : ((rows.length : Int) != (sows.length : Int)) = false := bneF (by omega)
          have hr3 : rows.length ≤ sows.length := by omega
          have HR := hid hr
          clear hr
          obtain ⟨wo, rfl⟩ : ∃ wo : World, wo = wr := ⟨_, rfl⟩
          go_wp2
          go_quiet (fail)
          go_wp2
          go_loopw [6] (fun i wr => ∃ j : Nat, j ≤ rows.length ∧ i = .int .i64 j ∧ Hid (rows.take j = sows.take j) ∧ Below wo.heap.size wo wr) (fun i _ => rows.length - (intOf i).toNat)
          case atStart => exact ⟨0, Nat.zero_le _, rfl, hid rfl, below_drewN (Below.refl _ _) _⟩
          case round =>
            obtain ⟨j, hj, rfl, hpre2, hb2⟩ := hrel
            have hu2 : RowsV S wr (.slice ak rows.length ck) rows := hrk0.keep (KeepS.below hb2)
            have hv2 : RowsV T wr (.slice bk sows.length dk) sows := hsk0.keep (KeepS.below hb2)
            have hck2 := cell_later hb2 hck
            have hdk2 := cell_later hb2 hdk
            by_cases hjr : j < rows.length
            · have hjr' : j < sows.length := by omega
              obtain ⟨ur, hcr, hbr, hrr⟩ := hu2.at hjr
              obtain ⟨vr, hdr, hbr', hsr⟩ := hv2.at hjr'
              have HE2 : Hid (rows[j] = sows[j] → rows.take (j + 1) = sows.take (j + 1)) := hid (take_eq_succ' hjr hjr' hpre2.out)
              have HN2 : Hid (rows[j] ≠ sows[j] → ¬ rows = sows) := hid (fun h e => h (by subst e; rfl))
              generalize rows[j] = r at *
              generalize sows[j] = s at *
              have hrr0 := hrr
              have hsr0 := hsr
              obtain ⟨ar, cr, rfl, -, -, -⟩ := hrr.form
              obtain ⟨br, dr, rfl, -, -, -⟩ := hsr.form
              clear hrr hsr
              have hj0 : (0 : Int) ≤ j := by omega
              have hj1 : (j : Int) < rows.length := by omega
              have hj2 : (j : Int) < sows.length := by omega
              have HS : ∀ nq, Hid (Calls Try.prog 29 #[.slice ar r.length cr, .slice br s.length dr] (wr.drewN nq) fun e w'' => e = .returned (.bool (decide (r = s))) ∧ ∃ m, w'' = wr.drewN m) := fun nq =>
                hid (Calls.quiet_of (sameInts_any r s _ _ S T (wr.drewN nq) (IntsV.keep hrr0 (KeepS.below (below_drewN (Below.refl _ _) _))) (IntsV.keep hsr0 (KeepS.below (below_drewN (Below.refl _ _) _)))))
              by_cases hrs : r = s
              · have HT := hid (HE2.out hrs)
                have HD := hid (decide_eq_true hrs)
                rw [HD.out] at HS
                clear HE2 HN2 hrr0 hsr0 hrs HD
                go_wp2
                go_quiet (exact (HS _).out)
                go_wp2
                go_roundw
                case rel => exact ⟨j + 1, by omega, by go_num, HT, below_drewN hb2 _⟩
                case measure => simp [intOf]; omega
              · have HT := hid (HN.out (HN2.out hrs))
                have HD := hid (decide_eq_false hrs)
                rw [HD.out] at HS
                clear HE2 HN2 hrr0 hsr0 hrs HD
                go_wp2
                go_quiet (exact (HS _).out)
                go_wp2
                go_ret
                exact ⟨ret_bool (decide_eq_false HT.out).symm, below_drewN (hb.trans (hb2.mono hb.size)) _⟩
            · have HT := hid (HE.out (same_prefix' HR.out (by omega) hpre2.out))
              clear HE HN
              go_wp2
              go_roundw
              case rel => exact ⟨k + 1, by omega, by go_num, HT, hb.trans (hb2.mono hb.size)⟩
              case measure => simp [intOf]; omega
        · have g1 : ((rows.length : Int) != (sows.length : Int)) = true := bneT (by omega)
          have HT := hid (HN.out (fun e => hr (by rw [e])))
          clear HE HN hr
          go_wp2
          go_quiet (fail)
          go_wp2
          go_ret
          exact ⟨ret_bool (decide_eq_false HT.out).symm, below_drewN hb _⟩
      · have HT := hid (same_prefix' HL.out (by omega) hpre.out)
        go_wp2
        go_ret
        exact ⟨ret_bool (decide_eq_true HT.out).symm, hb⟩
  · have hl2 : ((V.length : Int) != (W.length : Int)) = true := bneT (by omega)
    have HD := hid (decide_eq_false (p := V = W) (fun e => hl (by rw [e])))
    clear hl
    go_enter Try.func19, Try.ntmps19
    go_wp2
    go_ret
    exact ⟨ret_bool HD.out.symm, Below.refl _ _⟩

end Go.Proofs.Ytagnjhhbbjbhcaa
