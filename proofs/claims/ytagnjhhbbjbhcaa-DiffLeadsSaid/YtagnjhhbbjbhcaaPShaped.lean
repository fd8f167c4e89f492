/- shaped of the program, with ContainsFunc, IndexFunc and the closure. -/
import Derived.Test.YtagnjhhbbjbhcaaShaped
namespace Go.Proofs.Ytagnjhhbbjbhcaa
open Go.RowKit

set_option maxHeartbeats 1000000 in
/-- The closure: does a record not fit? -/
theorem bad_any (rows : List (List Int)) (r : List Int) (h0 : 0 < rows.length) (u : Value) (g : Nat) (v : Value) (S T : Nat → Prop) (w : World) (hu : IntsV S w u r) (hg : w.cell? ⟨g, 0, none⟩ = some v) (hv : RowsV T w v rows) :
    Calls Try.prog 51 #[u, .pointer (some ⟨g, 0, none⟩)] w fun e w' => e = .returned (.bool (!decide (RowOk rows r))) ∧ w = w' := by
  have hv0 := hv
  obtain ⟨ar, cr, rfl, -, -, -⟩ := hu.form
  obtain ⟨ak, ck, rfl, hokk, hcapk, hmaxk⟩ := hv.form
  clear hv hu
  obtain ⟨u0, hc0, hb0, hr0⟩ := hv0.at h0
  have HH := hid (headD_eq ([] : List Int) h0)
  have HR : Hid (decide (RowOk rows r) = (decide (1 ≤ r.length) && (decide (r.length ≤ 10) && decide (r.length = (rows.headD []).length)))) := hid (by unfold RowOk; simp)
  rw [HH.out] at HR
  rw [Nat.add_zero] at hc0
  generalize rows[0] = r0 at *
  obtain ⟨a0, c0, rfl, -, -, -⟩ := hr0.form
  clear hr0 HH
  by_cases h3 : r.length = r0.length
  · have d3 : ((r.length : Int) != (r0.length : Int)) = false := bneF (by omega)
    by_cases h1 : r.length < 1
    · have d1 : decide ((r.length : Int) < 1) = true := decide_eq_true (by omega)
      have HF : Hid ((!decide (RowOk rows r)) = true) := hid (by rw [HR.out, decide_eq_false (show ¬ 1 ≤ r.length by omega)]; rfl)
      clear h1 h3 HR
      go_enter Try.func51, Try.ntmps51
      go_wp2
      go_ret
      exact ⟨ret_bool HF.out.symm, rfl⟩
    · have d1 : decide ((r.length : Int) < 1) = false := decide_eq_false (by omega)
      by_cases h2 : 10 < r.length
      · have d2 : decide ((10 : Int) < r.length) = true := decide_eq_true (by omega)
        have HF : Hid ((!decide (RowOk rows r)) = true) := hid (by rw [HR.out, decide_eq_false (show ¬ r.length ≤ 10 by omega)]; simp)
        clear h1 h3 HR
        go_enter Try.func51, Try.ntmps51
        go_wp2
        go_ret
        exact ⟨ret_bool HF.out.symm, rfl⟩
      · have d2 : decide ((10 : Int) < r.length) = false := decide_eq_false (by omega)
        have HF : Hid ((!decide (RowOk rows r)) = false) := hid (by rw [HR.out, decide_eq_true (show r.length ≤ 10 by omega), decide_eq_true (show 1 ≤ r.length by omega), decide_eq_true h3]; rfl)
        clear h1 h3 HR
        go_enter Try.func51, Try.ntmps51
        go_wp2
        go_ret
        exact ⟨ret_bool HF.out.symm, rfl⟩
  · have d3 : ((r.length : Int) != (r0.length : Int)) = true := bneT (by omega)
    have HF : Hid ((!decide (RowOk rows r)) = true) := hid (by rw [HR.out, decide_eq_false h3]; simp)
    clear h3 HR
    go_enter Try.func51, Try.ntmps51
    go_wp2
    go_ret
    exact ⟨ret_bool HF.out.symm, rfl⟩

def allOk (rows : List (List Int)) : Prop := ∀ r ∈ rows, RowOk rows r
instance (rows : List (List Int)) : Decidable (allOk rows) := by unfold allOk; exact inferInstance

set_option maxHeartbeats 1000000 in
theorem indexF_any (rows : List (List Int)) (g : Nat) (v : Value) (T : Nat → Prop) (w : World) (hg : w.cell? ⟨g, 0, none⟩ = some v) (hv : RowsV T w v rows) :
    Calls Try.prog 60 #[v, .func (.func 51) #[] #[.pointer (some ⟨g, 0, none⟩)]] w fun e w' => ∃ i : Int, e = .returned (.int .i64 i) ∧ decide (0 ≤ i) = (!decide (allOk rows)) ∧ w = w' := by
  have hv0 := hv
  obtain ⟨ak, ck, rfl, hokk, hcapk, hmaxk⟩ := hv.form
  clear hv
  go_enter Try.func60, Try.ntmps60
  go_wp2
  go_loopw [8] (fun i wr => ∃ k : Nat, k ≤ rows.length ∧ i = .int .i64 k ∧ Hid (∀ r ∈ rows.take k, RowOk rows r) ∧ w = wr) (fun i _ => rows.length - (intOf i).toNat)
  case atStart => exact ⟨0, Nat.zero_le _, rfl, hid (by simp), rfl⟩
  case round =>
    obtain ⟨k, hk, rfl, hall, rfl⟩ := hrel
    by_cases hlt : k < rows.length
    · obtain ⟨ur, hcr, hbr, hrr⟩ := hv0.at hlt
      have HS := hid (bad_any rows rows[k] (by omega) ur g _ T T w hrr hg hv0)
      have HA : Hid (RowOk rows rows[k] → ∀ r ∈ rows.take (k + 1), RowOk rows r) := hid (fun p => forall_take_succ hlt hall.out p)
      have HN : Hid (¬ RowOk rows rows[k] → ¬ allOk rows) := hid (fun p q => p (q _ (List.getElem_mem hlt)))
      generalize rows[k] = r at *
      obtain ⟨ar, cr, rfl, -, -, -⟩ := hrr.form
      clear hrr
      by_cases hok : RowOk rows r
      · have HD := hid (decide_eq_true hok)
        have HT := hid (HA.out hok)
        clear hok HA HN
        go_wp2_with fail
        refine HS.out.mono ?_
        rintro e w' ⟨rfl, rfl⟩
        rw [HD.out]
        go_wp2
        go_roundw
        case rel => exact ⟨k + 1, by omega, by go_num, HT, trivial⟩
        case measure => simp [intOf]; omega
      · have HD := hid (decide_eq_false hok)
        have HT := hid (HN.out hok)
        clear hok HA HN
        go_wp2_with fail
        refine HS.out.mono ?_
        rintro e w' ⟨rfl, rfl⟩
        rw [HD.out]
        go_wp2
        go_ret
        exact ⟨(k : Int), rfl, by rw [decide_eq_true (by omega), decide_eq_false HT.out]; rfl, rfl⟩
    · obtain rfl : k = rows.length := by omega
      have HT : Hid (allOk rows) := hid (by have := hall.out; rw [List.take_length] at this; exact this)
      go_wp2
      go_ret
      exact ⟨-1, rfl, by rw [decide_eq_false (by omega), decide_eq_true HT.out]; rfl, rfl⟩

set_option maxHeartbeats 1000000 in
theorem containsF_any (rows : List (List Int)) (g : Nat) (v : Value) (T : Nat → Prop) (w : World) (hg : w.cell? ⟨g, 0, none⟩ = some v) (hv : RowsV T w v rows) :
    Calls Try.prog 50 #[v, .func (.func 51) #[] #[.pointer (some ⟨g, 0, none⟩)]] w fun e w' => e = .returned (.bool (!decide (allOk rows))) ∧ w = w' := by
  have HS := hid (indexF_any rows g v T w hg hv)
  go_enter Try.func50, Try.ntmps50
  go_wp2_with fail
  refine HS.out.mono ?_
  rintro e w' ⟨i, rfl, hi, rfl⟩
  have HI := hid hi
  clear hi
  go_wp2
  go_ret
  exact ⟨ret_bool HI.out, rfl⟩

set_option maxHeartbeats 1000000 in
theorem shapedP_any (W : List (List (List Int))) (hW : Small W) (u : Value) (T : Nat → Prop) (w : World) (hu : WorldV T w u W) :
    Calls Try.prog 33 #[u] w fun e w' => e = .returned (.bool (decide (ShapedW W))) ∧ Below w.heap.size w w' := by
  have hu0 := hu
  obtain ⟨a, cap, rfl, hok, hcap, hmax⟩ := hu.form
  clear hu
  have hn := hW.1
  go_enter Try.func33, Try.ntmps33
  go_wp2
  go_loopw [3, 8] (fun c i wr => ∃ k t : Nat, k ≤ W.length ∧ i = .int .i64 k ∧ c = .int .i64 t ∧ t ≤ 100000 * k ∧ Hid (t = total (W.take k)) ∧ Hid (∀ rows ∈ W.take k, allOk rows) ∧ Below w.heap.size w wr) (fun _ i _ => W.length - (intOf i).toNat)
  case atStart => exact ⟨0, 0, by omega, rfl, rfl, by omega, hid (by simp [total]), hid (by simp), Below.refl _ _⟩
  case round =>
    obtain ⟨k, t, hk, rfl, rfl, htk, ht, hall, hb⟩ := hrel
    by_cases hlt : k < W.length
    · have hu1 : WorldV T wr (.slice a W.length cap) W := hu0.keep (KeepS.below hb)
      obtain ⟨uk, hck, hbk, hrk⟩ := hu1.at hlt
      have hWk := hW.2 _ (List.getElem_mem hlt)
      have HT := hid (total_succ hlt)
      have HA : Hid (allOk W[k] → ∀ rows ∈ W.take (k + 1), allOk rows) := hid (fun p => forall_take_succ hlt hall.out p)
      have HN : Hid (¬ allOk W[k] → ¬ ShapedW W) := hid (fun p q => p (q.1 _ (List.getElem_mem hlt)))
      generalize W[k] = rows at *
      have hrows := hWk.1
      have ha1 : ∀ o, Below wr.heap.size wr (wr.alloc o) := fun o => (Below.refl _ _).alloc (Nat.le_refl _) o
      have HS : ∀ ty, Hid (Calls Try.prog 50 #[uk, .func (.func 51) #[] #[.pointer (some ⟨wr.heap.size, 0, none⟩)]] (wr.alloc (.cells #[uk] ty)) fun e w' => e = .returned (.bool (!decide (allOk rows))) ∧ wr.alloc (.cells #[uk] ty) = w') := fun ty =>
        hid (containsF_any rows wr.heap.size uk T _ (by simp) (RowsV.keep hrk (KeepS.below (ha1 _))))
      obtain ⟨ak, ck, rfl, hokk, hcapk, hmaxk⟩ := hrk.form
      clear hrk
      by_cases hok1 : allOk rows
      · have HD := hid (decide_eq_true hok1)
        have HT2 := hid (HA.out hok1)
        have HT3 : Hid (t + rows.length = total (W.take (k + 1))) := hid (by rw [HT.out, ht.out])
        clear HA HN hok1
        go_wp2_with fail
        refine (HS _).out.mono ?_
        rintro e w' ⟨rfl, rfl⟩
        rw [HD.out]
        have hb2 := hb.trans ((ha1 (.cells #[.slice ak rows.length ck] 63)).mono hb.size)
        clear ha1 hck HS
        go_wp2
        go_roundw
        case rel => exact ⟨k + 1, t + rows.length, by omega, by go_num, by go_num, by omega, HT3, HT2, hb2⟩
        case measure => simp [intOf]; omega
      · have HD := hid (decide_eq_false hok1)
        have HF := hid (HN.out hok1)
        clear HA HN hok1
        go_wp2_with fail
        refine (HS _).out.mono ?_
        rintro e w' ⟨rfl, rfl⟩
        rw [HD.out]
        have hb2 := hb.trans ((ha1 (.cells #[.slice ak rows.length ck] 63)).mono hb.size)
        clear ha1 hck HS
        go_wp2
        go_ret
        exact ⟨ret_bool (decide_eq_false HF.out).symm, hb2⟩
    · obtain rfl : k = W.length := by omega
      have hall1 := hall.out
      have ht1 := ht.out
      rw [List.take_length] at hall1 ht1
      have HF : Hid (decide (ShapedW W) = (decide ((W.length : Int) ≤ 6) && decide ((t : Int) ≤ 512))) := hid (by
        rw [← Bool.decide_and]
        refine decide_eq_decide.2 ⟨fun q => ⟨by have := q.2.1; omega, by have := q.2.2; omega⟩, fun q => ⟨hall1, by have := q.1; omega, by have := q.2; omega⟩⟩)
      clear hall ht hall1 ht1
      by_cases h1 : (W.length : Int) ≤ 6
      · go_wp2
        go_ret
        exact ⟨ret_bool (by rw [HF.out, decide_eq_true h1]; rfl), hb⟩
      · go_wp2
        go_ret
        exact ⟨ret_bool (by rw [HF.out, decide_eq_false (by omega)]; rfl), hb⟩

end Go.Proofs.Ytagnjhhbbjbhcaa
