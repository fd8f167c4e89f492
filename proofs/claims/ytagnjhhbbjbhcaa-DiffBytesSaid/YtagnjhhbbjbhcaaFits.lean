/- Fits of the reference: the error of a change. -/
import Derived.Test.YtagnjhhbbjbhcaaA13
namespace Go.Proofs.Ytagnjhhbbjbhcaa
open Go.RowKit

set_option maxHeartbeats 1000000 in
theorem rformed_any (c : Chg) (a : Option Addr) (cap : Nat) (w : World) :
    Calls Try.prog 57 #[c.val (.slice a c.values.length cap)] w fun e w' => e = .returned (.bool (decide (FormedC c))) ∧ Below w.heap.size w w' := by
  obtain ⟨k, i, f, o, n, xs⟩ := c
  simp only [Chg.val]
  have hA : Below w.heap.size w (w.alloc (.cells #[.int .i64 k, .int .i64 i, .int .i64 f, .int .i64 o, .int .i64 n, .slice a xs.length cap] 73)) := (Below.refl _ _).alloc (Nat.le_refl _) _
  have HA := hid hA
  clear hA
  by_cases h0 : 0 ≤ f
  · have HR : Hid (decide (FormedC ⟨k, i, f, o, n, xs⟩) = decide (xs.length = 0)) := hid (by unfold FormedC; simp only [if_pos h0])
    go_enter Try.func57, Try.ntmps57
    go_wp2
    go_ret
    exact ⟨ret_bool (HR.out.trans (by by_cases h : xs.length = 0 <;> simp [h])).symm, HA.out⟩
  · have hlt : f < 0 := by omega
    have HR : Hid (decide (FormedC ⟨k, i, f, o, n, xs⟩) = decide (-2 ≤ f ∧ o = 0 ∧ n = 0 ∧ 1 ≤ xs.length ∧ xs.length ≤ 10)) := hid (by unfold FormedC; simp only [if_neg h0])
    by_cases h1 : -2 ≤ f
    · by_cases h2 : o = 0
      · by_cases h3 : n = 0
        · by_cases h4 : 1 ≤ xs.length
          · by_cases h5 : xs.length ≤ 10
            · have HE := hid (decide_eq_true (show -2 ≤ f ∧ o = 0 ∧ n = 0 ∧ 1 ≤ xs.length ∧ xs.length ≤ 10 from ⟨h1, h2, h3, h4, h5⟩))
              subst h2 h3
              go_enter Try.func57, Try.ntmps57
              go_wp2
              go_ret
              exact ⟨ret_bool ((HR.out.trans HE.out).trans (by simp; omega)).symm, HA.out⟩
            · have HE := hid (decide_eq_false (show ¬ (-2 ≤ f ∧ o = 0 ∧ n = 0 ∧ 1 ≤ xs.length ∧ xs.length ≤ 10) from fun h => h5 h.2.2.2.2))
              subst h2 h3
              go_enter Try.func57, Try.ntmps57
              go_wp2
              go_ret
              exact ⟨ret_bool ((HR.out.trans HE.out).trans (by simp; omega)).symm, HA.out⟩
          · have HE := hid (decide_eq_false (show ¬ (-2 ≤ f ∧ o = 0 ∧ n = 0 ∧ 1 ≤ xs.length ∧ xs.length ≤ 10) from fun h => h4 h.2.2.2.1))
            subst h2 h3
            have h6 : ¬ (1 : Int) ≤ xs.length := by omega
            go_enter Try.func57, Try.ntmps57
            go_wp2
            go_ret
            exact ⟨ret_bool (HR.out.trans HE.out).symm, HA.out⟩
        · have HE := hid (decide_eq_false (show ¬ (-2 ≤ f ∧ o = 0 ∧ n = 0 ∧ 1 ≤ xs.length ∧ xs.length ≤ 10) from fun h => h3 h.2.2.1))
          subst h2
          have h6 : (n == 0) = false := beqF h3
          go_enter Try.func57, Try.ntmps57
          go_wp2
          go_ret
          exact ⟨ret_bool (HR.out.trans HE.out).symm, HA.out⟩
      · have HE := hid (decide_eq_false (show ¬ (-2 ≤ f ∧ o = 0 ∧ n = 0 ∧ 1 ≤ xs.length ∧ xs.length ≤ 10) from fun h => h2 h.2.1))
        have h6 : (o == 0) = false := beqF h2
        go_enter Try.func57, Try.ntmps57
        go_wp2
        go_ret
        exact ⟨ret_bool (HR.out.trans HE.out).symm, HA.out⟩
    · have HE := hid (decide_eq_false (show ¬ (-2 ≤ f ∧ o = 0 ∧ n = 0 ∧ 1 ≤ xs.length ∧ xs.length ≤ 10) from fun h => h1 h.1))
      go_enter Try.func57, Try.ntmps57
      go_wp2
      go_ret
      exact ⟨ret_bool (HR.out.trans HE.out).symm, HA.out⟩


/-- The error of a change at the records of its kind. -/
def fitsG (rows : List (List Int)) (i f o : Int) (xs : List Int) : Int :=
  if f < 0 ∧ 0 < rows.length ∧ xs.length ≠ (rows.headD []).length then 2
  else if f = -1 then (if i ≠ rows.length then 5 else 0)
  else if f = -2 then (if rows.length = 0 ∨ i ≠ rows.length - 1 then 5 else if rows.getD i.toNat [] ≠ xs then 16 else 0)
  else if i < 0 ∨ (rows.length : Int) ≤ i ∨ ((rows.headD []).length : Int) ≤ f then 5
  else if (rows.getD i.toNat []).getD f.toNat 0 ≠ o then 16 else 0

set_option maxRecDepth 100000 in
set_option maxHeartbeats 4000000 in
theorem rfits_add (n kn : Nat) (_hn : n ≤ 6) (hk : kn < n) (rows : List (List Int)) (_hrl : rows.length ≤ 100000) (_hev : ∀ r ∈ rows, 1 ≤ r.length ∧ r.length ≤ 10 ∧ r.length = (rows.headD []).length)
    (w : World) (S T' : Nat → Prop) (aa ak : Option Addr) (ca ck : Nat) (hoka : Slok aa n) (_hcapa : n ≤ ca) (_hmaxa : ca ≤ 9223372036854775807) (hck : w.cell? ⟨slb aa, slo aa + kn, none⟩ = some (.slice ak rows.length ck)) (hbk : slb aa < w.heap.size)
    (hr : RowsV S w (.slice ak rows.length ck) rows) (xs : List Int) (_hxl : xs.length ≤ 100000) (ad : Option Addr) (cap : Nat) (hu : IntsV T' w (.slice ad xs.length cap) xs)
    (i o nw : Int) (hfm : FormedC ⟨kn, i, -1, o, nw, xs⟩) :
    Calls Try.prog 42 #[.slice aa n ca, .agg #[.int .i64 kn, .int .i64 i, .int .i64 (-1), .int .i64 o, .int .i64 nw, .slice ad xs.length cap]] w fun e w' => e = .returned (.int .i64 (fitsG rows i (-1) o xs)) ∧ Below w.heap.size w w' := by
  obtain ⟨_, _, ea, hokk, hcapk, hmaxk⟩ := hr.form
  cases ea
  obtain ⟨_, _, ex, hokx, hcapx, hmaxx⟩ := hu.form
  cases ex
  have hF := rformed_any ⟨kn, i, -1, o, nw, xs⟩ ad cap
  rw [decide_eq_true hfm] at hF
  have HF := hid hF
  clear hF hfm
  simp only [Chg.val] at HF
  have hki : (kn : Int) < n := by omega
  have hk0 : (0 : Int) ≤ (kn : Int) := by omega
  by_cases hx : 0 < rows.length ∧ xs.length ≠ (rows.headD []).length
  · obtain ⟨hm, hx⟩ := hx
    have HZ : Hid (fitsG rows i (-1) o xs = 2) := hid (by unfold fitsG; rw [if_pos ⟨by decide, hm, hx⟩])
    obtain ⟨a0, c0, hc0, hb0, -, hmc0, hmax0, -⟩ := row_at hr hm
    rw [headD_eq [] hm] at hx
    simp only [Nat.add_zero] at hc0
    rw [HZ.out]
    have d3 : ((xs.length : Int) != (rows[0].length : Int)) = true := bneT (by omega)
    have hm' : (0 : Int) < rows.length := by omega
    clear HZ hr _hev hu hx
    generalize rows[0].length = m0 at *
    generalize rows.length = m at *
    go_enter Try.func42, Try.ntmps42
    go_wp2_with fail
    refine (HF.out _).mono ?_
    rintro e w2 ⟨rfl, hb2⟩
    have hb02 : Below w.heap.size w w2 := ((Below.refl _ _).alloc (Nat.le_refl _) _).trans (hb2.mono (by simp))
    have hbx := (hb2.block w.heap.size (by simp)).trans (World.alloc_heap_new _ _)
    have hsz := hb02.size
    have hszx := (Array.getElem?_eq_some_iff.1 hbx).1
    have b0 : w2.cell? ⟨w.heap.size, 0, none⟩ = some (.int .i64 kn) := by simp [World.cell?, hbx]
    have b1 : w2.cell? ⟨w.heap.size, 1, none⟩ = some (.int .i64 i) := by simp [World.cell?, hbx]
    have b2 : w2.cell? ⟨w.heap.size, 2, none⟩ = some (.int .i64 (-1)) := by simp [World.cell?, hbx]
    have b3 : w2.cell? ⟨w.heap.size, 3, none⟩ = some (.int .i64 o) := by simp [World.cell?, hbx]
    have b4 : w2.cell? ⟨w.heap.size, 4, none⟩ = some (.int .i64 nw) := by simp [World.cell?, hbx]
    have b5 : w2.cell? ⟨w.heap.size, 5, none⟩ = some (.slice ad xs.length cap) := by simp [World.cell?, hbx]
    have hck2 := cell_later hb02 hck
    have hbk2 : slb aa < w2.heap.size := by omega
    have hc02 := cell_later hb02 hc0
    have hb0w : slb ak < w2.heap.size := by omega
    clear hbx hb2 HF
    clear hck
    go_wp2
    go_quiet (fail)
    go_wp2
    go_ret
    exact ⟨rfl, by first | assumption | exact below_drewN hb02 _⟩
  · have hmis : ¬ ((-1 : Int) < 0 ∧ 0 < rows.length ∧ xs.length ≠ (rows.headD []).length) := fun h => hx h.2
    by_cases hm : 0 < rows.length
    · have hx0 : xs.length = rows[0].length := by rw [← headD_eq [] hm]; omega
      clear hx
      by_cases hi : i = rows.length
      · subst hi
        have HZ : Hid (fitsG rows (rows.length : Int) (-1) o xs = 0) := hid (by unfold fitsG; rw [if_neg (fun h => hmis h), if_pos rfl, if_neg (fun h => h rfl)])
        rw [HZ.out]
        obtain ⟨a0, c0, hc0, hb0, -, hmc0, hmax0, -⟩ := row_at hr hm
        simp only [Nat.add_zero] at hc0
        have d3 : ((xs.length : Int) != (rows[0].length : Int)) = false := bneF (by omega)
        have hm' : (0 : Int) < rows.length := by omega
        clear hx0
        have d4 : ((rows.length : Int) != (rows.length : Int)) = false := bneF rfl
        clear HZ hr _hev hu hmis
        generalize rows[0].length = m0 at *
        generalize rows.length = m at *
        go_enter Try.func42, Try.ntmps42
        go_wp2_with fail
        refine (HF.out _).mono ?_
        rintro e w2 ⟨rfl, hb2⟩
        have hb02 : Below w.heap.size w w2 := ((Below.refl _ _).alloc (Nat.le_refl _) _).trans (hb2.mono (by simp))
        have hbx := (hb2.block w.heap.size (by simp)).trans (World.alloc_heap_new _ _)
        have hsz := hb02.size
        have hszx := (Array.getElem?_eq_some_iff.1 hbx).1
        have b0 : w2.cell? ⟨w.heap.size, 0, none⟩ = some (.int .i64 kn) := by simp [World.cell?, hbx]
        have b1 : w2.cell? ⟨w.heap.size, 1, none⟩ = some (.int .i64 m) := by simp [World.cell?, hbx]
        have b2 : w2.cell? ⟨w.heap.size, 2, none⟩ = some (.int .i64 (-1)) := by simp [World.cell?, hbx]
        have b3 : w2.cell? ⟨w.heap.size, 3, none⟩ = some (.int .i64 o) := by simp [World.cell?, hbx]
        have b4 : w2.cell? ⟨w.heap.size, 4, none⟩ = some (.int .i64 nw) := by simp [World.cell?, hbx]
        have b5 : w2.cell? ⟨w.heap.size, 5, none⟩ = some (.slice ad xs.length cap) := by simp [World.cell?, hbx]
        have hck2 := cell_later hb02 hck
        have hbk2 : slb aa < w2.heap.size := by omega
        have hc02 := cell_later hb02 hc0
        have hb0w : slb ak < w2.heap.size := by omega
        clear hbx hb2 HF
        clear hck
        go_wp2
        go_quiet (fail)
        go_wp2
        go_ret
        exact ⟨rfl, by first | assumption | exact below_drewN hb02 _⟩
      · have HZ : Hid (fitsG rows i (-1) o xs = 5) := hid (by unfold fitsG; rw [if_neg (fun h => hmis h), if_pos rfl, if_pos hi])
        rw [HZ.out]
        obtain ⟨a0, c0, hc0, hb0, -, hmc0, hmax0, -⟩ := row_at hr hm
        simp only [Nat.add_zero] at hc0
        have d3 : ((xs.length : Int) != (rows[0].length : Int)) = false := bneF (by omega)
        have hm' : (0 : Int) < rows.length := by omega
        clear hx0
        have d4 : (i != (rows.length : Int)) = true := bneT hi
        clear HZ hr _hev hu hmis hi
        generalize rows[0].length = m0 at *
        generalize rows.length = m at *
        go_enter Try.func42, Try.ntmps42
        go_wp2_with fail
        refine (HF.out _).mono ?_
        rintro e w2 ⟨rfl, hb2⟩
        have hb02 : Below w.heap.size w w2 := ((Below.refl _ _).alloc (Nat.le_refl _) _).trans (hb2.mono (by simp))
        have hbx := (hb2.block w.heap.size (by simp)).trans (World.alloc_heap_new _ _)
        have hsz := hb02.size
        have hszx := (Array.getElem?_eq_some_iff.1 hbx).1
        have b0 : w2.cell? ⟨w.heap.size, 0, none⟩ = some (.int .i64 kn) := by simp [World.cell?, hbx]
        have b1 : w2.cell? ⟨w.heap.size, 1, none⟩ = some (.int .i64 i) := by simp [World.cell?, hbx]
        have b2 : w2.cell? ⟨w.heap.size, 2, none⟩ = some (.int .i64 (-1)) := by simp [World.cell?, hbx]
        have b3 : w2.cell? ⟨w.heap.size, 3, none⟩ = some (.int .i64 o) := by simp [World.cell?, hbx]
        have b4 : w2.cell? ⟨w.heap.size, 4, none⟩ = some (.int .i64 nw) := by simp [World.cell?, hbx]
        have b5 : w2.cell? ⟨w.heap.size, 5, none⟩ = some (.slice ad xs.length cap) := by simp [World.cell?, hbx]
        have hck2 := cell_later hb02 hck
        have hbk2 : slb aa < w2.heap.size := by omega
        have hc02 := cell_later hb02 hc0
        have hb0w : slb ak < w2.heap.size := by omega
        clear hbx hb2 HF
        clear hck
        go_wp2
        go_quiet (fail)
        go_wp2
        go_ret
        exact ⟨rfl, by first | assumption | exact below_drewN hb02 _⟩
    · have hm1 : rows.length = 0 := by omega
      clear hx
      by_cases hi : i = rows.length
      · subst hi
        have HZ : Hid (fitsG rows (rows.length : Int) (-1) o xs = 0) := hid (by unfold fitsG; rw [if_neg (fun h => hmis h), if_pos rfl, if_neg (fun h => h rfl)])
        rw [HZ.out]
        have hm0 : decide ((0 : Int) < (rows.length : Int)) = false := decide_eq_false (by omega)
        have hm00 : decide (0 < rows.length) = false := decide_eq_false (by omega)
        clear hm1 hm
        have d4 : ((rows.length : Int) != (rows.length : Int)) = false := bneF rfl
        clear HZ hr _hev hu hmis
        generalize rows.length = m at *
        go_enter Try.func42, Try.ntmps42
        go_wp2_with fail
        refine (HF.out _).mono ?_
        rintro e w2 ⟨rfl, hb2⟩
        have hb02 : Below w.heap.size w w2 := ((Below.refl _ _).alloc (Nat.le_refl _) _).trans (hb2.mono (by simp))
        have hbx := (hb2.block w.heap.size (by simp)).trans (World.alloc_heap_new _ _)
        have hsz := hb02.size
        have hszx := (Array.getElem?_eq_some_iff.1 hbx).1
        have b0 : w2.cell? ⟨w.heap.size, 0, none⟩ = some (.int .i64 kn) := by simp [World.cell?, hbx]
        have b1 : w2.cell? ⟨w.heap.size, 1, none⟩ = some (.int .i64 m) := by simp [World.cell?, hbx]
        have b2 : w2.cell? ⟨w.heap.size, 2, none⟩ = some (.int .i64 (-1)) := by simp [World.cell?, hbx]
        have b3 : w2.cell? ⟨w.heap.size, 3, none⟩ = some (.int .i64 o) := by simp [World.cell?, hbx]
        have b4 : w2.cell? ⟨w.heap.size, 4, none⟩ = some (.int .i64 nw) := by simp [World.cell?, hbx]
        have b5 : w2.cell? ⟨w.heap.size, 5, none⟩ = some (.slice ad xs.length cap) := by simp [World.cell?, hbx]
        have hck2 := cell_later hb02 hck
        have hbk2 : slb aa < w2.heap.size := by omega
        clear hbx hb2 HF
        clear hck
        go_wp2
        go_ret
        exact ⟨rfl, by first | assumption | exact below_drewN hb02 _⟩
      · have HZ : Hid (fitsG rows i (-1) o xs = 5) := hid (by unfold fitsG; rw [if_neg (fun h => hmis h), if_pos rfl, if_pos hi])
        rw [HZ.out]
        have hm0 : decide ((0 : Int) < (rows.length : Int)) = false := decide_eq_false (by omega)
        have hm00 : decide (0 < rows.length) = false := decide_eq_false (by omega)
        clear hm1 hm
        have d4 : (i != (rows.length : Int)) = true := bneT hi
        clear HZ hr _hev hu hmis hi
        generalize rows.length = m at *
        go_enter Try.func42, Try.ntmps42
        go_wp2_with fail
        refine (HF.out _).mono ?_
        rintro e w2 ⟨rfl, hb2⟩
        have hb02 : Below w.heap.size w w2 := ((Below.refl _ _).alloc (Nat.le_refl _) _).trans (hb2.mono (by simp))
        have hbx := (hb2.block w.heap.size (by simp)).trans (World.alloc_heap_new _ _)
        have hsz := hb02.size
        have hszx := (Array.getElem?_eq_some_iff.1 hbx).1
        have b0 : w2.cell? ⟨w.heap.size, 0, none⟩ = some (.int .i64 kn) := by simp [World.cell?, hbx]
        have b1 : w2.cell? ⟨w.heap.size, 1, none⟩ = some (.int .i64 i) := by simp [World.cell?, hbx]
        have b2 : w2.cell? ⟨w.heap.size, 2, none⟩ = some (.int .i64 (-1)) := by simp [World.cell?, hbx]
        have b3 : w2.cell? ⟨w.heap.size, 3, none⟩ = some (.int .i64 o) := by simp [World.cell?, hbx]
        have b4 : w2.cell? ⟨w.heap.size, 4, none⟩ = some (.int .i64 nw) := by simp [World.cell?, hbx]
        have b5 : w2.cell? ⟨w.heap.size, 5, none⟩ = some (.slice ad xs.length cap) := by simp [World.cell?, hbx]
        have hck2 := cell_later hb02 hck
        have hbk2 : slb aa < w2.heap.size := by omega
        clear hbx hb2 HF
        clear hck
        go_wp2
        go_ret
        exact ⟨rfl, by first | assumption | exact below_drewN hb02 _⟩

set_option maxRecDepth 100000 in
set_option maxHeartbeats 4000000 in
theorem rfits_take (n kn : Nat) (_hn : n ≤ 6) (hk : kn < n) (rows : List (List Int)) (_hrl : rows.length ≤ 100000) (_hev : ∀ r ∈ rows, 1 ≤ r.length ∧ r.length ≤ 10 ∧ r.length = (rows.headD []).length)
    (w : World) (S T' : Nat → Prop) (aa ak : Option Addr) (ca ck : Nat) (hoka : Slok aa n) (_hcapa : n ≤ ca) (_hmaxa : ca ≤ 9223372036854775807) (hck : w.cell? ⟨slb aa, slo aa + kn, none⟩ = some (.slice ak rows.length ck)) (hbk : slb aa < w.heap.size)
    (hr : RowsV S w (.slice ak rows.length ck) rows) (xs : List Int) (_hxl : xs.length ≤ 100000) (ad : Option Addr) (cap : Nat) (hu : IntsV T' w (.slice ad xs.length cap) xs)
    (i o nw : Int) (hfm : FormedC ⟨kn, i, -2, o, nw, xs⟩) :
    Calls Try.prog 42 #[.slice aa n ca, .agg #[.int .i64 kn, .int .i64 i, .int .i64 (-2), .int .i64 o, .int .i64 nw, .slice ad xs.length cap]] w fun e w' => e = .returned (.int .i64 (fitsG rows i (-2) o xs)) ∧ Below w.heap.size w w' := by
  obtain ⟨_, _, ea, hokk, hcapk, hmaxk⟩ := hr.form
  cases ea
  obtain ⟨_, _, ex, hokx, hcapx, hmaxx⟩ := hu.form
  cases ex
  have hF := rformed_any ⟨kn, i, -2, o, nw, xs⟩ ad cap
  rw [decide_eq_true hfm] at hF
  have HF := hid hF
  clear hF hfm
  simp only [Chg.val] at HF
  have hki : (kn : Int) < n := by omega
  have hk0 : (0 : Int) ≤ (kn : Int) := by omega
  by_cases hx : 0 < rows.length ∧ xs.length ≠ (rows.headD []).length
  · obtain ⟨hm, hx⟩ := hx
    have HZ : Hid (fitsG rows i (-2) o xs = 2) := hid (by unfold fitsG; rw [if_pos ⟨by decide, hm, hx⟩])
    obtain ⟨a0, c0, hc0, hb0, -, hmc0, hmax0, -⟩ := row_at hr hm
    rw [headD_eq [] hm] at hx
    simp only [Nat.add_zero] at hc0
    rw [HZ.out]
    have d3 : ((xs.length : Int) != (rows[0].length : Int)) = true := bneT (by omega)
    have hm' : (0 : Int) < rows.length := by omega
    clear HZ hr _hev hu hx
    generalize rows[0].length = m0 at *
    generalize rows.length = m at *
    go_enter Try.func42, Try.ntmps42
    go_wp2_with fail
    refine (HF.out _).mono ?_
    rintro e w2 ⟨rfl, hb2⟩
    have hb02 : Below w.heap.size w w2 := ((Below.refl _ _).alloc (Nat.le_refl _) _).trans (hb2.mono (by simp))
    have hbx := (hb2.block w.heap.size (by simp)).trans (World.alloc_heap_new _ _)
    have hsz := hb02.size
    have hszx := (Array.getElem?_eq_some_iff.1 hbx).1
    have b0 : w2.cell? ⟨w.heap.size, 0, none⟩ = some (.int .i64 kn) := by simp [World.cell?, hbx]
    have b1 : w2.cell? ⟨w.heap.size, 1, none⟩ = some (.int .i64 i) := by simp [World.cell?, hbx]
    have b2 : w2.cell? ⟨w.heap.size, 2, none⟩ = some (.int .i64 (-2)) := by simp [World.cell?, hbx]
    have b3 : w2.cell? ⟨w.heap.size, 3, none⟩ = some (.int .i64 o) := by simp [World.cell?, hbx]
    have b4 : w2.cell? ⟨w.heap.size, 4, none⟩ = some (.int .i64 nw) := by simp [World.cell?, hbx]
    have b5 : w2.cell? ⟨w.heap.size, 5, none⟩ = some (.slice ad xs.length cap) := by simp [World.cell?, hbx]
    have hck2 := cell_later hb02 hck
    have hbk2 : slb aa < w2.heap.size := by omega
    have hc02 := cell_later hb02 hc0
    have hb0w : slb ak < w2.heap.size := by omega
    clear hbx hb2 HF
    clear hck
    go_wp2
    go_quiet (fail)
    go_wp2
    go_ret
    exact ⟨rfl, by first | assumption | exact below_drewN hb02 _⟩
  · have hmis : ¬ ((-2 : Int) < 0 ∧ 0 < rows.length ∧ xs.length ≠ (rows.headD []).length) := fun h => hx h.2
    by_cases hm : 0 < rows.length
    · have hx0 : xs.length = rows[0].length := by rw [← headD_eq [] hm]; omega
      clear hx
      have HROW : Hid (∀ q, q < rows.length → ∃ ap mp cp, w.cell? ⟨slb ak, slo ak + q, none⟩ = some (.slice ap mp cp)) := hid (fun q hq => by obtain ⟨ap, cp, hcp, -⟩ := row_at hr hq; exact ⟨ap, _, cp, hcp⟩)
      obtain ⟨p, hp⟩ : ∃ p, rows.length = p + 1 := ⟨rows.length - 1, by omega⟩
      by_cases hi : i = p
      · subst hi
        by_cases he : rows.getD p [] = xs
        · have HZ : Hid (fitsG rows p (-2) o xs = 0) := hid (by unfold fitsG; rw [if_neg (fun h => hmis h), if_neg (by decide), if_pos rfl, if_neg (by omega), if_neg (by simpa using he)])
          rw [HZ.out]
          obtain ⟨a0, c0, hc0, hb0, -, hmc0, hmax0, -⟩ := row_at hr hm
          simp only [Nat.add_zero] at hc0
          have d3 : ((xs.length : Int) != (rows[0].length : Int)) = false := bneF (by omega)
          have hm' : (0 : Int) < rows.length := by omega
          clear hx0
          obtain ⟨ap, cp, hcp, hbp, -, -, hmaxp, hrp⟩ := row_at hr (show p < rows.length by omega)
          have HE := fun W => hid (sameInts_any rows[p] xs (.slice ap rows[p].length cp) (.slice ad xs.length cap) S T' W)
          have he' : rows[p] = xs := by rw [← he, getD_eq (show p < rows.length by omega)]
          rw [decide_eq_true he'] at HE
          have HRP := hid hrp
          have HU := hid hu
          clear HZ hr _hev hu hmis he he' hrp
          generalize rows[p] = rp at *
          generalize rows[0].length = m0 at *
          generalize rows.length = m at *
          subst hp
          have g1 : (0 : Int) ≤ p := by omega
          have g2 : (p : Int) < ((p + 1 : Nat) : Int) := by omega
          have d2 : decide ((0 : Int) < ((p + 1 : Nat) : Int)) = true := decide_eq_true (by omega)
          have d2' : (0 : Int) < (p : Int) + 1 := by omega
          have d5 : decide ((p : Int) < 0) = false := decide_eq_false (by omega)
          have d6 : decide (((p + 1 : Nat) : Int) ≤ (p : Int)) = false := decide_eq_false (by omega)
          have g3 : (p : Int) < (p : Int) + 1 := by omega
          have d8 : ((p : Int) != (p : Int)) = false := bneF rfl
          go_enter Try.func42, Try.ntmps42
          go_wp2_with fail
          refine (HF.out _).mono ?_
          rintro e w2 ⟨rfl, hb2⟩
          have hb02 : Below w.heap.size w w2 := ((Below.refl _ _).alloc (Nat.le_refl _) _).trans (hb2.mono (by simp))
          have hbx := (hb2.block w.heap.size (by simp)).trans (World.alloc_heap_new _ _)
          have hsz := hb02.size
          have hszx := (Array.getElem?_eq_some_iff.1 hbx).1
          have b0 : w2.cell? ⟨w.heap.size, 0, none⟩ = some (.int .i64 kn) := by simp [World.cell?, hbx]
          have b1 : w2.cell? ⟨w.heap.size, 1, none⟩ = some (.int .i64 p) := by simp [World.cell?, hbx]
          have b2 : w2.cell? ⟨w.heap.size, 2, none⟩ = some (.int .i64 (-2)) := by simp [World.cell?, hbx]
          have b3 : w2.cell? ⟨w.heap.size, 3, none⟩ = some (.int .i64 o) := by simp [World.cell?, hbx]
          have b4 : w2.cell? ⟨w.heap.size, 4, none⟩ = some (.int .i64 nw) := by simp [World.cell?, hbx]
          have b5 : w2.cell? ⟨w.heap.size, 5, none⟩ = some (.slice ad xs.length cap) := by simp [World.cell?, hbx]
          have hck2 := cell_later hb02 hck
          have hbk2 : slb aa < w2.heap.size := by omega
          have hc02 := cell_later hb02 hc0
          have hb0w : slb ak < w2.heap.size := by omega
          have hcp2 := cell_later hb02 hcp
          clear hbx hb2 HF
          clear hck
          go_wp2
          go_quiet (fail)
          go_wp2_with fail
          refine ((HE _).out (HRP.out.keep (KeepS.below (below_drewN hb02 _))) (HU.out.keep (KeepS.below (below_drewN hb02 _)))).mono ?_
          rintro e w3 ⟨rfl, n3, rfl⟩
          have hb03 := below_drewN (below_drewN hb02 nq) n3
          go_wp2
          go_ret
          exact ⟨rfl, by first | assumption | exact below_drewN hb02 _⟩
        · have HZ : Hid (fitsG rows p (-2) o xs = 16) := hid (by unfold fitsG; rw [if_neg (fun h => hmis h), if_neg (by decide), if_pos rfl, if_neg (by omega), if_pos (by simpa using he)])
          rw [HZ.out]
          obtain ⟨a0, c0, hc0, hb0, -, hmc0, hmax0, -⟩ := row_at hr hm
          simp only [Nat.add_zero] at hc0
          have d3 : ((xs.length : Int) != (rows[0].length : Int)) = false := bneF (by omega)
          have hm' : (0 : Int) < rows.length := by omega
          clear hx0
          obtain ⟨ap, cp, hcp, hbp, -, -, hmaxp, hrp⟩ := row_at hr (show p < rows.length by omega)
          have HE := fun W => hid (sameInts_any rows[p] xs (.slice ap rows[p].length cp) (.slice ad xs.length cap) S T' W)
          have he' : ¬ rows[p] = xs := by rw [← getD_eq (d := []) (show p < rows.length by omega)]; exact he
          rw [decide_eq_false he'] at HE
          have HRP := hid hrp
          have HU := hid hu
          clear HZ hr _hev hu hmis he he' hrp
          generalize rows[p] = rp at *
          generalize rows[0].length = m0 at *
          generalize rows.length = m at *
          subst hp
          have g1 : (0 : Int) ≤ p := by omega
          have g2 : (p : Int) < ((p + 1 : Nat) : Int) := by omega
          have d2 : decide ((0 : Int) < ((p + 1 : Nat) : Int)) = true := decide_eq_true (by omega)
          have d2' : (0 : Int) < (p : Int) + 1 := by omega
          have d5 : decide ((p : Int) < 0) = false := decide_eq_false (by omega)
          have d6 : decide (((p + 1 : Nat) : Int) ≤ (p : Int)) = false := decide_eq_false (by omega)
          have g3 : (p : Int) < (p : Int) + 1 := by omega
          have d8 : ((p : Int) != (p : Int)) = false := bneF rfl
          go_enter Try.func42, Try.ntmps42
          go_wp2_with fail
          refine (HF.out _).mono ?_
          rintro e w2 ⟨rfl, hb2⟩
          have hb02 : Below w.heap.size w w2 := ((Below.refl _ _).alloc (Nat.le_refl _) _).trans (hb2.mono (by simp))
          have hbx := (hb2.block w.heap.size (by simp)).trans (World.alloc_heap_new _ _)
          have hsz := hb02.size
          have hszx := (Array.getElem?_eq_some_iff.1 hbx).1
          have b0 : w2.cell? ⟨w.heap.size, 0, none⟩ = some (.int .i64 kn) := by simp [World.cell?, hbx]
          have b1 : w2.cell? ⟨w.heap.size, 1, none⟩ = some (.int .i64 p) := by simp [World.cell?, hbx]
          have b2 : w2.cell? ⟨w.heap.size, 2, none⟩ = some (.int .i64 (-2)) := by simp [World.cell?, hbx]
          have b3 : w2.cell? ⟨w.heap.size, 3, none⟩ = some (.int .i64 o) := by simp [World.cell?, hbx]
          have b4 : w2.cell? ⟨w.heap.size, 4, none⟩ = some (.int .i64 nw) := by simp [World.cell?, hbx]
          have b5 : w2.cell? ⟨w.heap.size, 5, none⟩ = some (.slice ad xs.length cap) := by simp [World.cell?, hbx]
          have hck2 := cell_later hb02 hck
          have hbk2 : slb aa < w2.heap.size := by omega
          have hc02 := cell_later hb02 hc0
          have hb0w : slb ak < w2.heap.size := by omega
          have hcp2 := cell_later hb02 hcp
          clear hbx hb2 HF
          clear hck
          go_wp2
          go_quiet (fail)
          go_wp2_with fail
          refine ((HE _).out (HRP.out.keep (KeepS.below (below_drewN hb02 _))) (HU.out.keep (KeepS.below (below_drewN hb02 _)))).mono ?_
          rintro e w3 ⟨rfl, n3, rfl⟩
          have hb03 := below_drewN (below_drewN hb02 nq) n3
          go_wp2
          go_ret
          exact ⟨rfl, by first | assumption | exact below_drewN hb02 _⟩
      · have HZ : Hid (fitsG rows i (-2) o xs = 5) := hid (by unfold fitsG; rw [if_neg (fun h => hmis h), if_neg (by decide), if_pos rfl, if_pos (.inr (by omega))])
        rw [HZ.out]
        obtain ⟨a0, c0, hc0, hb0, -, hmc0, hmax0, -⟩ := row_at hr hm
        simp only [Nat.add_zero] at hc0
        have d3 : ((xs.length : Int) != (rows[0].length : Int)) = false := bneF (by omega)
        have hm' : (0 : Int) < rows.length := by omega
        clear hx0
        clear HZ hr _hev hu hmis
        generalize rows[0].length = m0 at *
        generalize rows.length = m at *
        subst hp
        have d2 : decide ((0 : Int) < ((p + 1 : Nat) : Int)) = true := decide_eq_true (by omega)
        have d2' : (0 : Int) < (p : Int) + 1 := by omega
        by_cases hi0 : i < 0
        · have d5 : decide (i < 0) = true := decide_eq_true hi0
          go_enter Try.func42, Try.ntmps42
          go_wp2_with fail
          refine (HF.out _).mono ?_
          rintro e w2 ⟨rfl, hb2⟩
          have hb02 : Below w.heap.size w w2 := ((Below.refl _ _).alloc (Nat.le_refl _) _).trans (hb2.mono (by simp))
          have hbx := (hb2.block w.heap.size (by simp)).trans (World.alloc_heap_new _ _)
          have hsz := hb02.size
          have hszx := (Array.getElem?_eq_some_iff.1 hbx).1
          have b0 : w2.cell? ⟨w.heap.size, 0, none⟩ = some (.int .i64 kn) := by simp [World.cell?, hbx]
          have b1 : w2.cell? ⟨w.heap.size, 1, none⟩ = some (.int .i64 i) := by simp [World.cell?, hbx]
          have b2 : w2.cell? ⟨w.heap.size, 2, none⟩ = some (.int .i64 (-2)) := by simp [World.cell?, hbx]
          have b3 : w2.cell? ⟨w.heap.size, 3, none⟩ = some (.int .i64 o) := by simp [World.cell?, hbx]
          have b4 : w2.cell? ⟨w.heap.size, 4, none⟩ = some (.int .i64 nw) := by simp [World.cell?, hbx]
          have b5 : w2.cell? ⟨w.heap.size, 5, none⟩ = some (.slice ad xs.length cap) := by simp [World.cell?, hbx]
          have hck2 := cell_later hb02 hck
          have hbk2 : slb aa < w2.heap.size := by omega
          have hc02 := cell_later hb02 hc0
          have hb0w : slb ak < w2.heap.size := by omega
          clear hbx hb2 HF
          clear hck
          go_wp2
          go_quiet (fail)
          go_wp2
          go_ret
          exact ⟨rfl, by first | assumption | exact below_drewN hb02 _⟩
        · obtain ⟨q, rfl⟩ := Int.eq_ofNat_of_zero_le (show 0 ≤ i by omega)
          have d5 : decide ((q : Int) < 0) = false := decide_eq_false hi0
          by_cases hi1 : ((p + 1 : Nat) : Int) ≤ q
          · have d6 : decide (((p + 1 : Nat) : Int) ≤ (q : Int)) = true := decide_eq_true hi1
            have d6' : decide (p + 1 ≤ q) = true := decide_eq_true (by omega)
            go_enter Try.func42, Try.ntmps42
            go_wp2_with fail
            refine (HF.out _).mono ?_
            rintro e w2 ⟨rfl, hb2⟩
            have hb02 : Below w.heap.size w w2 := ((Below.refl _ _).alloc (Nat.le_refl _) _).trans (hb2.mono (by simp))
            have hbx := (hb2.block w.heap.size (by simp)).trans (World.alloc_heap_new _ _)
            have hsz := hb02.size
            have hszx := (Array.getElem?_eq_some_iff.1 hbx).1
            have b0 : w2.cell? ⟨w.heap.size, 0, none⟩ = some (.int .i64 kn) := by simp [World.cell?, hbx]
            have b1 : w2.cell? ⟨w.heap.size, 1, none⟩ = some (.int .i64 q) := by simp [World.cell?, hbx]
            have b2 : w2.cell? ⟨w.heap.size, 2, none⟩ = some (.int .i64 (-2)) := by simp [World.cell?, hbx]
            have b3 : w2.cell? ⟨w.heap.size, 3, none⟩ = some (.int .i64 o) := by simp [World.cell?, hbx]
            have b4 : w2.cell? ⟨w.heap.size, 4, none⟩ = some (.int .i64 nw) := by simp [World.cell?, hbx]
            have b5 : w2.cell? ⟨w.heap.size, 5, none⟩ = some (.slice ad xs.length cap) := by simp [World.cell?, hbx]
            have hck2 := cell_later hb02 hck
            have hbk2 : slb aa < w2.heap.size := by omega
            have hc02 := cell_later hb02 hc0
            have hb0w : slb ak < w2.heap.size := by omega
            clear hbx hb2 HF
            clear hck
            go_wp2
            go_quiet (fail)
            go_wp2
            go_ret
            exact ⟨rfl, by first | assumption | exact below_drewN hb02 _⟩
          · have d6 : decide (((p + 1 : Nat) : Int) ≤ (q : Int)) = false := decide_eq_false hi1
            have d6' : decide (p + 1 ≤ q) = false := decide_eq_false (by omega)
            have d8 : ((q : Int) != (p : Int)) = true := bneT (by omega)
            have g1 : (0 : Int) ≤ q := by omega
            have g2 : (q : Int) < ((p + 1 : Nat) : Int) := by omega
            obtain ⟨ap, mp, cp, hcp⟩ : ∃ ap mp cp, w.cell? ⟨slb ak, slo ak + q, none⟩ = some (.slice ap mp cp) := HROW.out q (by omega)
            go_enter Try.func42, Try.ntmps42
            go_wp2_with fail
            refine (HF.out _).mono ?_
            rintro e w2 ⟨rfl, hb2⟩
            have hb02 : Below w.heap.size w w2 := ((Below.refl _ _).alloc (Nat.le_refl _) _).trans (hb2.mono (by simp))
            have hbx := (hb2.block w.heap.size (by simp)).trans (World.alloc_heap_new _ _)
            have hsz := hb02.size
            have hszx := (Array.getElem?_eq_some_iff.1 hbx).1
            have b0 : w2.cell? ⟨w.heap.size, 0, none⟩ = some (.int .i64 kn) := by simp [World.cell?, hbx]
            have b1 : w2.cell? ⟨w.heap.size, 1, none⟩ = some (.int .i64 q) := by simp [World.cell?, hbx]
            have b2 : w2.cell? ⟨w.heap.size, 2, none⟩ = some (.int .i64 (-2)) := by simp [World.cell?, hbx]
            have b3 : w2.cell? ⟨w.heap.size, 3, none⟩ = some (.int .i64 o) := by simp [World.cell?, hbx]
            have b4 : w2.cell? ⟨w.heap.size, 4, none⟩ = some (.int .i64 nw) := by simp [World.cell?, hbx]
            have b5 : w2.cell? ⟨w.heap.size, 5, none⟩ = some (.slice ad xs.length cap) := by simp [World.cell?, hbx]
            have hck2 := cell_later hb02 hck
            have hbk2 : slb aa < w2.heap.size := by omega
            have hc02 := cell_later hb02 hc0
            have hb0w : slb ak < w2.heap.size := by omega
            have hcp2 := cell_later hb02 hcp
            clear hbx hb2 HF
            clear hck
            go_wp2
            go_quiet (fail)
            go_wp2
            go_ret
            exact ⟨rfl, by first | assumption | exact below_drewN hb02 _⟩
    · have hm1 : rows.length = 0 := by omega
      clear hx
      have HZ : Hid (fitsG rows i (-2) o xs = 5) := hid (by unfold fitsG; rw [if_neg (fun h => hmis h), if_neg (by decide), if_pos rfl, if_pos (.inl hm1)])
      rw [HZ.out]
      clear HZ hr _hev hu hmis
      generalize rows.length = m at *
      have hm0 : decide ((0 : Int) < (m : Int)) = false := decide_eq_false (by omega)
      have hm00 : decide (0 < m) = false := decide_eq_false (by omega)
      have d66 : 0 ≤ i → decide ((m : Int) ≤ i) = true := fun h => decide_eq_true (by omega)
      clear hm1 hm
      by_cases hi : i < 0
      · have d5 : decide (i < 0) = true := decide_eq_true hi
        clear d66
        go_enter Try.func42, Try.ntmps42
        go_wp2_with fail
        refine (HF.out _).mono ?_
        rintro e w2 ⟨rfl, hb2⟩
        have hb02 : Below w.heap.size w w2 := ((Below.refl _ _).alloc (Nat.le_refl _) _).trans (hb2.mono (by simp))
        have hbx := (hb2.block w.heap.size (by simp)).trans (World.alloc_heap_new _ _)
        have hsz := hb02.size
        have hszx := (Array.getElem?_eq_some_iff.1 hbx).1
        have b0 : w2.cell? ⟨w.heap.size, 0, none⟩ = some (.int .i64 kn) := by simp [World.cell?, hbx]
        have b1 : w2.cell? ⟨w.heap.size, 1, none⟩ = some (.int .i64 i) := by simp [World.cell?, hbx]
        have b2 : w2.cell? ⟨w.heap.size, 2, none⟩ = some (.int .i64 (-2)) := by simp [World.cell?, hbx]
        have b3 : w2.cell? ⟨w.heap.size, 3, none⟩ = some (.int .i64 o) := by simp [World.cell?, hbx]
        have b4 : w2.cell? ⟨w.heap.size, 4, none⟩ = some (.int .i64 nw) := by simp [World.cell?, hbx]
        have b5 : w2.cell? ⟨w.heap.size, 5, none⟩ = some (.slice ad xs.length cap) := by simp [World.cell?, hbx]
        have hck2 := cell_later hb02 hck
        have hbk2 : slb aa < w2.heap.size := by omega
        clear hbx hb2 HF
        clear hck
        go_wp2
        go_ret
        exact ⟨rfl, by first | assumption | exact below_drewN hb02 _⟩
      · have d5 : decide (i < 0) = false := decide_eq_false hi
        have d6 : decide ((m : Int) ≤ i) = true := d66 (by omega)
        clear d66
        go_enter Try.func42, Try.ntmps42
        go_wp2_with fail
        refine (HF.out _).mono ?_
        rintro e w2 ⟨rfl, hb2⟩
        have hb02 : Below w.heap.size w w2 := ((Below.refl _ _).alloc (Nat.le_refl _) _).trans (hb2.mono (by simp))
        have hbx := (hb2.block w.heap.size (by simp)).trans (World.alloc_heap_new _ _)
        have hsz := hb02.size
        have hszx := (Array.getElem?_eq_some_iff.1 hbx).1
        have b0 : w2.cell? ⟨w.heap.size, 0, none⟩ = some (.int .i64 kn) := by simp [World.cell?, hbx]
        have b1 : w2.cell? ⟨w.heap.size, 1, none⟩ = some (.int .i64 i) := by simp [World.cell?, hbx]
        have b2 : w2.cell? ⟨w.heap.size, 2, none⟩ = some (.int .i64 (-2)) := by simp [World.cell?, hbx]
        have b3 : w2.cell? ⟨w.heap.size, 3, none⟩ = some (.int .i64 o) := by simp [World.cell?, hbx]
        have b4 : w2.cell? ⟨w.heap.size, 4, none⟩ = some (.int .i64 nw) := by simp [World.cell?, hbx]
        have b5 : w2.cell? ⟨w.heap.size, 5, none⟩ = some (.slice ad xs.length cap) := by simp [World.cell?, hbx]
        have hck2 := cell_later hb02 hck
        have hbk2 : slb aa < w2.heap.size := by omega
        clear hbx hb2 HF
        clear hck
        go_wp2
        go_ret
        exact ⟨rfl, by first | assumption | exact below_drewN hb02 _⟩

set_option maxRecDepth 100000 in
set_option maxHeartbeats 4000000 in
theorem rfits_set (n kn : Nat) (_hn : n ≤ 6) (hk : kn < n) (rows : List (List Int)) (_hrl : rows.length ≤ 100000) (_hev : ∀ r ∈ rows, 1 ≤ r.length ∧ r.length ≤ 10 ∧ r.length = (rows.headD []).length)
    (w : World) (S T' : Nat → Prop) (aa ak : Option Addr) (ca ck : Nat) (hoka : Slok aa n) (_hcapa : n ≤ ca) (_hmaxa : ca ≤ 9223372036854775807) (hck : w.cell? ⟨slb aa, slo aa + kn, none⟩ = some (.slice ak rows.length ck)) (hbk : slb aa < w.heap.size)
    (hr : RowsV S w (.slice ak rows.length ck) rows) (xs : List Int) (_hxl : xs.length ≤ 100000) (ad : Option Addr) (cap : Nat) (hu : IntsV T' w (.slice ad xs.length cap) xs)
    (fn : Nat) (i o nw : Int) (hfm : FormedC ⟨kn, i, fn, o, nw, xs⟩) :
    Calls Try.prog 42 #[.slice aa n ca, .agg #[.int .i64 kn, .int .i64 i, .int .i64 (fn), .int .i64 o, .int .i64 nw, .slice ad xs.length cap]] w fun e w' => e = .returned (.int .i64 (fitsG rows i (fn) o xs)) ∧ Below w.heap.size w w' := by
  obtain ⟨_, _, ea, hokk, hcapk, hmaxk⟩ := hr.form
  cases ea
  obtain ⟨_, _, ex, hokx, hcapx, hmaxx⟩ := hu.form
  cases ex
  have hF := rformed_any ⟨kn, i, fn, o, nw, xs⟩ ad cap
  rw [decide_eq_true hfm] at hF
  have HF := hid hF
  clear hF hfm
  simp only [Chg.val] at HF
  have hki : (kn : Int) < n := by omega
  have hk0 : (0 : Int) ≤ (kn : Int) := by omega
  have d1 : decide ((fn : Int) < 0) = false := decide_eq_false (by omega)
  have e1 : ((fn : Int) == -1) = false := beqF (by omega)
  have e2 : ((fn : Int) == -2) = false := beqF (by omega)
  have HK : Hid (fitsG rows i fn o xs = if i < 0 ∨ (rows.length : Int) ≤ i ∨ ((rows.headD []).length : Int) ≤ fn then 5 else if (rows.getD i.toNat []).getD fn 0 ≠ o then 16 else 0) := hid (by
    unfold fitsG; rw [if_neg (fun h => by have := h.1; omega), if_neg (by omega), if_neg (by omega)]; rfl)
  rw [HK.out]
  by_cases hi0 : i < 0
  · rw [if_pos (.inl hi0)]
    have d5 : decide (i < 0) = true := decide_eq_true hi0
    clear HK hr _hev hu
    generalize rows.length = m at *
    go_enter Try.func42, Try.ntmps42
    go_wp2_with fail
    refine (HF.out _).mono ?_
    rintro e w2 ⟨rfl, hb2⟩
    have hb02 : Below w.heap.size w w2 := ((Below.refl _ _).alloc (Nat.le_refl _) _).trans (hb2.mono (by simp))
    have hbx := (hb2.block w.heap.size (by simp)).trans (World.alloc_heap_new _ _)
    have hsz := hb02.size
    have hszx := (Array.getElem?_eq_some_iff.1 hbx).1
    have b0 : w2.cell? ⟨w.heap.size, 0, none⟩ = some (.int .i64 kn) := by simp [World.cell?, hbx]
    have b1 : w2.cell? ⟨w.heap.size, 1, none⟩ = some (.int .i64 i) := by simp [World.cell?, hbx]
    have b2 : w2.cell? ⟨w.heap.size, 2, none⟩ = some (.int .i64 fn) := by simp [World.cell?, hbx]
    have b3 : w2.cell? ⟨w.heap.size, 3, none⟩ = some (.int .i64 o) := by simp [World.cell?, hbx]
    have b4 : w2.cell? ⟨w.heap.size, 4, none⟩ = some (.int .i64 nw) := by simp [World.cell?, hbx]
    have b5 : w2.cell? ⟨w.heap.size, 5, none⟩ = some (.slice ad xs.length cap) := by simp [World.cell?, hbx]
    have hck2 := cell_later hb02 hck
    have hbk2 : slb aa < w2.heap.size := by omega
    clear hbx hb2 HF
    clear hck
    go_wp2
    go_ret
    exact ⟨rfl, by first | assumption | exact below_drewN hb02 _⟩
  · obtain ⟨q, rfl⟩ := Int.eq_ofNat_of_zero_le (show 0 ≤ i by omega)
    have d5 : decide ((q : Int) < 0) = false := decide_eq_false hi0
    by_cases hi1 : (rows.length : Int) ≤ q
    · rw [if_pos (.inr (.inl hi1))]
      have d6 : decide ((rows.length : Int) ≤ (q : Int)) = true := decide_eq_true hi1
      have d6' : decide (rows.length ≤ q) = true := decide_eq_true (by omega)
      clear HK hr _hev hu
      generalize rows.length = m at *
      go_enter Try.func42, Try.ntmps42
      go_wp2_with fail
      refine (HF.out _).mono ?_
      rintro e w2 ⟨rfl, hb2⟩
      have hb02 : Below w.heap.size w w2 := ((Below.refl _ _).alloc (Nat.le_refl _) _).trans (hb2.mono (by simp))
      have hbx := (hb2.block w.heap.size (by simp)).trans (World.alloc_heap_new _ _)
      have hsz := hb02.size
      have hszx := (Array.getElem?_eq_some_iff.1 hbx).1
      have b0 : w2.cell? ⟨w.heap.size, 0, none⟩ = some (.int .i64 kn) := by simp [World.cell?, hbx]
      have b1 : w2.cell? ⟨w.heap.size, 1, none⟩ = some (.int .i64 q) := by simp [World.cell?, hbx]
      have b2 : w2.cell? ⟨w.heap.size, 2, none⟩ = some (.int .i64 fn) := by simp [World.cell?, hbx]
      have b3 : w2.cell? ⟨w.heap.size, 3, none⟩ = some (.int .i64 o) := by simp [World.cell?, hbx]
      have b4 : w2.cell? ⟨w.heap.size, 4, none⟩ = some (.int .i64 nw) := by simp [World.cell?, hbx]
      have b5 : w2.cell? ⟨w.heap.size, 5, none⟩ = some (.slice ad xs.length cap) := by simp [World.cell?, hbx]
      have hck2 := cell_later hb02 hck
      have hbk2 : slb aa < w2.heap.size := by omega
      clear hbx hb2 HF
      clear hck
      go_wp2
      go_ret
      exact ⟨rfl, by first | assumption | exact below_drewN hb02 _⟩
    · have hq : q < rows.length := by omega
      have d6 : decide ((rows.length : Int) ≤ (q : Int)) = false := decide_eq_false hi1
      have d6' : decide (rows.length ≤ q) = false := decide_eq_false (by omega)
      have hevq := _hev _ (List.getElem_mem hq)
      obtain ⟨ap, cp, hcp, hbp, hokp, hmcp, hmaxp, hrp⟩ := row_at hr hq
      have hl : (rows.headD []).length = rows[q].length := by omega
      rw [hl, Int.toNat_natCast, getD_eq hq]
      clear hevq
      have g1 : (0 : Int) ≤ q := by omega
      have g2 : (q : Int) < rows.length := by omega
      by_cases hf : (rows[q].length : Int) ≤ fn
      · rw [if_pos (.inr (.inr hf))]
        have d7 : decide ((rows[q].length : Int) ≤ (fn : Int)) = true := decide_eq_true hf
        have d7' : decide (rows[q].length ≤ fn) = true := decide_eq_true (by omega)
        clear HK hr _hev hu hrp hl
        generalize rows[q].length = mp at *
        generalize rows.length = m at *
        go_enter Try.func42, Try.ntmps42
        go_wp2_with fail
        refine (HF.out _).mono ?_
        rintro e w2 ⟨rfl, hb2⟩
        have hb02 : Below w.heap.size w w2 := ((Below.refl _ _).alloc (Nat.le_refl _) _).trans (hb2.mono (by simp))
        have hbx := (hb2.block w.heap.size (by simp)).trans (World.alloc_heap_new _ _)
        have hsz := hb02.size
        have hszx := (Array.getElem?_eq_some_iff.1 hbx).1
        have b0 : w2.cell? ⟨w.heap.size, 0, none⟩ = some (.int .i64 kn) := by simp [World.cell?, hbx]
        have b1 : w2.cell? ⟨w.heap.size, 1, none⟩ = some (.int .i64 q) := by simp [World.cell?, hbx]
        have b2 : w2.cell? ⟨w.heap.size, 2, none⟩ = some (.int .i64 fn) := by simp [World.cell?, hbx]
        have b3 : w2.cell? ⟨w.heap.size, 3, none⟩ = some (.int .i64 o) := by simp [World.cell?, hbx]
        have b4 : w2.cell? ⟨w.heap.size, 4, none⟩ = some (.int .i64 nw) := by simp [World.cell?, hbx]
        have b5 : w2.cell? ⟨w.heap.size, 5, none⟩ = some (.slice ad xs.length cap) := by simp [World.cell?, hbx]
        have hck2 := cell_later hb02 hck
        have hbk2 : slb aa < w2.heap.size := by omega
        have hcp2 := cell_later hb02 hcp
        have hb0w : slb ak < w2.heap.size := by omega
        clear hbx hb2 HF
        clear hck
        go_wp2
        go_ret
        exact ⟨rfl, by first | assumption | exact below_drewN hb02 _⟩
      · rw [if_neg (by omega)]
        have hfq : fn < rows[q].length := by omega
        have d7 : decide ((rows[q].length : Int) ≤ (fn : Int)) = false := decide_eq_false hf
        have d7' : decide (rows[q].length ≤ fn) = false := decide_eq_false (by omega)
        obtain ⟨uv, j1, j2, j3⟩ := hrp.at hfq
        rw [j3] at j1
        rw [getD_eq hfq]
        have g3 : (0 : Int) ≤ fn := by omega
        have g4 : (fn : Int) < rows[q].length := by omega
        clear HK hr _hev hu hrp hl j3
        generalize rows[q][fn] = x at *
        generalize rows[q].length = mp at *
        generalize rows.length = m at *
        by_cases hx : x = o
        · subst hx
          rw [if_neg (fun h => h rfl)]
          have d9 : (x != x) = false := bneF rfl
          go_enter Try.func42, Try.ntmps42
          go_wp2_with fail
          refine (HF.out _).mono ?_
          rintro e w2 ⟨rfl, hb2⟩
          have hb02 : Below w.heap.size w w2 := ((Below.refl _ _).alloc (Nat.le_refl _) _).trans (hb2.mono (by simp))
          have hbx := (hb2.block w.heap.size (by simp)).trans (World.alloc_heap_new _ _)
          have hsz := hb02.size
          have hszx := (Array.getElem?_eq_some_iff.1 hbx).1
          have b0 : w2.cell? ⟨w.heap.size, 0, none⟩ = some (.int .i64 kn) := by simp [World.cell?, hbx]
          have b1 : w2.cell? ⟨w.heap.size, 1, none⟩ = some (.int .i64 q) := by simp [World.cell?, hbx]
          have b2 : w2.cell? ⟨w.heap.size, 2, none⟩ = some (.int .i64 fn) := by simp [World.cell?, hbx]
          have b3 : w2.cell? ⟨w.heap.size, 3, none⟩ = some (.int .i64 x) := by simp [World.cell?, hbx]
          have b4 : w2.cell? ⟨w.heap.size, 4, none⟩ = some (.int .i64 nw) := by simp [World.cell?, hbx]
          have b5 : w2.cell? ⟨w.heap.size, 5, none⟩ = some (.slice ad xs.length cap) := by simp [World.cell?, hbx]
          have hck2 := cell_later hb02 hck
          have hbk2 : slb aa < w2.heap.size := by omega
          have hcp2 := cell_later hb02 hcp
          have hb0w : slb ak < w2.heap.size := by omega
          have hj2 := cell_later hb02 j1
          have hjw : slb ap < w2.heap.size := by omega
          clear hbx hb2 HF
          clear hck
          go_wp2
          go_quiet (fail)
          go_wp2
          go_ret
          exact ⟨rfl, by first | assumption | exact below_drewN hb02 _⟩
        · rw [if_pos hx]
          have d9 : (x != o) = true := bneT hx
          clear hx
          go_enter Try.func42, Try.ntmps42
          go_wp2_with fail
          refine (HF.out _).mono ?_
          rintro e w2 ⟨rfl, hb2⟩
          have hb02 : Below w.heap.size w w2 := ((Below.refl _ _).alloc (Nat.le_refl _) _).trans (hb2.mono (by simp))
          have hbx := (hb2.block w.heap.size (by simp)).trans (World.alloc_heap_new _ _)
          have hsz := hb02.size
          have hszx := (Array.getElem?_eq_some_iff.1 hbx).1
          have b0 : w2.cell? ⟨w.heap.size, 0, none⟩ = some (.int .i64 kn) := by simp [World.cell?, hbx]
          have b1 : w2.cell? ⟨w.heap.size, 1, none⟩ = some (.int .i64 q) := by simp [World.cell?, hbx]
          have b2 : w2.cell? ⟨w.heap.size, 2, none⟩ = some (.int .i64 fn) := by simp [World.cell?, hbx]
          have b3 : w2.cell? ⟨w.heap.size, 3, none⟩ = some (.int .i64 o) := by simp [World.cell?, hbx]
          have b4 : w2.cell? ⟨w.heap.size, 4, none⟩ = some (.int .i64 nw) := by simp [World.cell?, hbx]
          have b5 : w2.cell? ⟨w.heap.size, 5, none⟩ = some (.slice ad xs.length cap) := by simp [World.cell?, hbx]
          have hck2 := cell_later hb02 hck
          have hbk2 : slb aa < w2.heap.size := by omega
          have hcp2 := cell_later hb02 hcp
          have hb0w : slb ak < w2.heap.size := by omega
          have hj2 := cell_later hb02 j1
          have hjw : slb ap < w2.heap.size := by omega
          clear hbx hb2 HF
          clear hck
          go_wp2
          go_quiet (fail)
          go_wp2
          go_ret
          exact ⟨rfl, by first | assumption | exact below_drewN hb02 _⟩

end Go.Proofs.Ytagnjhhbbjbhcaa
