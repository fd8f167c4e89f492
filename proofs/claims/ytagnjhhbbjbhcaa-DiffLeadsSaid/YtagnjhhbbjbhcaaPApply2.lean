/- apply of the program: the errors of changes that are formed. -/
import Derived.Test.YtagnjhhbbjbhcaaPApply1
namespace Go.Proofs.Ytagnjhhbbjbhcaa
open Go.RowKit

theorem bcellG {W w1 : World} (hb : Below W.heap.size W w1) : (∀ b o, b < W.heap.size → w1.cell? ⟨b, o, none⟩ = W.cell? ⟨b, o, none⟩) ∧ (∀ b o, b < W.heap.size → w1.frozen? ⟨b, o, none⟩ = W.frozen? ⟨b, o, none⟩) :=
  ⟨fun b o h => hb.cell (p := ⟨b, o, none⟩) h, fun b o h => hb.frozen (p := ⟨b, o, none⟩) h⟩

/-- The slice of a kind, and its first record. -/
theorem kind_at {V : List (List (List Int))} {T : Nat → Prop} {w : World} {aa : Option Addr} {ca : Nat} (hw : WorldV T w (.slice aa V.length ca) V) {kn : Nat} (hk : kn < V.length) :
    ∃ ak ck, w.cell? ⟨slb aa, slo aa + kn, none⟩ = some (.slice ak V[kn].length ck) ∧ slb aa < w.heap.size ∧ Slok ak V[kn].length ∧ V[kn].length ≤ ck ∧ ck ≤ 9223372036854775807 ∧ RowsV T w (.slice ak V[kn].length ck) V[kn] := by
  obtain ⟨u, h1, h2, h3⟩ := hw.at hk
  obtain ⟨a, cap, rfl, h4, h5, h6⟩ := h3.form
  exact ⟨a, cap, h1, h2, h4, h5, h6, h3⟩
theorem row_at {rows : List (List Int)} {T : Nat → Prop} {w : World} {ak : Option Addr} {ck : Nat} (hw : RowsV T w (.slice ak rows.length ck) rows) {j : Nat} (hj : j < rows.length) :
    ∃ a c, w.cell? ⟨slb ak, slo ak + j, none⟩ = some (.slice a rows[j].length c) ∧ slb ak < w.heap.size ∧ Slok a rows[j].length ∧ rows[j].length ≤ c ∧ c ≤ 9223372036854775807 ∧ IntsV T w (.slice a rows[j].length c) rows[j] := by
  obtain ⟨u, h1, h2, h3⟩ := hw.at hj
  obtain ⟨a, cap, rfl, h4, h5, h6⟩ := h3.form
  exact ⟨a, cap, h1, h2, h4, h5, h6, h3⟩

set_option maxRecDepth 100000 in
set_option maxHeartbeats 4000000 in
theorem apply1_mis (n kn : Nat) (hV : n ≤ 6) (hk : kn < n) (i f o nw : Int) (xs : List Int) (hf : f < 0) (hfm : FormedC ⟨kn, i, f, o, nw, xs⟩) (ad : Option Addr) (cap : Nat) (hcap : xs.length ≤ cap) (hmax : cap ≤ 9223372036854775807) (w : World) (aa ak a0 : Option Addr) (ca ck c0 m m0 : Nat)
    (hoka : Slok aa n) (hca : n ≤ ca) (hck : w.cell? ⟨slb aa, slo aa + kn, none⟩ = some (.slice ak m ck)) (hbk : slb aa < w.heap.size) (hokk : Slok ak m) (hmk : m ≤ ck) (hmax2 : ck ≤ 9223372036854775807) (hm : 0 < m)
    (hc0 : w.cell? ⟨slb ak, slo ak, none⟩ = some (.slice a0 m0 c0)) (hb0 : slb ak < w.heap.size) (hm0 : m0 ≤ 9223372036854775807) (hne : xs.length ≠ m0) :
    Calls Try.prog 40 #[.slice aa n ca, .agg #[.int .i64 kn, .int .i64 i, .int .i64 f, .int .i64 o, .int .i64 nw, .slice ad xs.length cap]] w fun e w' => e = .returned (.int .i64 2) ∧ Below w.heap.size w w' := by
  have hF := formed_any ⟨kn, i, f, o, nw, xs⟩ ad cap
  rw [decide_eq_true hfm] at hF
  have HF := hid hF
  clear hF hfm
  simp only [Chg.val] at HF
  have d1 : decide (f < 0) = true := by simpa using hf
  have d2 : decide ((0 : Int) < (m : Int)) = true := by simpa using hm
  have d3 : ((xs.length : Int) != (m0 : Int)) = true := bneT (by omega)
  have hki : (kn : Int) < n := by omega
  have hk0 : (0 : Int) ≤ (kn : Int) := by omega
  have hmi : (0 : Int) < m := by omega
  go_enter Try.func40, Try.ntmps40
  go_wp2
  have hg := Grew.cell (w := w.alloc (.cells #[.int .i64 kn, .int .i64 i, .int .i64 f, .int .i64 o, .int .i64 nw, .slice ad xs.length cap] 61))
  refine wp_region_quietG (by kernel_rfl) (by kernel_rfl) ?_
  repeat (go_big_quiet_step ((refine Calls.grew_of (HF.out _))))
  refine wpQuiet_nil ?_
  intro w2 hx
  have hb2 := grew_below hx
  clear hx
  have hb4 : Below w.heap.size w w2 := ((Below.refl _ _).alloc (Nat.le_refl _) _).trans (hb2.mono (by simp))
  clear hg
  go_wp2
  go_ret
  exact ⟨rfl, hb4⟩

set_option maxRecDepth 100000 in
set_option maxHeartbeats 4000000 in
theorem apply1_unk (n : Nat) (k i f o nw : Int) (hk : ¬ (0 ≤ k ∧ k < n)) (xs : List Int) (hfm : FormedC ⟨k, i, f, o, nw, xs⟩) (ad : Option Addr) (cap : Nat) (w : World) (aa : Option Addr) (ca : Nat) :
    Calls Try.prog 40 #[.slice aa n ca, .agg #[.int .i64 k, .int .i64 i, .int .i64 f, .int .i64 o, .int .i64 nw, .slice ad xs.length cap]] w fun e w' => e = .returned (.int .i64 5) ∧ Below w.heap.size w w' := by
  have hF := formed_any ⟨k, i, f, o, nw, xs⟩ ad cap
  rw [decide_eq_true hfm] at hF
  have HF := hid hF
  clear hF hfm
  simp only [Chg.val] at HF
  have hkn : k < 0 ∨ (0 ≤ k ∧ ¬ k < n) := by omega
  have hfn : decide (f < 0) = true ∨ decide (f < 0) = false := by cases decide (f < 0) <;> simp
  clear hk
  rcases hkn with hk0 | ⟨hk0, hk1⟩ <;> rcases hfn with d1 | d1
  all_goals
    go_enter Try.func40, Try.ntmps40
    go_wp2
    have hg := Grew.cell (w := w.alloc (.cells #[.int .i64 k, .int .i64 i, .int .i64 f, .int .i64 o, .int .i64 nw, .slice ad xs.length cap] 61))
    refine wp_region_quietG (by kernel_rfl) (by kernel_rfl) ?_
    repeat (go_big_quiet_step ((refine Calls.grew_of (HF.out _))))
    refine wpQuiet_nil ?_
    intro w2 hx
    have hb2 := grew_below hx
    clear hx
    have hb4 : Below w.heap.size w w2 := ((Below.refl _ _).alloc (Nat.le_refl _) _).trans (hb2.mono (by simp))
    clear hg
    go_wp2
    go_ret
    exact ⟨rfl, hb4⟩

/-- Known, add: at a wrong place. -/
theorem apply1_tmp : True := trivial

set_option maxRecDepth 100000 in
set_option maxHeartbeats 4000000 in
theorem apply1_add5 (n kn : Nat) (hV : n ≤ 6) (hk : kn < n) (i o nw : Int) (xs : List Int) (hfm : FormedC ⟨kn, i, -1, o, nw, xs⟩) (ad : Option Addr) (cap : Nat) (hcap : xs.length ≤ cap) (hmax : cap ≤ 9223372036854775807) (w : World) (aa ak a0 : Option Addr) (ca ck c0 m m0 : Nat)
    (hoka : Slok aa n) (hca : n ≤ ca) (hck : w.cell? ⟨slb aa, slo aa + kn, none⟩ = some (.slice ak m ck)) (hbk : slb aa < w.heap.size) (hokk : Slok ak m) (hmk : m ≤ ck) (hmax2 : ck ≤ 9223372036854775807)
    (hm : m = 0 ∨ (0 < m ∧ w.cell? ⟨slb ak, slo ak, none⟩ = some (.slice a0 m0 c0) ∧ slb ak < w.heap.size ∧ m0 ≤ 9223372036854775807 ∧ xs.length = m0)) (hi : i ≠ m) :
    Calls Try.prog 40 #[.slice aa n ca, .agg #[.int .i64 kn, .int .i64 i, .int .i64 (-1), .int .i64 o, .int .i64 nw, .slice ad xs.length cap]] w fun e w' => e = .returned (.int .i64 5) ∧ Below w.heap.size w w' := by
  have hF := formed_any ⟨kn, i, -1, o, nw, xs⟩ ad cap
  rw [decide_eq_true hfm] at hF
  have HF := hid hF
  clear hF hfm
  simp only [Chg.val] at HF
  have hki : (kn : Int) < n := by omega
  have hk0 : (0 : Int) ≤ (kn : Int) := by omega
  have d4 : (i != (m : Int)) = true := bneT hi
  rcases hm with rfl | ⟨hm, hc0, hb0, hm0, rfl⟩
  all_goals
    try
      have d2 : decide ((0 : Int) < (m : Int)) = true := by simpa using hm
      have d3 : ((xs.length : Int) != (xs.length : Int)) = false := bneF rfl
      have hmi : (0 : Int) < m := by omega
    go_enter Try.func40, Try.ntmps40
    go_wp2
    have hg := Grew.cell (w := w.alloc (.cells #[.int .i64 kn, .int .i64 i, .int .i64 (-1), .int .i64 o, .int .i64 nw, .slice ad xs.length cap] 61))
    refine wp_region_quietG (by kernel_rfl) (by kernel_rfl) ?_
    repeat (go_big_quiet_step ((refine Calls.grew_of (HF.out _))))
    refine wpQuiet_nil ?_
    intro w2 hx
    have hb2 := grew_below hx
    clear hx
    have hb4 : Below w.heap.size w w2 := ((Below.refl _ _).alloc (Nat.le_refl _) _).trans (hb2.mono (by simp))
    clear hg
    obtain ⟨hcB, hfB⟩ := bcellG hb2
    clear hb2
    go_wp2
    go_ret
    exact ⟨rfl, hb4⟩

end Go.Proofs.Ytagnjhhbbjbhcaa
