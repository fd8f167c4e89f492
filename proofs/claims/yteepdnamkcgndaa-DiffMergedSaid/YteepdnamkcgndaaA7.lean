/- apply of the program. apply of the program: the errors of changes that are formed. apply of the program: errors of a known kind. apply of the program: a record is added. apply of the program: a record is taken away. apply of the program: a value is set. apply of the program: what it returns. -/
import Derived.Test.YteepdnamkcgndaaA6
namespace Go.Proofs.Yteepdnamkcgndaa
open Go.RowKit

set_option maxRecDepth 100000 in
set_option maxHeartbeats 4000000 in
theorem apply1_bad (V : List (List (List Int))) (c : Chg) (ad : Option Addr) (cap : Nat) (_S _T : Nat → Prop) (w : World) (aa : Option Addr) (ca : Nat)
    (_hV : V.length ≤ 6) (hfm : ¬ FormedC c) :
    Calls Try.prog 37 #[.slice aa V.length ca, c.val (.slice ad c.values.length cap)] w fun e w' => e = .returned (.int .i64 2) ∧ Below w.heap.size w w' := by
  have hF := formed_any c ad cap
  rw [decide_eq_false hfm] at hF
  have HF := hid hF
  clear hF hfm
  obtain ⟨k, i, f, o, nw, xs⟩ := c
  simp only [Chg.val] at HF ⊢
  have hkn : (0 ≤ k ∧ k < V.length) ∨ k < 0 ∨ (0 ≤ k ∧ ¬ k < V.length) := by omega
  rcases hkn with ⟨hk0, hk1⟩ | hk0 | ⟨hk0, hk1⟩
  all_goals
    go_enter Try.func37, Try.ntmps37
    go_wp2
    have hg := Grew.cell (w := w.alloc (.cells #[.int .i64 k, .int .i64 i, .int .i64 f, .int .i64 o, .int .i64 nw, .slice ad xs.length cap] 59))
    refine wp_region_quietG (by kernel_rfl) (by kernel_rfl) ?_
    repeat (go_big_quiet_step ((refine Calls.grew_of (HF.out _))))
    refine wpQuiet_nil ?_
    intro w2 hx
    have hb2 := grew_below hx
    clear hx
    have hb4 : Below w.heap.size w w2 := ((Below.refl _ _).alloc (Nat.le_refl _) _).trans (hb2.mono (by simp))
    clear hg
    go_wp2
    go_ret
    exact ⟨rfl, hb4⟩

end Go.Proofs.Yteepdnamkcgndaa

namespace Go.Proofs.Yteepdnamkcgndaa
open Go.RowKit

theorem bcellG {W w1 : World} (hb : Below W.heap.size W w1) : (∀ b o, b < W.heap.size → w1.cell? ⟨b, o, none⟩ = W.cell? ⟨b, o, none⟩) ∧ (∀ b o, b < W.heap.size → w1.frozen? ⟨b, o, none⟩ = W.frozen? ⟨b, o, none⟩) :=
  ⟨fun b o h => hb.cell (p := ⟨b, o, none⟩) h, fun b o h => hb.frozen (p := ⟨b, o, none⟩) h⟩

/-- The slice of a kind, and its first record. -/
theorem kind_at {V : List (List (List Int))} {T : Nat → Prop} {w : World} {aa : Option Addr} {ca : Nat} (hw : WorldV T w (.slice aa V.length ca) V) {kn : Nat} (hk : kn < V.length) :
    ∃ ak ck, w.cell? ⟨slb aa, slo aa + kn, none⟩ = some (.slice ak V[kn].length ck) ∧ slb aa < w.heap.size ∧ Slok ak V[kn].length ∧ V[kn].length ≤ ck ∧ ck ≤ 9223372036854775807 ∧ RowsV T w (.slice ak V[kn].length ck) V[kn] := by
  obtain ⟨u, h1, h2, h3⟩ := hw.at hk
  obtain ⟨a, cap, rfl, h4, h5, h6⟩ := h3.form
  exact ⟨a, cap, h1, h2, h4, h5, h6, h3⟩
theorem row_at {rows : List (List Int)} {T : Nat → Prop} {w : World} {ak : Option Addr} {ck : Nat} (hw : RowsV T w (.slice ak rows.length ck) rows) {j : Nat} (hj : j < rows.length) :
    ∃ a c, w.cell? ⟨slb ak, slo ak + j, none⟩ = some (.slice a rows[j].length c) ∧ slb ak < w.heap.size ∧ Slok a rows[j].length ∧ rows[j].length ≤ c ∧ c ≤ 9223372036854775807 ∧ IntsV T w (.slice a rows[j].length c) rows[j] := by
  obtain ⟨u, h1, h2, h3⟩ := hw.at hj
  obtain ⟨a, cap, rfl, h4, h5, h6⟩ := h3.form
  exact ⟨a, cap, h1, h2, h4, h5, h6, h3⟩

set_option maxRecDepth 100000 in
set_option maxHeartbeats 4000000 in
theorem apply1_mis (n kn : Nat) (_hV : n ≤ 6) (hk : kn < n) (i f o nw : Int) (xs : List Int) (hf : f < 0) (hfm : FormedC ⟨kn, i, f, o, nw, xs⟩) (ad : Option Addr) (cap : Nat) (_hcap : xs.length ≤ cap) (_hmax : cap ≤ 9223372036854775807) (w : World) (aa ak a0 : Option Addr) (ca ck c0 m m0 : Nat)
    (hoka : Slok aa n) (_hca : n ≤ ca) (hck : w.cell? ⟨slb aa, slo aa + kn, none⟩ = some (.slice ak m ck)) (hbk : slb aa < w.heap.size) (hokk : Slok ak m) (_hmk : m ≤ ck) (_hmax2 : ck ≤ 9223372036854775807) (hm : 0 < m)
    (hc0 : w.cell? ⟨slb ak, slo ak, none⟩ = some (.slice a0 m0 c0)) (hb0 : slb ak < w.heap.size) (_hm0 : m0 ≤ 9223372036854775807) (hne : xs.length ≠ m0) :
    Calls Try.prog 37 #[.slice aa n ca, .agg #[.int .i64 kn, .int .i64 i, .int .i64 f, .int .i64 o, .int .i64 nw, .slice ad xs.length cap]] w fun e w' => e = .returned (.int .i64 2) ∧ Below w.heap.size w w' := by
  have hF := formed_any ⟨kn, i, f, o, nw, xs⟩ ad cap
  rw [decide_eq_true hfm] at hF
  have HF := hid hF
  clear hF hfm
  simp only [Chg.val] at HF
  have d1 : decide (f < 0) = true := by simpa using hf
  have d2 : decide ((0 : Int) < (m : Int)) = true := by simpa using hm
  have d3 : ((xs.length : Int) != (m0 : Int)) = true := bneT (by omega)
  have hki : (kn : Int) < n := by omega
  have hk0 : (0 : Int) ≤ (kn : Int) := by omega
  have hmi : (0 : Int) < m := by omega
  go_enter Try.func37, Try.ntmps37
  go_wp2
  have hg := Grew.cell (w := w.alloc (.cells #[.int .i64 kn, .int .i64 i, .int .i64 f, .int .i64 o, .int .i64 nw, .slice ad xs.length cap] 59))
  refine wp_region_quietG (by kernel_rfl) (by kernel_rfl) ?_
  repeat (go_big_quiet_step ((refine Calls.grew_of (HF.out _))))
  refine wpQuiet_nil ?_
  intro w2 hx
  have hb2 := grew_below hx
  clear hx
  have hb4 : Below w.heap.size w w2 := ((Below.refl _ _).alloc (Nat.le_refl _) _).trans (hb2.mono (by simp))
  clear hg
  go_wp2
  go_ret
  exact ⟨rfl, hb4⟩

set_option maxRecDepth 100000 in
set_option maxHeartbeats 4000000 in
theorem apply1_unk (n : Nat) (k i f o nw : Int) (hk : ¬ (0 ≤ k ∧ k < n)) (xs : List Int) (hfm : FormedC ⟨k, i, f, o, nw, xs⟩) (ad : Option Addr) (cap : Nat) (w : World) (aa : Option Addr) (ca : Nat) :
    Calls Try.prog 37 #[.slice aa n ca, .agg #[.int .i64 k, .int .i64 i, .int .i64 f, .int .i64 o, .int .i64 nw, .slice ad xs.length cap]] w fun e w' => e = .returned (.int .i64 5) ∧ Below w.heap.size w w' := by
  have hF := formed_any ⟨k, i, f, o, nw, xs⟩ ad cap
  rw [decide_eq_true hfm] at hF
  have HF := hid hF
  clear hF hfm
  simp only [Chg.val] at HF
  have hkn : k < 0 ∨ (0 ≤ k ∧ ¬ k < n) := by omega
  have hfn : decide (f < 0) = true ∨ decide (f < 0) = false := by cases decide (f < 0) <;> simp
  clear hk
  rcases hkn with hk0 | ⟨hk0, hk1⟩ <;> rcases hfn with d1 | d1
  all_goals
    go_enter Try.func37, Try.ntmps37
    go_wp2
    have hg := Grew.cell (w := w.alloc (.cells #[.int .i64 k, .int .i64 i, .int .i64 f, .int .i64 o, .int .i64 nw, .slice ad xs.length cap] 59))
    refine wp_region_quietG (by kernel_rfl) (by kernel_rfl) ?_
    repeat (go_big_quiet_step ((refine Calls.grew_of (HF.out _))))
    refine wpQuiet_nil ?_
    intro w2 hx
    have hb2 := grew_below hx
    clear hx
    have hb4 : Below w.heap.size w w2 := ((Below.refl _ _).alloc (Nat.le_refl _) _).trans (hb2.mono (by simp))
    clear hg
    go_wp2
    go_ret
    exact ⟨rfl, hb4⟩

/-- Known, add: at a wrong place. -/
theorem apply1_tmp : True := trivial

set_option maxRecDepth 100000 in
set_option maxHeartbeats 4000000 in
theorem apply1_add5 (n kn : Nat) (_hV : n ≤ 6) (hk : kn < n) (i o nw : Int) (xs : List Int) (hfm : FormedC ⟨kn, i, -1, o, nw, xs⟩) (ad : Option Addr) (cap : Nat) (_hcap : xs.length ≤ cap) (_hmax : cap ≤ 9223372036854775807) (w : World) (aa ak a0 : Option Addr) (ca ck c0 m m0 : Nat)
    (hoka : Slok aa n) (_hca : n ≤ ca) (hck : w.cell? ⟨slb aa, slo aa + kn, none⟩ = some (.slice ak m ck)) (hbk : slb aa < w.heap.size) (hokk : Slok ak m) (hmk : m ≤ ck) (_hmax2 : ck ≤ 9223372036854775807)
    (hm : m = 0 ∨ (0 < m ∧ w.cell? ⟨slb ak, slo ak, none⟩ = some (.slice a0 m0 c0) ∧ slb ak < w.heap.size ∧ m0 ≤ 9223372036854775807 ∧ xs.length = m0)) (hi : i ≠ m) :
    Calls Try.prog 37 #[.slice aa n ca, .agg #[.int .i64 kn, .int .i64 i, .int .i64 (-1), .int .i64 o, .int .i64 nw, .slice ad xs.length cap]] w fun e w' => e = .returned (.int .i64 5) ∧ Below w.heap.size w w' := by
  have hF := formed_any ⟨kn, i, -1, o, nw, xs⟩ ad cap
  rw [decide_eq_true hfm] at hF
  have HF := hid hF
  clear hF hfm
  simp only [Chg.val] at HF
  have hki : (kn : Int) < n := by omega
  have hk0 : (0 : Int) ≤ (kn : Int) := by omega
  have d4 : (i != (m : Int)) = true := bneT hi
  rcases hm with rfl | ⟨hm, hc0, hb0, hm0, rfl⟩
  all_goals
    try
      have d2 : decide ((0 : Int) < (m : Int)) = true := by simpa using hm
      have d3 : ((xs.length : Int) != (xs.length : Int)) = false := bneF rfl
      have hmi : (0 : Int) < m := by omega
    go_enter Try.func37, Try.ntmps37
    go_wp2
    have hg := Grew.cell (w := w.alloc (.cells #[.int .i64 kn, .int .i64 i, .int .i64 (-1), .int .i64 o, .int .i64 nw, .slice ad xs.length cap] 59))
    refine wp_region_quietG (by kernel_rfl) (by kernel_rfl) ?_
    repeat (go_big_quiet_step ((refine Calls.grew_of (HF.out _))))
    refine wpQuiet_nil ?_
    intro w2 hx
    have hb2 := grew_below hx
    clear hx
    have hb4 : Below w.heap.size w w2 := ((Below.refl _ _).alloc (Nat.le_refl _) _).trans (hb2.mono (by simp))
    clear hg
    obtain ⟨hcB, hfB⟩ := bcellG hb2
    clear hb2
    go_wp2
    go_ret
    exact ⟨rfl, hb4⟩

end Go.Proofs.Yteepdnamkcgndaa

namespace Go.Proofs.Yteepdnamkcgndaa
open Go.RowKit

set_option maxRecDepth 100000 in
set_option maxHeartbeats 4000000 in
theorem apply1_take5 (n kn : Nat) (_hV : n ≤ 6) (hk : kn < n) (i : Int) (o nw : Int) (xs : List Int) (hfm : FormedC ⟨kn, i, (-2), o, nw, xs⟩) (ad : Option Addr) (cap : Nat) (_hcap : xs.length ≤ cap) (_hmax : cap ≤ 9223372036854775807) (w : World) (aa ak a0 : Option Addr) (ca ck c0 m m0 : Nat)
    (hoka : Slok aa n) (_hca : n ≤ ca) (hck : w.cell? ⟨slb aa, slo aa + kn, none⟩ = some (.slice ak m ck)) (hbk : slb aa < w.heap.size) (hokk : Slok ak m) (hmk : m ≤ ck) (hmax2 : ck ≤ 9223372036854775807)
    (hm : m = 0 ∨ (0 < m ∧ w.cell? ⟨slb ak, slo ak, none⟩ = some (.slice a0 m0 c0) ∧ slb ak < w.heap.size ∧ m0 ≤ 9223372036854775807 ∧ xs.length = m0 ∧ i ≠ (m : Int) - 1)) :
    Calls Try.prog 37 #[.slice aa n ca, .agg #[.int .i64 kn, .int .i64 i, .int .i64 (-2), .int .i64 o, .int .i64 nw, .slice ad xs.length cap]] w fun e w' => e = .returned (.int .i64 5) ∧ Below w.heap.size w w' := by
  have hF := formed_any ⟨kn, i, (-2), o, nw, xs⟩ ad cap
  rw [decide_eq_true hfm] at hF
  have HF := hid hF
  clear hF hfm
  simp only [Chg.val] at HF
  have hki : (kn : Int) < n := by omega
  have hk0 : (0 : Int) ≤ (kn : Int) := by omega
  rcases hm with rfl | ⟨hm, hc0, hb0, hm0, rfl, hi⟩
  all_goals
    try
      have d2 : decide ((0 : Int) < (m : Int)) = true := by simpa using hm
      have d3 : ((xs.length : Int) != (xs.length : Int)) = false := bneF rfl
      have hmi : (0 : Int) < m := by omega
    try
      have d4 : (i != (m : Int) - 1) = true := bneT hi
      have d5 : ((m : Int) == 0) = false := beqF (by omega)
    go_enter Try.func37, Try.ntmps37
    go_wp2
    have hg := Grew.cell (w := w.alloc (.cells #[.int .i64 kn, .int .i64 i, .int .i64 (-2), .int .i64 o, .int .i64 nw, .slice ad xs.length cap] 59))
    refine wp_region_quietG (by kernel_rfl) (by kernel_rfl) ?_
    repeat (go_big_quiet_step ((refine Calls.grew_of (HF.out _))))
    refine wpQuiet_nil ?_
    intro w2 hx
    have hb2 := grew_below hx
    clear hx
    have hb4 : Below w.heap.size w w2 := ((Below.refl _ _).alloc (Nat.le_refl _) _).trans (hb2.mono (by simp))
    clear hg
    obtain ⟨hcB, hfB⟩ := bcellG hb2
    clear hb2
    go_wp2
    go_ret
    exact ⟨rfl, hb4⟩

set_option maxRecDepth 100000 in
set_option maxHeartbeats 4000000 in
theorem apply1_take16 (n kn : Nat) (_hV : n ≤ 6) (hk : kn < n) (p : Nat) (o nw : Int) (xs : List Int) (hfm : FormedC ⟨kn, p, (-2), o, nw, xs⟩) (ad : Option Addr) (cap : Nat) (_hcap : xs.length ≤ cap) (_hmax : cap ≤ 9223372036854775807) (w : World) (aa ak a0 : Option Addr) (ca ck c0 m m0 : Nat)
    (hoka : Slok aa n) (_hca : n ≤ ca) (hck : w.cell? ⟨slb aa, slo aa + kn, none⟩ = some (.slice ak m ck)) (hbk : slb aa < w.heap.size) (hokk : Slok ak m) (hmk : m ≤ ck) (hmax2 : ck ≤ 9223372036854775807)
    (hpm : m = p + 1) (hr0 : w.cell? ⟨slb ak, slo ak, none⟩ = some (.slice a0 m0 c0) ∧ slb ak < w.heap.size ∧ m0 ≤ 9223372036854775807 ∧ xs.length = m0) (T T' : Nat → Prop) (ys : List Int) (ap : Option Addr) (cp : Nat) (hcp : w.cell? ⟨slb ak, slo ak + p, none⟩ = some (.slice ap ys.length cp)) (hys : IntsV T w (.slice ap ys.length cp) ys) (hxs : IntsV T' w (.slice ad xs.length cap) xs) (hne : ys ≠ xs) :
    Calls Try.prog 37 #[.slice aa n ca, .agg #[.int .i64 kn, .int .i64 p, .int .i64 (-2), .int .i64 o, .int .i64 nw, .slice ad xs.length cap]] w fun e w' => e = .returned (.int .i64 16) ∧ Below w.heap.size w w' := by
  have hF := formed_any ⟨kn, p, (-2), o, nw, xs⟩ ad cap
  rw [decide_eq_true hfm] at hF
  have HF := hid hF
  clear hF hfm
  simp only [Chg.val] at HF
  have hki : (kn : Int) < n := by omega
  have hk0 : (0 : Int) ≤ (kn : Int) := by omega
  obtain ⟨hc0, hb0, hm0, rfl⟩ := hr0
  subst hpm
  have d2 : decide ((0 : Int) < ((p + 1 : Nat) : Int)) = true := decide_eq_true (by omega)
  have d2' : (0 : Int) < (p : Int) + 1 := by omega
  have d3 : ((xs.length : Int) != (xs.length : Int)) = false := bneF rfl
  have d5 : (((p + 1 : Nat) : Int) == 0) = false := beqF (by omega)
  have d5' : ((p : Int) + 1 == 0) = false := beqF (by omega)
  have g1 : (0 : Int) ≤ p := by omega
  have g2 : (p : Int) < ((p + 1 : Nat) : Int) := by omega
  have g3 : (p : Int) < (p : Int) + 1 := by omega
  have HE := fun W => hid (equal_any ys xs (.slice ap ys.length cp) (.slice ad xs.length cap) T T' W)
  rw [decide_eq_false hne] at HE
  go_enter Try.func37, Try.ntmps37
  go_wp2
  have hg := Grew.cell (w := w.alloc (.cells #[.int .i64 kn, .int .i64 p, .int .i64 (-2), .int .i64 o, .int .i64 nw, .slice ad xs.length cap] 59))
  refine wp_region_quietG (by kernel_rfl) (by kernel_rfl) ?_
  repeat (go_big_quiet_step ((refine Calls.grew_of (HF.out _))))
  refine wpQuiet_nil ?_
  intro w2 hx
  have hb2 := grew_below hx
  clear hx
  have hb4 : Below w.heap.size w w2 := ((Below.refl _ _).alloc (Nat.le_refl _) _).trans (hb2.mono (by simp))
  clear hg
  obtain ⟨hcB, hfB⟩ := bcellG hb2
  clear hb2
  have hys2 : ∀ q, IntsV T (w2.drewN q) (.slice ap ys.length cp) ys := fun q => hys.keep (KeepS.below (below_drewN hb4 q))
  have hxs2 : ∀ q, IntsV T' (w2.drewN q) (.slice ad xs.length cap) xs := fun q => hxs.keep (KeepS.below (below_drewN hb4 q))
  have hys3 := hid hys2
  have hxs3 := hid hxs2
  clear hys2 hxs2 hys hxs
  go_wp2
  go_quiet ((refine Calls.quiet_of ((HE _).out (hys3.out _) (hxs3.out _))))
  go_wp2
  go_ret
  exact ⟨rfl, below_drewN hb4 _⟩

set_option maxRecDepth 100000 in
set_option maxHeartbeats 4000000 in
theorem apply1_set5 (n kn : Nat) (_hV : n ≤ 6) (hk : kn < n) (i f : Int) (o nw : Int) (xs : List Int) (hfm : FormedC ⟨kn, i, f, o, nw, xs⟩) (ad : Option Addr) (cap : Nat) (_hcap : xs.length ≤ cap) (_hmax : cap ≤ 9223372036854775807) (w : World) (aa ak a0 : Option Addr) (ca ck c0 m m0 : Nat)
    (hoka : Slok aa n) (_hca : n ≤ ca) (hck : w.cell? ⟨slb aa, slo aa + kn, none⟩ = some (.slice ak m ck)) (hbk : slb aa < w.heap.size) (hokk : Slok ak m) (_hmk : m ≤ ck) (_hmax2 : ck ≤ 9223372036854775807)
    (hf : 0 ≤ f) (hi : i < 0 ∨ (0 ≤ i ∧ (m : Int) ≤ i) ∨ (0 ≤ i ∧ i < m ∧ w.cell? ⟨slb ak, slo ak, none⟩ = some (.slice a0 m0 c0) ∧ slb ak < w.heap.size ∧ m0 ≤ 9223372036854775807 ∧ (m0 : Int) ≤ f)) :
    Calls Try.prog 37 #[.slice aa n ca, .agg #[.int .i64 kn, .int .i64 i, .int .i64 f, .int .i64 o, .int .i64 nw, .slice ad xs.length cap]] w fun e w' => e = .returned (.int .i64 5) ∧ Below w.heap.size w w' := by
  have hF := formed_any ⟨kn, i, f, o, nw, xs⟩ ad cap
  rw [decide_eq_true hfm] at hF
  have HF := hid hF
  clear hF hfm
  simp only [Chg.val] at HF
  have hki : (kn : Int) < n := by omega
  have hk0 : (0 : Int) ≤ (kn : Int) := by omega
  have d1 : decide (f < 0) = false := decide_eq_false (by omega)
  have e1 : (f == -1) = false := beqF (by omega)
  have e2 : (f == -2) = false := beqF (by omega)
  rcases hi with hi | ⟨hi, hi2⟩ | ⟨hi, hi2, hc0, hb0, hm0, hfm0⟩
  all_goals
    have d4 : decide (i < 0) = true ∨ decide (i < 0) = false := by cases decide (i < 0) <;> simp
    first
      | have d5 : decide (i < 0) = true := decide_eq_true hi
      | have d5 : decide (i < 0) = false := decide_eq_false (by omega)
    clear d4
    try
      have d6 : decide ((m : Int) ≤ i) = true := decide_eq_true hi2
    try
      have d6 : decide ((m : Int) ≤ i) = false := decide_eq_false (by omega)
      have d7 : decide ((m0 : Int) ≤ f) = true := decide_eq_true hfm0
      have d8 : (0 : Int) < m := by omega
      have d9 : 0 < m := by omega
    go_enter Try.func37, Try.ntmps37
    go_wp2
    have hg := Grew.cell (w := w.alloc (.cells #[.int .i64 kn, .int .i64 i, .int .i64 f, .int .i64 o, .int .i64 nw, .slice ad xs.length cap] 59))
    refine wp_region_quietG (by kernel_rfl) (by kernel_rfl) ?_
    repeat (go_big_quiet_step ((refine Calls.grew_of (HF.out _))))
    refine wpQuiet_nil ?_
    intro w2 hx
    have hb2 := grew_below hx
    clear hx
    have hb4 : Below w.heap.size w w2 := ((Below.refl _ _).alloc (Nat.le_refl _) _).trans (hb2.mono (by simp))
    clear hg
    obtain ⟨hcB, hfB⟩ := bcellG hb2
    clear hb2
    go_wp2
    go_quiet (fail)
    go_wp2
    go_ret
    exact ⟨rfl, below_drewN hb4 _⟩

set_option maxRecDepth 100000 in
set_option maxHeartbeats 4000000 in
theorem apply1_set16 (n kn : Nat) (_hV : n ≤ 6) (hk : kn < n) (p fn : Nat) (o nw : Int) (xs : List Int) (hfm : FormedC ⟨kn, p, fn, o, nw, xs⟩) (ad : Option Addr) (cap : Nat) (_hcap : xs.length ≤ cap) (_hmax : cap ≤ 9223372036854775807) (w : World) (aa ak a0 : Option Addr) (ca ck c0 m m0 : Nat)
    (hoka : Slok aa n) (_hca : n ≤ ca) (hck : w.cell? ⟨slb aa, slo aa + kn, none⟩ = some (.slice ak m ck)) (hbk : slb aa < w.heap.size) (hokk : Slok ak m) (_hmk : m ≤ ck) (_hmax2 : ck ≤ 9223372036854775807)
    (hp : p < m) (hr0 : w.cell? ⟨slb ak, slo ak, none⟩ = some (.slice a0 m0 c0) ∧ slb ak < w.heap.size ∧ m0 ≤ 9223372036854775807 ∧ fn < m0) (ap : Option Addr) (cp mp : Nat) (hcp : w.cell? ⟨slb ak, slo ak + p, none⟩ = some (.slice ap mp cp)) (hokp : Slok ap mp) (hmp : fn < mp) (hbp : slb ap < w.heap.size) (v : Int) (hcv : w.cell? ⟨slb ap, slo ap + fn, none⟩ = some (.int .i64 v)) (hne : v ≠ o) :
    Calls Try.prog 37 #[.slice aa n ca, .agg #[.int .i64 kn, .int .i64 p, .int .i64 fn, .int .i64 o, .int .i64 nw, .slice ad xs.length cap]] w fun e w' => e = .returned (.int .i64 16) ∧ Below w.heap.size w w' := by
  have hF := formed_any ⟨kn, p, fn, o, nw, xs⟩ ad cap
  rw [decide_eq_true hfm] at hF
  have HF := hid hF
  clear hF hfm
  simp only [Chg.val] at HF
  have hki : (kn : Int) < n := by omega
  have hk0 : (0 : Int) ≤ (kn : Int) := by omega
  obtain ⟨hc0, hb0, hm0, hf0⟩ := hr0
  have d1 : decide ((fn : Int) < 0) = false := decide_eq_false (by omega)
  have e1 : ((fn : Int) == -1) = false := beqF (by omega)
  have e2 : ((fn : Int) == -2) = false := beqF (by omega)
  have d5 : decide ((p : Int) < 0) = false := decide_eq_false (by omega)
  have d6 : decide ((m : Int) ≤ (p : Int)) = false := decide_eq_false (by omega)
  have d7 : decide ((m0 : Int) ≤ (fn : Int)) = false := decide_eq_false (by omega)
  have d6' : decide (m ≤ p) = false := decide_eq_false (by omega)
  have d7' : decide (m0 ≤ fn) = false := decide_eq_false (by omega)
  have d8 : (0 : Int) < m := by omega
  have d9 : 0 < m := by omega
  have d10 : (v != o) = true := bneT hne
  have g1 : (0 : Int) ≤ p := by omega
  have g2 : (p : Int) < m := by omega
  have g3 : (0 : Int) ≤ fn := by omega
  have g4 : (fn : Int) < mp := by omega
  go_enter Try.func37, Try.ntmps37
  go_wp2
  have hg := Grew.cell (w := w.alloc (.cells #[.int .i64 kn, .int .i64 p, .int .i64 fn, .int .i64 o, .int .i64 nw, .slice ad xs.length cap] 59))
  refine wp_region_quietG (by kernel_rfl) (by kernel_rfl) ?_
  repeat (go_big_quiet_step ((refine Calls.grew_of (HF.out _))))
  refine wpQuiet_nil ?_
  intro w2 hx
  have hb2 := grew_below hx
  clear hx
  have hb4 : Below w.heap.size w w2 := ((Below.refl _ _).alloc (Nat.le_refl _) _).trans (hb2.mono (by simp))
  clear hg
  obtain ⟨hcB, hfB⟩ := bcellG hb2
  clear hb2
  go_wp2
  go_quiet (fail)
  go_wp2
  go_quiet (fail)
  go_wp2
  go_ret
  exact ⟨rfl, by rw [World.drewN_drewN]; exact below_drewN hb4 _⟩

end Go.Proofs.Yteepdnamkcgndaa

namespace Go.Proofs.Yteepdnamkcgndaa
open Go.RowKit

set_option maxRecDepth 100000 in
set_option maxHeartbeats 4000000 in
theorem apply1_add (V : List (List (List Int))) (S T' : Nat → Prop) (w : World) (aa : Option Addr) (ca : Nat) (hw : WorldF S w (.slice aa V.length ca) V) (kn : Nat) (hk : kn < V.length) (_hV : V.length ≤ 6) (o nw : Int) (xs : List Int) (ad : Option Addr) (cap : Nat)
    (hu : IntsV T' w (.slice ad xs.length cap) xs) (hxl : xs.length ≤ 100000) (hrl : V[kn].length ≤ 100000) (hfm : FormedC ⟨kn, V[kn].length, -1, o, nw, xs⟩) (hmm : V[kn].length = 0 ∨ xs.length = (V[kn].headD []).length) :
    Calls Try.prog 37 #[.slice aa V.length ca, .agg #[.int .i64 kn, .int .i64 V[kn].length, .int .i64 (-1), .int .i64 o, .int .i64 nw, .slice ad xs.length cap]] w fun e w' => e = .returned (.int .i64 0) ∧ Turns S w w' ∧ WorldF (Grow S w.heap.size) w' (.slice aa V.length ca) (V.set kn (V[kn] ++ [xs])) := by
  obtain ⟨aa', ca', ea, hoka, hcapa, hmaxa⟩ := hw.sl.form
  cases ea
  obtain ⟨ax, cx, ex, hokx, hcapx, hmaxx⟩ := hu.form
  cases ex
  obtain ⟨ak, ck, hck, hbk, hokk, hmk, hmax2, hrV⟩ := kind_at hw.sl hk
  obtain ⟨g, capg, u, T, e1, e2, e3, hSg, hcg, hfg, hRg, hT, -, hback⟩ := OwnF.borrow steady_rowsF hw kn hk
  have hF := formed_any ⟨kn, V[kn].length, -1, o, nw, xs⟩ ad cap
  rw [decide_eq_true hfm] at hF
  have HF := hid hF
  clear hF hfm
  simp only [Chg.val] at HF
  have hki : (kn : Int) < V.length := by omega
  have hk0 : (0 : Int) ≤ (kn : Int) := by omega
  have hm : V[kn].length = 0 ∨ ∃ a0 c0, 0 < V[kn].length ∧ w.cell? ⟨slb ak, slo ak, none⟩ = some (.slice a0 xs.length c0) ∧ slb ak < w.heap.size := by
    rcases Nat.eq_zero_or_pos V[kn].length with h0 | h0
    · exact .inl h0
    · obtain ⟨a0, c0, h1, h2, _⟩ := row_at hrV h0
      refine .inr ⟨a0, c0, h0, ?_, h2⟩
      rcases hmm with h | h
      · omega
      · rw [h, headD_eq [] h0]; simpa using h1
  cases e1
  simp only [slb_some, slo_some, Nat.zero_add] at hck hbk
  have eu : u = .slice ak V[kn].length ck := by rw [hck] at hcg; exact (Option.some.inj hcg).symm
  subst eu
  clear hcg hmm hrV
  have HR := hid hRg
  have HB := hid hback
  have HU := hid hu
  have HT := hid hT
  have HS := hid hSg
  clear hRg hback hu hT hw hSg
  generalize V[kn] = rows at *
  generalize V.length = n at *
  generalize hmr : rows.length = m at *
  have HM := hid hmr
  clear hmr
  rcases hm with hm | ⟨a0, c0, hm, hc0, hb0⟩
  all_goals
    first
      | have d2 : decide ((0 : Int) < (m : Int)) = false := decide_eq_false (by omega)
        have d2' : decide (0 < m) = false := decide_eq_false (by omega)
        clear hm
      | have d2 : decide ((0 : Int) < (m : Int)) = true := by simpa using hm
        have d3 : ((xs.length : Int) != (xs.length : Int)) = false := bneF rfl
        have hmi : (0 : Int) < m := by omega
    go_enter Try.func37, Try.ntmps37
    go_wp2
    have hg := Grew.cell (w := w.alloc (.cells #[.int .i64 kn, .int .i64 m, .int .i64 (-1), .int .i64 o, .int .i64 nw, .slice ad xs.length cap] 59))
    refine wp_region_quietG (by kernel_rfl) (by kernel_rfl) ?_
    repeat (go_big_quiet_step ((refine Calls.grew_of (HF.out _))))
    refine wpQuiet_nil ?_
    intro w2 hx
    have hb2 := grew_below hx
    clear hx
    have hb4 : Below w.heap.size w w2 := ((Below.refl _ _).alloc (Nat.le_refl _) _).trans (hb2.mono (by simp))
    clear hg
    obtain ⟨hcB, hfB⟩ := bcellG hb2
    have hs2 : w.heap.size < w2.heap.size := by have := hb2.size; simp at this; omega
    clear hb2
    go_wp2
    have hh0 : w2.cell? ⟨w.heap.size, 0, none⟩ = some (.int .i64 kn) := by rw [hcB _ _ (by simp)]; simp [World.cell?_alloc_new]
    have hh5 : w2.cell? ⟨w.heap.size, 5, none⟩ = some (.slice ad xs.length cap) := by rw [hcB _ _ (by simp)]; simp [World.cell?_alloc_new]
    refine wp_region_held 9 [(true, 0), (true, 1), (true, 2), (true, 3), (true, 4), (true, 5), (false, 6), (false, 7), (false, 8)]
      (fun W => W.cell? ⟨w.heap.size, 0, none⟩ = some (.int .i64 kn) ∧ W.cell? ⟨w.heap.size, 5, none⟩ = some (.slice ad xs.length cap)) (by kernel_rfl) (by kernel_rfl) ⟨hh0, hh5⟩ ?_
    intro hne
    refine wpSteps_pre 6 (by decide) ?_
    simp only [List.take_succ_cons, List.take_zero]
    have hx0 : ∀ x : Held (fun W => W.cell? ⟨w.heap.size, 0, none⟩ = some (.int .i64 kn) ∧ W.cell? ⟨w.heap.size, 5, none⟩ = some (.slice ad xs.length cap)), x.1.cell? ⟨w.heap.size, 0, none⟩ = some (.int .i64 kn) := fun x => x.2.1
    have hx5 : ∀ x : Held (fun W => W.cell? ⟨w.heap.size, 0, none⟩ = some (.int .i64 kn) ∧ W.cell? ⟨w.heap.size, 5, none⟩ = some (.slice ad xs.length cap)), x.1.cell? ⟨w.heap.size, 5, none⟩ = some (.slice ad xs.length cap) := fun x => x.2.2
    repeat (go_big_quiet_step (fail))
    refine wpQuiet_nil ?_
    refine wpSteps_one rfl ?_
    clear hx0 hx5 hne
    go_wp2_with fail
    refine (clone_any xs hxl _ T' _ (HU.out.keep (KeepS.below (below_drewN hb4 1)))).mono ?_
    rintro e w3 ⟨x, rfl, hI, hb3⟩
    have hs3 : w2.heap.size ≤ w3.heap.size := by have := hb3.size; simpa using this
    have hb5 : Below w.heap.size w w3 := (below_drewN hb4 1).trans (hb3.mono (by simp; omega))
    have hc30 : w3.cell? ⟨w.heap.size, 0, none⟩ = some (.int .i64 kn) := cell_later hb3 hh0
    have hc35 : w3.cell? ⟨w.heap.size, 5, none⟩ = some (.slice ad xs.length cap) := cell_later hb3 hh5
    have hsl := hI.sl
    obtain ⟨av, cv, rfl, -, -, -⟩ := hsl.form
    have HI : Hid (IntsF (fun b => w.heap.size ≤ b) w3 (.slice av xs.length cv) xs) := hid (steady_intsF.mono hI (fun b _ hb => by have : w2.heap.size ≤ b := hb; omega))
    clear hsl hI hcB hfB hh0 hh5 hb3
    go_wp2
    refine qn_mk ⟨InHeld.of ⟨hc30, hc35⟩, ?_⟩
    refine wpSteps_one rfl ?_
    go_wp2
    have hc40 : (w3.alloc (.cells #[.slice av xs.length cv] 22)).cell? ⟨w.heap.size, 0, none⟩ = some (.int .i64 kn) := by rw [World.cell?_alloc_lt _ _ _ (by simp; omega)]; exact hc30
    have hc45 : (w3.alloc (.cells #[.slice av xs.length cv] 22)).cell? ⟨w.heap.size, 5, none⟩ = some (.slice ad xs.length cap) := by rw [World.cell?_alloc_lt _ _ _ (by simp; omega)]; exact hc35
    refine qn_mk ⟨InHeld.of ⟨hc40, hc45⟩, ?_⟩
    clear hc40 hc45
    refine wpSteps_one rfl ?_
    go_wp2_with (at_builtin; go_must (refine wpList_appF1 steady_intsF rfl _ _ rfl Try.app63 rfl HR.out hb5 rfl xs HI.out rfl (by have := HM.out; omega) ?_))
    intro v' w4 hR4 ht4
    obtain ⟨av', lv', cv', rfl⟩ : ∃ a l c, v' = .slice a l c := by obtain ⟨a, c, e, _⟩ := (RowsF.sl hR4).form; exact ⟨_, _, _, e⟩
    have hne : some w.heap.size ≠ (Value.slice ak m ck).ownBlock := fun e => by have := (HT.out _ (HR.out.1 _ e.symm)).2.2; omega
    have hc40 : w4.cell? ⟨w.heap.size, 0, none⟩ = some (.int .i64 kn) := by
      rw [World.cell?_of_block (w := w3) (a := ⟨w.heap.size, 0, none⟩) (ht4.block _ hne (by show w.heap.size < w3.heap.size; omega))]; exact hc30
    have hc45 : w4.cell? ⟨w.heap.size, 5, none⟩ = some (.slice ad xs.length cap) := by
      rw [World.cell?_of_block (w := w3) (a := ⟨w.heap.size, 5, none⟩) (ht4.block _ hne (by show w.heap.size < w3.heap.size; omega))]; exact hc35
    have htT : Turns T w w4 := (Turns.of_below hb5).trans (ht4.mono fun b _ hb => HR.out.1 b hb.symm)
    obtain ⟨k1, k2, k3, k4⟩ := HB.out w4 _ (rows ++ [xs]) htT hR4
    have K3 := hid k3
    have K4 := hid k4
    clear k3 k4 hR4 ht4 hne HI htT
    go_wp2
    refine qn_mk ⟨InHeld.of ⟨hc40, hc45⟩, ?_⟩
    refine wpSteps_done ?_
    clear hck hc30 hc35
    go_wp2
    go_ret
    exact ⟨rfl, K4.out.mono (fun b _ hb => by rcases hb with hb | hb; exact (HT.out b hb).1; rw [hb]; exact HS.out), K3.out⟩

end Go.Proofs.Yteepdnamkcgndaa

namespace Go.Proofs.Yteepdnamkcgndaa
open Go.RowKit

theorem OwnF.take {α : Type} {RR : (Nat → Prop) → World → Value → α → Prop} {e : TypeId} {S : Nat → Prop} {w : World} {a : Option Addr} {n cap : Nat} {xs : List α} (h : OwnF RR e S w (.slice a n cap) xs) {p : Nat} (hp : p < xs.length) :
    OwnF RR e S w (.slice a p cap) (xs.take p) := by
  obtain ⟨h1, us, Z, h2, h3, h4⟩ := h
  have hob : (Value.slice a p cap).ownBlock = (Value.slice a n cap).ownBlock := by cases a <;> rfl
  refine ⟨fun b hb => h1 b (by rw [← hob]; exact hb), us.take p, Z, ?_, by simp [h3], fun j g1 g2 => ?_⟩
  · obtain ⟨k1, k2⟩ := h2
    refine ⟨by simp at k1 ⊢; omega, ?_⟩
    rcases k2 with ⟨k2, k3⟩ | ⟨g, cap', cur, hv, hb, hg, hn, hc, hs, ht⟩
    · omega
    · cases hv
      refine .inr ⟨g, cap, cur, by congr 1; simp; omega, hb, hg, by simp; omega, hc, hs, ?_⟩
      simp only [Nat.mul_one] at ht ⊢
      rw [← ht, List.take_take, List.length_take]
  · simp only [List.getElem_take]
    rw [hob]
    exact h4 j (by simp at g1; omega) (by simp at g2; omega)

set_option maxRecDepth 100000 in
set_option maxHeartbeats 4000000 in
theorem apply1_take (V : List (List (List Int))) (S T' : Nat → Prop) (w : World) (aa : Option Addr) (ca : Nat) (hw : WorldF S w (.slice aa V.length ca) V) (kn : Nat) (hk : kn < V.length) (_hV : V.length ≤ 6) (o nw : Int) (xs : List Int) (ad : Option Addr) (cap : Nat)
    (hu : IntsV T' w (.slice ad xs.length cap) xs) (_hxl : xs.length ≤ 100000) (hrl : V[kn].length ≤ 100000) (p : Nat) (hpm : V[kn].length = p + 1) (hfm : FormedC ⟨kn, p, -2, o, nw, xs⟩) (hmm : xs.length = (V[kn].headD []).length) (hlast : V[kn].getD p [] = xs) :
    Calls Try.prog 37 #[.slice aa V.length ca, .agg #[.int .i64 kn, .int .i64 p, .int .i64 (-2), .int .i64 o, .int .i64 nw, .slice ad xs.length cap]] w fun e w' => e = .returned (.int .i64 0) ∧ Turns S w w' ∧ WorldF (Grow S w.heap.size) w' (.slice aa V.length ca) (V.set kn (V[kn].take p)) := by
  obtain ⟨aa', ca', ea, hoka, hcapa, hmaxa⟩ := hw.sl.form
  cases ea
  obtain ⟨ax, cx, ex, hokx, hcapx, hmaxx⟩ := hu.form
  cases ex
  obtain ⟨ak, ck, hck, hbk, hokk, hmk, hmax2, hrV⟩ := kind_at hw.sl hk
  obtain ⟨g, capg, u, T, e1, e2, e3, hSg, hcg, hfg, hRg, hT, -, hback⟩ := OwnF.borrow steady_rowsF hw kn hk
  have hF := formed_any ⟨kn, p, -2, o, nw, xs⟩ ad cap
  rw [decide_eq_true hfm] at hF
  have HF := hid hF
  clear hF hfm
  simp only [Chg.val] at HF
  have hki : (kn : Int) < V.length := by omega
  have hk0 : (0 : Int) ≤ (kn : Int) := by omega
  obtain ⟨a0, c0, hc0, hb0⟩ : ∃ a0 c0, w.cell? ⟨slb ak, slo ak, none⟩ = some (.slice a0 xs.length c0) ∧ slb ak < w.heap.size := by
    obtain ⟨a0, c0, h1, h2, _⟩ := row_at hrV (show 0 < V[kn].length by omega)
    refine ⟨a0, c0, ?_, h2⟩
    rw [hmm, headD_eq [] (show 0 < V[kn].length by omega)]; simpa using h1
  obtain ⟨ap, cp, hcp, -, -, -, -, hys⟩ := row_at hrV (show p < V[kn].length by omega)
  have hyx : V[kn][p]'(by omega) = xs := by rw [← hlast, getD_eq (show p < V[kn].length by omega)]
  rw [hyx] at hcp hys
  cases e1
  simp only [slb_some, slo_some, Nat.zero_add] at hck hbk
  have eu : u = .slice ak V[kn].length ck := by rw [hck] at hcg; exact (Option.some.inj hcg).symm
  subst eu
  clear hcg hmm hrV hlast hyx
  have hR2 := (steady_rowsF.mono (S' := Grow T w.heap.size) hRg (fun b hb h => .inl ⟨h, hb⟩)).take (show p < V[kn].length by omega)
  have HR := hid hR2
  have HB := hid (fun w2 u' => hback w2 u' (V[kn].take p))
  have HT := hid hT
  have HS := hid hSg
  have HE := fun W => hid (equal_any xs xs (.slice ap xs.length cp) (.slice ad xs.length cap) S T' W)
  rw [decide_eq_true (rfl : xs = xs)] at HE
  clear hRg hR2 hback hT hw hSg
  generalize V[kn].take p = rows at *
  generalize V[kn].length = m at *
  generalize V.length = n at *
  subst hpm
  have d2 : decide ((0 : Int) < ((p + 1 : Nat) : Int)) = true := decide_eq_true (by omega)
  have d2' : (0 : Int) < (p : Int) + 1 := by omega
  have d3 : ((xs.length : Int) != (xs.length : Int)) = false := bneF rfl
  have d5 : (((p + 1 : Nat) : Int) == 0) = false := beqF (by omega)
  have d5' : ((p : Int) + 1 == 0) = false := beqF (by omega)
  have g1 : (0 : Int) ≤ p := by omega
  have g2 : (p : Int) < ((p + 1 : Nat) : Int) := by omega
  have g3 : (p : Int) < (p : Int) + 1 := by omega
  have HY := hid hys
  have HU := hid hu
  clear hys hu
  go_enter Try.func37, Try.ntmps37
  go_wp2
  have hg := Grew.cell (w := w.alloc (.cells #[.int .i64 kn, .int .i64 p, .int .i64 (-2), .int .i64 o, .int .i64 nw, .slice ad xs.length cap] 59))
  refine wp_region_quietG (by kernel_rfl) (by kernel_rfl) ?_
  repeat (go_big_quiet_step ((refine Calls.grew_of (HF.out _))))
  refine wpQuiet_nil ?_
  intro w2 hx
  have hb2 := grew_below hx
  clear hx
  have hb4 : Below w.heap.size w w2 := ((Below.refl _ _).alloc (Nat.le_refl _) _).trans (hb2.mono (by simp))
  clear hg
  obtain ⟨hcB, hfB⟩ := bcellG hb2
  have hys2 : ∀ q, IntsV S (w2.drewN q) (.slice ap xs.length cp) xs := fun q => HY.out.keep (KeepS.below (below_drewN hb4 q))
  have hxs2 : ∀ q, IntsV T' (w2.drewN q) (.slice ad xs.length cap) xs := fun q => HU.out.keep (KeepS.below (below_drewN hb4 q))
  have hys3 := hid hys2
  have hxs3 := hid hxs2
  clear hys2 hxs2 hb2
  go_wp2
  go_quiet ((refine Calls.quiet_of ((HE _).out (hys3.out _) (hxs3.out _))))
  go_wp2
  refine wp_region_quiet_tail 7 (by kernel_rfl) (by kernel_rfl) ?_
  simp only [List.take_succ_cons, List.take_zero, List.drop_succ_cons, List.drop_zero]
  repeat (go_big_quiet_step (fail))
  refine wpQuiet_nil ?_
  have ht : Turns T w ((w2.drewN nq).drewN 1) := Turns.of_below (below_drewN (below_drewN hb4 nq) 1)
  obtain ⟨k1, k2, k3, k4⟩ := HB.out _ _ ht (steady_rowsF.keep HR.out (KeepS.below (below_drewN (below_drewN hb4 nq) 1)))
  have K3 := hid k3
  have K4 := hid k4
  clear k3 k4 ht
  go_wp2
  go_ret
  exact ⟨rfl, K4.out.mono (fun b _ hb => by rcases hb with hb | hb; exact (HT.out b hb).1; rw [hb]; exact HS.out), K3.out⟩

end Go.Proofs.Yteepdnamkcgndaa

namespace Go.Proofs.Yteepdnamkcgndaa
open Go.RowKit

/-- A number of a row of the call's own is set. -/
theorem IntsF.set {S : Nat → Prop} {w : World} {v : Value} {xs : List Int} (h : IntsF S w v xs) {j : Nat} (hj : j < xs.length) :
    ∃ g cap, v = .slice (some ⟨g, 0, none⟩) xs.length cap ∧ S g ∧ g < w.heap.size ∧ w.cell? ⟨g, j, none⟩ = some (.int .i64 xs[j]) ∧ w.frozen? ⟨g, j, none⟩ = false ∧
      ∀ w2 x, Below w.heap.size w w2 → IntsF S (w2.setCell ⟨g, j, none⟩ (.int .i64 x)) v (xs.set j x) ∧ Turns S w (w2.setCell ⟨g, j, none⟩ (.int .i64 x)) := by
  obtain ⟨h1, h2⟩ := h
  obtain ⟨g, cap, rfl, h5, h6, _, h7⟩ := ownsRow_form h1 (by omega)
  obtain ⟨c1, c2⟩ := h7 j (by simpa using hj)
  refine ⟨g, cap, rfl, h2 g rfl, (h1.lt g rfl).2, by simpa using c1, c2, fun w2 x hb => ⟨⟨?_, h2⟩, ?_⟩⟩
  · have h3 : w2.ownsRow 0 3 1 (.slice (some ⟨g, 0, none⟩) xs.length cap) xs.length (xs.map (Value.int .i64)) := ownsRow_keep (S := fun _ => True) h1 (fun _ _ => trivial) (KeepS.below hb)
    have h4 := ownsRow_set h3 j (.int .i64 x)
    rw [List.map_set]
    simpa using h4
  · exact (Turns.of_below hb).setCell _ _ (h2 g rfl)

set_option maxRecDepth 100000 in
set_option maxHeartbeats 4000000 in
theorem apply1_set (V : List (List (List Int))) (S : Nat → Prop) (w : World) (aa : Option Addr) (ca : Nat) (hw : WorldF S w (.slice aa V.length ca) V) (kn : Nat) (hk : kn < V.length) (_hV : V.length ≤ 6) (o nw : Int) (xs : List Int) (ad : Option Addr) (cap : Nat)
    (_hcapx : xs.length ≤ cap) (_hmaxx : cap ≤ 9223372036854775807) (hrl : V[kn].length ≤ 100000) (p fn : Nat) (hp : p < V[kn].length) (hfm : FormedC ⟨kn, p, fn, o, nw, xs⟩) (hf0 : fn < (V[kn].headD []).length) (hf : fn < (V[kn].getD p []).length) (_hrp : (V[kn].getD p []).length ≤ 100000) (hold : (V[kn].getD p []).getD fn 0 = o) :
    Calls Try.prog 37 #[.slice aa V.length ca, .agg #[.int .i64 kn, .int .i64 p, .int .i64 fn, .int .i64 o, .int .i64 nw, .slice ad xs.length cap]] w fun e w' => e = .returned (.int .i64 0) ∧ Turns S w w' ∧ WorldF (Grow S w.heap.size) w' (.slice aa V.length ca) (V.set kn (V[kn].set p ((V[kn].getD p []).set fn nw))) := by
  obtain ⟨aa', ca', ea, hoka, hcapa, hmaxa⟩ := hw.sl.form
  cases ea
  obtain ⟨ak, ck, hck, hbk, hokk, hmk, hmax2, hrV⟩ := kind_at hw.sl hk
  obtain ⟨g, capg, u, T, e1, e2, e3, hSg, hcg, hfg, hRg, hT, hback, -⟩ := OwnF.borrow steady_rowsF hw kn hk
  have hF := formed_any ⟨kn, p, fn, o, nw, xs⟩ ad cap
  rw [decide_eq_true hfm] at hF
  have HF := hid hF
  clear hF hfm
  simp only [Chg.val] at HF
  have hki : (kn : Int) < V.length := by omega
  have hk0 : (0 : Int) ≤ (kn : Int) := by omega
  obtain ⟨a0, c0, hc0, hb0, -, hmc0, hmax0, -⟩ := row_at hrV (show 0 < V[kn].length by omega)
  rw [headD_eq [] (show 0 < V[kn].length by omega)] at hf0
  rw [getD_eq hp] at hf _hrp hold ⊢
  rw [getD_eq hf] at hold
  cases e1
  simp only [slb_some, slo_some, Nat.zero_add, Nat.add_zero] at hck hbk hc0
  have eu : u = .slice ak V[kn].length ck := by rw [hck] at hcg; exact (Option.some.inj hcg).symm
  subst eu
  clear hcg
  obtain ⟨g2, cap2, u2, T2, r1, r2, r3, hTg2, hcg2, hfg2, hRg2, hT2, hback2, -⟩ := OwnF.borrow steady_intsF hRg p hp
  obtain ⟨g3, cap3, q1, q2, q3, q4, q5, q6⟩ := IntsF.set hRg2 hf
  rw [hold] at q4
  have hok3 : Slok (some ⟨g3, 0, none⟩ : Option Addr) V[kn][p].length := fun _ => ⟨_, _, rfl⟩
  have hg2b : g2 < w.heap.size := (hT _ hTg2).2.2
  subst q1
  cases r1
  have hfin : ∀ w2, Below w.heap.size w w2 → Turns S w (w2.setCell ⟨g3, fn, none⟩ (.int .i64 nw)) ∧ WorldF (Grow S w.heap.size) (w2.setCell ⟨g3, fn, none⟩ (.int .i64 nw)) (.slice (some ⟨g, 0, none⟩) V.length ca) (V.set kn (V[kn].set p (V[kn][p].set fn nw))) := by
    intro w2 hb
    obtain ⟨f1, f2⟩ := q6 w2 nw hb
    have f3 := f2.mono (S' := T) (fun b _ hb => (hT2 b hb).1)
    exact ⟨f3.mono (fun b _ hb => (hT b hb).1), hback _ _ f3 (hback2 _ _ f2 (steady_intsF.mono f1 (fun b _ h => by
      by_cases hlt : b < w.heap.size
      · exact .inl ⟨h, hlt⟩
      · exact .inr (by omega))))⟩
  have HFin := hid hfin
  clear hfin hback hback2 q6 hRg hRg2 hT hT2 hw hrV hSg q2 hold
  simp only [slb_some, slo_some] at hc0 hb0
  generalize (V.set kn (V[kn].set p (V[kn][p].set fn nw))) = VV at *
  generalize V[kn][p].length = mp at *
  generalize V[kn][0].length = m0 at *
  generalize V[kn].length = m at *
  generalize V.length = n at *
  have d1 : decide ((fn : Int) < 0) = false := decide_eq_false (by omega)
  have e1 : ((fn : Int) == -1) = false := beqF (by omega)
  have e2 : ((fn : Int) == -2) = false := beqF (by omega)
  have d5 : decide ((p : Int) < 0) = false := decide_eq_false (by omega)
  have d6 : decide ((m : Int) ≤ (p : Int)) = false := decide_eq_false (by omega)
  have d7 : decide ((m0 : Int) ≤ (fn : Int)) = false := decide_eq_false (by omega)
  have d6' : decide (m ≤ p) = false := decide_eq_false (by omega)
  have d7' : decide (m0 ≤ fn) = false := decide_eq_false (by omega)
  have d8 : (0 : Int) < m := by omega
  have d9 : 0 < m := by omega
  have d10 : (o != o) = false := bneF rfl
  have g1 : (0 : Int) ≤ p := by omega
  have g2' : (p : Int) < m := by omega
  have g3' : (0 : Int) ≤ fn := by omega
  have g4 : (fn : Int) < mp := by omega
  go_enter Try.func37, Try.ntmps37
  go_wp2
  have hg := Grew.cell (w := w.alloc (.cells #[.int .i64 kn, .int .i64 p, .int .i64 fn, .int .i64 o, .int .i64 nw, .slice ad xs.length cap] 59))
  refine wp_region_quietG (by kernel_rfl) (by kernel_rfl) ?_
  repeat (go_big_quiet_step ((refine Calls.grew_of (HF.out _))))
  refine wpQuiet_nil ?_
  intro w2 hx
  have hb2 := grew_below hx
  clear hx
  have hb4 : Below w.heap.size w w2 := ((Below.refl _ _).alloc (Nat.le_refl _) _).trans (hb2.mono (by simp))
  clear hg
  obtain ⟨hcB, hfB⟩ := bcellG hb2
  clear hb2
  go_wp2
  go_quiet (fail)
  go_wp2
  go_quiet (fail)
  go_wp2
  refine wp_region_quiet_tail 9 (by kernel_rfl) (by kernel_rfl) ?_
  simp only [List.take_succ_cons, List.take_zero, List.drop_succ_cons, List.drop_zero]
  repeat (go_big_quiet_step (fail))
  refine wpQuiet_nil ?_
  obtain ⟨F1, F2⟩ := HFin.out ((w2.drewN _).drewN 1) (below_drewN (below_drewN hb4 _) 1)
  have K1 := hid F1
  have K2 := hid F2
  clear F1 F2
  go_wp2
  go_ret
  exact ⟨rfl, K1.out, K2.out⟩

end Go.Proofs.Yteepdnamkcgndaa

namespace Go.Proofs.Yteepdnamkcgndaa
open Go.RowKit

theorem apply1_any (V : List (List (List Int))) (hE : EvenW V) (hV : V.length ≤ 6) (hR : ∀ rows ∈ V, rows.length ≤ 100000) (c : Chg) (hc : c.values.length ≤ 100000) (ad : Option Addr) (cap : Nat) (S T' : Nat → Prop) (w : World) (aa : Option Addr) (ca : Nat)
    (hw : WorldF S w (.slice aa V.length ca) V) (hu : IntsV T' w (.slice ad c.values.length cap) c.values) :
    Calls Try.prog 37 #[.slice aa V.length ca, c.val (.slice ad c.values.length cap)] w fun e w' => e = .returned (.int .i64 (fitsE V c)) ∧ Turns S w w' ∧ (fitsE V c = 0 → WorldF (Grow S w.heap.size) w' (.slice aa V.length ca) (doC V c)) := by
  obtain ⟨aa', ca', ea, hoka, hcapa, hmaxa⟩ := hw.sl.form
  cases ea
  obtain ⟨ax, cx, ex, hokx, hcapx, hmaxx⟩ := hu.form
  cases ex
  have err : ∀ {n : Int}, n ≠ 0 → fitsE V c = n → (Calls Try.prog 37 #[.slice aa V.length ca, c.val (.slice ad c.values.length cap)] w fun e w' => e = .returned (.int .i64 n) ∧ Below w.heap.size w w') →
      (Calls Try.prog 37 #[.slice aa V.length ca, c.val (.slice ad c.values.length cap)] w fun e w' => e = .returned (.int .i64 (fitsE V c)) ∧ Turns S w w' ∧ (fitsE V c = 0 → WorldF (Grow S w.heap.size) w' (.slice aa V.length ca) (doC V c))) := by
    intro n hn hf h
    rw [hf]
    exact h.mono fun e w' ⟨h1, h2⟩ => ⟨h1, Turns.of_below h2, fun h => absurd h hn⟩
  by_cases hfm : FormedC c
  · obtain ⟨k, i, f, o, nw, xs⟩ := c
    simp only [Chg.val] at err hu hc hokx hcapx ⊢
    by_cases hkn : 0 ≤ k ∧ k < (V.length : Int)
    · obtain ⟨kn, rfl⟩ := Int.eq_ofNat_of_zero_le hkn.1
      have hk : kn < V.length := by omega
      have hrows : rowsC V ⟨kn, i, f, o, nw, xs⟩ = V[kn] := by unfold rowsC; simp only [Int.toNat_natCast]; exact getD_eq hk
      have hmem : V[kn] ∈ V := List.getElem_mem hk
      have hrl := hR _ hmem
      have hkc : KnownC V ⟨kn, i, f, o, nw, xs⟩ := hkn
      obtain ⟨ak, ck, hck, hbk, hokk, hmk, hmax2, hrV⟩ := kind_at hw.sl hk
      have hrow0 : 0 < V[kn].length → ∃ a0 c0, w.cell? ⟨slb ak, slo ak, none⟩ = some (.slice a0 (V[kn].headD []).length c0) ∧ slb ak < w.heap.size ∧ (V[kn].headD []).length ≤ 9223372036854775807 := by
        intro h0
        obtain ⟨a0, c0, h1, h2, _, h3, h4, _⟩ := row_at hrV h0
        refine ⟨a0, c0, ?_, h2, ?_⟩
        · rw [headD_eq [] h0]; simpa using h1
        · rw [headD_eq [] h0]; omega
      by_cases hfn : f < 0
      · have hf12 : f = -1 ∨ f = -2 := by have h := hfm; unfold FormedC at h; simp only at h; rw [if_neg (by omega)] at h; have := h.1; omega
        by_cases hmis : 0 < V[kn].length ∧ xs.length ≠ (V[kn].headD []).length
        · obtain ⟨a0, c0, h1, h2, h3⟩ := hrow0 hmis.1
          refine err (n := 2) (by decide) (by unfold fitsE; rw [if_pos (.inr ⟨hfn, hkc, by rw [hrows]; exact hmis.1, by rw [hrows]; exact hmis.2⟩)]) ?_
          exact apply1_mis V.length kn hV hk i f o nw xs hfn hfm ad cap hcapx hmaxx w aa ak a0 ca ck c0 V[kn].length _ hoka hcapa hck hbk hokk hmk hmax2 hmis.1 h1 h2 h3 hmis.2
        · have hnm : ¬ (¬ FormedC ⟨kn, i, f, o, nw, xs⟩ ∨ MisC V ⟨kn, i, f, o, nw, xs⟩) := by
            rintro (h | h)
            · exact h hfm
            · have h1 := h.2.2; rw [hrows] at h1; exact hmis h1
          have hmm : V[kn].length = 0 ∨ xs.length = (V[kn].headD []).length := by omega
          rcases hf12 with rfl | rfl
          · by_cases hi : i = V[kn].length
            · have hz : fitsE V ⟨kn, i, -1, o, nw, xs⟩ = 0 := by unfold fitsE; rw [if_neg hnm, if_neg (fun h => h hkc), if_pos rfl, if_neg (by rw [hrows]; exact fun h => h hi)]
              have hd : doC V ⟨kn, i, -1, o, nw, xs⟩ = V.set kn (V[kn] ++ [xs]) := by unfold doC; rw [if_pos rfl, hrows]; simp
              rw [hz, hd]
              subst hi
              exact (apply1_add V S T' w aa ca hw kn hk hV o nw xs ad cap hu hc hrl hfm hmm).mono fun e w' ⟨h1, h2, h3⟩ => ⟨h1, h2, fun _ => h3⟩
            · refine err (n := 5) (by decide) (by unfold fitsE; rw [if_neg hnm, if_neg (fun h => h hkc), if_pos rfl, if_pos (by rw [hrows]; exact hi)]) ?_
              rcases Nat.eq_zero_or_pos V[kn].length with h0 | h0
              · exact apply1_add5 V.length kn hV hk i o nw xs hfm ad cap hcapx hmaxx w aa ak none ca ck 0 V[kn].length 0 hoka hcapa hck hbk hokk hmk hmax2 (.inl h0) hi
              · obtain ⟨a0, c0, h1, h2, h3⟩ := hrow0 h0
                exact apply1_add5 V.length kn hV hk i o nw xs hfm ad cap hcapx hmaxx w aa ak a0 ca ck c0 V[kn].length _ hoka hcapa hck hbk hokk hmk hmax2 (.inr ⟨h0, h1, h2, h3, by omega⟩) hi
          · by_cases hi : V[kn].length = 0 ∨ i ≠ (V[kn].length : Int) - 1
            · refine err (n := 5) (by decide) (by unfold fitsE; rw [if_neg hnm, if_neg (fun h => h hkc), if_neg (show ¬ (-2 : Int) = -1 by decide), if_pos rfl, if_pos (by rw [hrows]; exact hi)]) ?_
              rcases Nat.eq_zero_or_pos V[kn].length with h0 | h0
              · exact apply1_take5 V.length kn hV hk i o nw xs hfm ad cap hcapx hmaxx w aa ak none ca ck 0 V[kn].length 0 hoka hcapa hck hbk hokk hmk hmax2 (.inl h0)
              · obtain ⟨a0, c0, h1, h2, h3⟩ := hrow0 h0
                exact apply1_take5 V.length kn hV hk i o nw xs hfm ad cap hcapx hmaxx w aa ak a0 ca ck c0 V[kn].length _ hoka hcapa hck hbk hokk hmk hmax2 (.inr ⟨h0, h1, h2, h3, by omega, by omega⟩)
            · obtain ⟨p, hp⟩ : ∃ p, V[kn].length = p + 1 := ⟨V[kn].length - 1, by omega⟩
              obtain rfl : i = (p : Int) := by omega
              obtain ⟨a0, c0, h1, h2, h3⟩ := hrow0 (by omega)
              by_cases hl : V[kn].getD p [] = xs
              · have hz : fitsE V ⟨kn, p, -2, o, nw, xs⟩ = 0 := by
                  unfold fitsE; rw [if_neg hnm, if_neg (fun h => h hkc), if_neg (show ¬ (-2 : Int) = -1 by decide), if_pos rfl, if_neg (by rw [hrows]; exact hi), if_neg (by rw [hrows]; simp only [Int.toNat_natCast]; exact fun h => h hl)]
                have hd : doC V ⟨kn, p, -2, o, nw, xs⟩ = V.set kn (V[kn].take p) := by unfold doC; rw [if_neg (show ¬ (-2 : Int) = -1 by decide), if_pos rfl, hrows]; simp
                rw [hz, hd]
                exact (apply1_take V S T' w aa ca hw kn hk hV o nw xs ad cap hu hc hrl p hp hfm (by omega) hl).mono fun e w' ⟨h1, h2, h3⟩ => ⟨h1, h2, fun _ => h3⟩
              · refine err (n := 16) (by decide) ?_ ?_
                · unfold fitsE; rw [if_neg hnm, if_neg (fun h => h hkc), if_neg (show ¬ (-2 : Int) = -1 by decide), if_pos rfl, if_neg (by rw [hrows]; exact hi), if_pos (by rw [hrows]; simp only [Int.toNat_natCast]; exact hl)]
                · obtain ⟨ap, cp, k1, k2, k3, k4, k5, k6⟩ := row_at hrV (show p < V[kn].length by omega)
                  exact apply1_take16 V.length kn hV hk p o nw xs hfm ad cap hcapx hmaxx w aa ak a0 ca ck c0 V[kn].length _ hoka hcapa hck hbk hokk hmk hmax2 hp ⟨h1, h2, h3, by omega⟩ S T' _ ap cp k1 k6 hu (by rw [← getD_eq (d := []) (show p < V[kn].length by omega)]; exact hl)
      · have hf1 : f ≠ -1 := by omega
        have hf2 : f ≠ -2 := by omega
        have hnm : ¬ (¬ FormedC ⟨kn, i, f, o, nw, xs⟩ ∨ MisC V ⟨kn, i, f, o, nw, xs⟩) := by
          rintro (h | h)
          · exact h hfm
          · exact hfn h.1
        obtain ⟨fn, rfl⟩ := Int.eq_ofNat_of_zero_le (show 0 ≤ f by omega)
        by_cases hi : i < 0 ∨ (V[kn].length : Int) ≤ i ∨ ((V[kn].headD []).length : Int) ≤ fn
        · refine err (n := 5) (by decide) (by unfold fitsE; rw [if_neg hnm, if_neg (fun h => h hkc), if_neg hf1, if_neg hf2, if_pos (by rw [hrows]; exact hi)]) ?_
          by_cases hi0 : i < 0
          · exact apply1_set5 V.length kn hV hk i fn o nw xs hfm ad cap hcapx hmaxx w aa ak none ca ck 0 V[kn].length 0 hoka hcapa hck hbk hokk hmk hmax2 (by omega) (.inl hi0)
          · by_cases hi1 : (V[kn].length : Int) ≤ i
            · exact apply1_set5 V.length kn hV hk i fn o nw xs hfm ad cap hcapx hmaxx w aa ak none ca ck 0 V[kn].length 0 hoka hcapa hck hbk hokk hmk hmax2 (by omega) (.inr (.inl ⟨by omega, hi1⟩))
            · obtain ⟨a0, c0, h1, h2, h3⟩ := hrow0 (by omega)
              exact apply1_set5 V.length kn hV hk i fn o nw xs hfm ad cap hcapx hmaxx w aa ak a0 ca ck c0 V[kn].length _ hoka hcapa hck hbk hokk hmk hmax2 (by omega) (.inr (.inr ⟨by omega, by omega, h1, h2, h3, by omega⟩))
        · obtain ⟨p, rfl⟩ := Int.eq_ofNat_of_zero_le (show 0 ≤ i by omega)
          have hp : p < V[kn].length := by omega
          have hev := hE _ hmem _ (List.getElem_mem hp)
          have hfp : fn < (V[kn][p]).length := by omega
          obtain ⟨a0, c0, h1, h2, h3⟩ := hrow0 (by omega)
          by_cases hold : (V[kn].getD p []).getD fn 0 = o
          · have hz : fitsE V ⟨kn, p, fn, o, nw, xs⟩ = 0 := by
              unfold fitsE; rw [if_neg hnm, if_neg (fun h => h hkc), if_neg hf1, if_neg hf2, if_neg (by rw [hrows]; exact hi), if_neg (by rw [hrows]; simp only [Int.toNat_natCast]; exact fun h => h hold)]
            have hd : doC V ⟨kn, p, fn, o, nw, xs⟩ = V.set kn (V[kn].set p ((V[kn].getD p []).set fn nw)) := by
              unfold doC; rw [if_neg hf1, if_neg hf2, hrows]; simp only [Int.toNat_natCast]
            rw [hz, hd]
            exact (apply1_set V S w aa ca hw kn hk hV o nw xs ad cap hcapx hmaxx hrl p fn hp hfm (by omega) (by rw [getD_eq hp]; exact hfp) (by rw [getD_eq hp]; omega) hold).mono fun e w' ⟨h1, h2, h3⟩ => ⟨h1, h2, fun _ => h3⟩
          · refine err (n := 16) (by decide) ?_ ?_
            · unfold fitsE; rw [if_neg hnm, if_neg (fun h => h hkc), if_neg hf1, if_neg hf2, if_neg (by rw [hrows]; exact hi), if_pos (by rw [hrows]; simp only [Int.toNat_natCast]; exact hold)]
            · obtain ⟨ap, cp, k1, k2, k3, k4, k5, k6⟩ := row_at hrV hp
              obtain ⟨uv, j1, j2, j3⟩ := k6.at hfp
              rw [j3] at j1
              exact apply1_set16 V.length kn hV hk p fn o nw xs hfm ad cap hcapx hmaxx w aa ak a0 ca ck c0 V[kn].length _ hoka hcapa hck hbk hokk hmk hmax2 hp ⟨h1, h2, h3, by omega⟩ ap cp _ k1 k3 hfp j2 _ j1 (by rw [getD_eq hp, getD_eq hfp] at hold; exact hold)
    · refine err (n := 5) (by decide) ?_ (apply1_unk V.length k i f o nw hkn xs hfm ad cap w aa ca)
      have hnk : ¬ KnownC V ⟨k, i, f, o, nw, xs⟩ := hkn
      have hnm : ¬ (¬ FormedC ⟨k, i, f, o, nw, xs⟩ ∨ MisC V ⟨k, i, f, o, nw, xs⟩) := by
        rintro (h | h)
        · exact h hfm
        · exact hnk h.2.1
      unfold fitsE
      rw [if_neg hnm, if_pos hnk]
  · exact err (by decide) (by unfold fitsE; rw [if_pos (.inl hfm)]) (apply1_bad V c ad cap S T' w aa ca hV hfm)

end Go.Proofs.Yteepdnamkcgndaa
