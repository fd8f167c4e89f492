/- apply of the program: errors of a known kind. -/
import Derived.Test.YtagnjhhbbjbhcaaPApply2
namespace Go.Proofs.Ytagnjhhbbjbhcaa
open Go.RowKit

set_option maxRecDepth 100000 in
set_option maxHeartbeats 4000000 in
theorem apply1_take5 (n kn : Nat) (hV : n ≤ 6) (hk : kn < n) (i : Int) (o nw : Int) (xs : List Int) (hfm : FormedC ⟨kn, i, (-2), o, nw, xs⟩) (ad : Option Addr) (cap : Nat) (hcap : xs.length ≤ cap) (hmax : cap ≤ 9223372036854775807) (w : World) (aa ak a0 : Option Addr) (ca ck c0 m m0 : Nat)
    (hoka : Slok aa n) (hca : n ≤ ca) (hck : w.cell? ⟨slb aa, slo aa + kn, none⟩ = some (.slice ak m ck)) (hbk : slb aa < w.heap.size) (hokk : Slok ak m) (hmk : m ≤ ck) (hmax2 : ck ≤ 9223372036854775807)
    (hm : m = 0 ∨ (0 < m ∧ w.cell? ⟨slb ak, slo ak, none⟩ = some (.slice a0 m0 c0) ∧ slb ak < w.heap.size ∧ m0 ≤ 9223372036854775807 ∧ xs.length = m0 ∧ i ≠ (m : Int) - 1)) :
    Calls Try.prog 40 #[.slice aa n ca, .agg #[.int .i64 kn, .int .i64 i, .int .i64 (-2), .int .i64 o, .int .i64 nw, .slice ad xs.length cap]] w fun e w' => e = .returned (.int .i64 5) ∧ Below w.heap.size w w' := by
  have hF := formed_any ⟨kn, i, (-2), o, nw, xs⟩ ad cap
  rw [decide_eq_true hfm] at hF
  have HF := hid hF
  clear hF hfm
  simp only [Chg.val] at HF
  have hki : (kn : Int) < n := by omega
  have hk0 : (0 : Int) ≤ (kn : Int) := by omega
  rcases hm with rfl | ⟨hm, hc0, hb0, hm0, rfl, hi⟩
  all_goals
    try
      have d2 : decide ((0 : Int) < (m : Int)) = true := by simpa using hm
      have d3 : ((xs.length : Int) != (xs.length : Int)) = false := bneF rfl
      have hmi : (0 : Int) < m := by omega
    try
      have d4 : (i != (m : Int) - 1) = true := bneT hi
      have d5 : ((m : Int) == 0) = false := beqF (by omega)
    go_enter Try.func40, Try.ntmps40
    go_wp2
    have hg := Grew.cell (w := w.alloc (.cells #[.int .i64 kn, .int .i64 i, .int .i64 (-2), .int .i64 o, .int .i64 nw, .slice ad xs.length cap] 61))
    refine wp_region_quietG (by kernel_rfl) (by kernel_rfl) ?_
    repeat (go_big_quiet_step ((refine Calls.grew_of (HF.out _))))
    refine wpQuiet_nil ?_
    intro w2 hx
    have hb2 := grew_below hx
    clear hx
    have hb4 : Below w.heap.size w w2 := ((Below.refl _ _).alloc (Nat.le_refl _) _).trans (hb2.mono (by simp))
    clear hg
    obtain ⟨hcB, hfB⟩ := bcellG hb2
    clear hb2
    go_wp2
    go_ret
    exact ⟨rfl, hb4⟩

set_option maxRecDepth 100000 in
set_option maxHeartbeats 4000000 in
theorem apply1_take16 (n kn : Nat) (hV : n ≤ 6) (hk : kn < n) (p : Nat) (o nw : Int) (xs : List Int) (hfm : FormedC ⟨kn, p, (-2), o, nw, xs⟩) (ad : Option Addr) (cap : Nat) (hcap : xs.length ≤ cap) (hmax : cap ≤ 9223372036854775807) (w : World) (aa ak a0 : Option Addr) (ca ck c0 m m0 : Nat)
    (hoka : Slok aa n) (hca : n ≤ ca) (hck : w.cell? ⟨slb aa, slo aa + kn, none⟩ = some (.slice ak m ck)) (hbk : slb aa < w.heap.size) (hokk : Slok ak m) (hmk : m ≤ ck) (hmax2 : ck ≤ 9223372036854775807)
    (hpm : m = p + 1) (hr0 : w.cell? ⟨slb ak, slo ak, none⟩ = some (.slice a0 m0 c0) ∧ slb ak < w.heap.size ∧ m0 ≤ 9223372036854775807 ∧ xs.length = m0) (T T' : Nat → Prop) (ys : List Int) (ap : Option Addr) (cp : Nat) (hcp : w.cell? ⟨slb ak, slo ak + p, none⟩ = some (.slice ap ys.length cp)) (hys : IntsV T w (.slice ap ys.length cp) ys) (hxs : IntsV T' w (.slice ad xs.length cap) xs) (hne : ys ≠ xs) :
    Calls Try.prog 40 #[.slice aa n ca, .agg #[.int .i64 kn, .int .i64 p, .int .i64 (-2), .int .i64 o, .int .i64 nw, .slice ad xs.length cap]] w fun e w' => e = .returned (.int .i64 16) ∧ Below w.heap.size w w' := by
  have hF := formed_any ⟨kn, p, (-2), o, nw, xs⟩ ad cap
  rw [decide_eq_true hfm] at hF
  have HF := hid hF
  clear hF hfm
  simp only [Chg.val] at HF
  have hki : (kn : Int) < n := by omega
  have hk0 : (0 : Int) ≤ (kn : Int) := by omega
  obtain ⟨hc0, hb0, hm0, rfl⟩ := hr0
  subst hpm
  have d2 : decide ((0 : Int) < ((p + 1 : Nat) : Int)) = true := decide_eq_true (by omega)
  have d2' : (0 : Int) < (p : Int) + 1 := by omega
  have d3 : ((xs.length : Int) != (xs.length : Int)) = false := bneF rfl
  have d5 : (((p + 1 : Nat) : Int) == 0) = false := beqF (by omega)
  have d5' : ((p : Int) + 1 == 0) = false := beqF (by omega)
  have g1 : (0 : Int) ≤ p := by omega
  have g2 : (p : Int) < ((p + 1 : Nat) : Int) := by omega
  have g3 : (p : Int) < (p : Int) + 1 := by omega
  have HE := fun W => hid (equal_any ys xs (.slice ap ys.length cp) (.slice ad xs.length cap) T T' W)
  rw [decide_eq_false hne] at HE
  go_enter Try.func40, Try.ntmps40
  go_wp2
  have hg := Grew.cell (w := w.alloc (.cells #[.int .i64 kn, .int .i64 p, .int .i64 (-2), .int .i64 o, .int .i64 nw, .slice ad xs.length cap] 61))
  refine wp_region_quietG (by kernel_rfl) (by kernel_rfl) ?_
  repeat (go_big_quiet_step ((refine Calls.grew_of (HF.out _))))
  refine wpQuiet_nil ?_
  intro w2 hx
  have hb2 := grew_below hx
  clear hx
  have hb4 : Below w.heap.size w w2 := ((Below.refl _ _).alloc (Nat.le_refl _) _).trans (hb2.mono (by simp))
  clear hg
  obtain ⟨hcB, hfB⟩ := bcellG hb2
  clear hb2
  have hys2 : ∀ q, IntsV T (w2.drewN q) (.slice ap ys.length cp) ys := fun q => hys.keep (KeepS.below (below_drewN hb4 q))
  have hxs2 : ∀ q, IntsV T' (w2.drewN q) (.slice ad xs.length cap) xs := fun q => hxs.keep (KeepS.below (below_drewN hb4 q))
  have hys3 := hid hys2
  have hxs3 := hid hxs2
  clear hys2 hxs2 hys hxs
  go_wp2
  go_quiet ((refine Calls.quiet_of ((HE _).out (hys3.out _) (hxs3.out _))))
  go_wp2
  go_ret
  exact ⟨rfl, below_drewN hb4 _⟩

set_option maxRecDepth 100000 in
set_option maxHeartbeats 4000000 in
theorem apply1_set5 (n kn : Nat) (hV : n ≤ 6) (hk : kn < n) (i f : Int) (o nw : Int) (xs : List Int) (hfm : FormedC ⟨kn, i, f, o, nw, xs⟩) (ad : Option Addr) (cap : Nat) (hcap : xs.length ≤ cap) (hmax : cap ≤ 9223372036854775807) (w : World) (aa ak a0 : Option Addr) (ca ck c0 m m0 : Nat)
    (hoka : Slok aa n) (hca : n ≤ ca) (hck : w.cell? ⟨slb aa, slo aa + kn, none⟩ = some (.slice ak m ck)) (hbk : slb aa < w.heap.size) (hokk : Slok ak m) (hmk : m ≤ ck) (hmax2 : ck ≤ 9223372036854775807)
    (hf : 0 ≤ f) (hi : i < 0 ∨ (0 ≤ i ∧ (m : Int) ≤ i) ∨ (0 ≤ i ∧ i < m ∧ w.cell? ⟨slb ak, slo ak, none⟩ = some (.slice a0 m0 c0) ∧ slb ak < w.heap.size ∧ m0 ≤ 9223372036854775807 ∧ (m0 : Int) ≤ f)) :
    Calls Try.prog 40 #[.slice aa n ca, .agg #[.int .i64 kn, .int .i64 i, .int .i64 f, .int .i64 o, .int .i64 nw, .slice ad xs.length cap]] w fun e w' => e = .returned (.int .i64 5) ∧ Below w.heap.size w w' := by
  have hF := formed_any ⟨kn, i, f, o, nw, xs⟩ ad cap
  rw [decide_eq_true hfm] at hF
  have HF := hid hF
  clear hF hfm
  simp only [Chg.val] at HF
  have hki : (kn : Int) < n := by omega
  have hk0 : (0 : Int) ≤ (kn : Int) := by omega
  have d1 : decide (f < 0) = false := decide_eq_false (by omega)
  have e1 : (f == -1) = false := beqF (by omega)
  have e2 : (f == -2) = false := beqF (by omega)
  rcases hi with hi | ⟨hi, hi2⟩ | ⟨hi, hi2, hc0, hb0, hm0, hfm0⟩
  all_goals
    have d4 : decide (i < 0) = true ∨ decide (i < 0) = false := by cases decide (i < 0) <;> simp
    first
      | have d5 : decide (i < 0) = true := decide_eq_true hi
      | have d5 : decide (i < 0) = false := decide_eq_false (by omega)
    clear d4
    try
      have d6 : decide ((m : Int) ≤ i) = true := decide_eq_true hi2
    try
      have d6 : decide ((m : Int) ≤ i) = false := decide_eq_false (by omega)
      have d7 : decide ((m0 : Int) ≤ f) = true := decide_eq_true hfm0
      have d8 : (0 : Int) < m := by omega
      have d9 : 0 < m := by omega
    go_enter Try.func40, Try.ntmps40
    go_wp2
    have hg := Grew.cell (w := w.alloc (.cells #[.int .i64 kn, .int .i64 i, .int .i64 f, .int .i64 o, .int .i64 nw, .slice ad xs.length cap] 61))
    refine wp_region_quietG (by kernel_rfl) (by kernel_rfl) ?_
    repeat (go_big_quiet_step ((refine Calls.grew_of (HF.out _))))
    refine wpQuiet_nil ?_
    intro w2 hx
    have hb2 := grew_below hx
    clear hx
    have hb4 : Below w.heap.size w w2 := ((Below.refl _ _).alloc (Nat.le_refl _) _).trans (hb2.mono (by simp))
    clear hg
    obtain ⟨hcB, hfB⟩ := bcellG hb2
    clear hb2
    go_wp2
    go_quiet (fail)
    go_wp2
    go_ret
    exact ⟨rfl, below_drewN hb4 _⟩

set_option maxRecDepth 100000 in
set_option maxHeartbeats 4000000 in
theorem apply1_set16 (n kn : Nat) (hV : n ≤ 6) (hk : kn < n) (p fn : Nat) (o nw : Int) (xs : List Int) (hfm : FormedC ⟨kn, p, fn, o, nw, xs⟩) (ad : Option Addr) (cap : Nat) (hcap : xs.length ≤ cap) (hmax : cap ≤ 9223372036854775807) (w : World) (aa ak a0 : Option Addr) (ca ck c0 m m0 : Nat)
    (hoka : Slok aa n) (hca : n ≤ ca) (hck : w.cell? ⟨slb aa, slo aa + kn, none⟩ = some (.slice ak m ck)) (hbk : slb aa < w.heap.size) (hokk : Slok ak m) (hmk : m ≤ ck) (hmax2 : ck ≤ 9223372036854775807)
    (hp : p < m) (hr0 : w.cell? ⟨slb ak, slo ak, none⟩ = some (.slice a0 m0 c0) ∧ slb ak < w.heap.size ∧ m0 ≤ 9223372036854775807 ∧ fn < m0) (ap : Option Addr) (cp mp : Nat) (hcp : w.cell? ⟨slb ak, slo ak + p, none⟩ = some (.slice ap mp cp)) (hokp : Slok ap mp) (hmp : fn < mp) (hbp : slb ap < w.heap.size) (v : Int) (hcv : w.cell? ⟨slb ap, slo ap + fn, none⟩ = some (.int .i64 v)) (hne : v ≠ o) :
    Calls Try.prog 40 #[.slice aa n ca, .agg #[.int .i64 kn, .int .i64 p, .int .i64 fn, .int .i64 o, .int .i64 nw, .slice ad xs.length cap]] w fun e w' => e = .returned (.int .i64 16) ∧ Below w.heap.size w w' := by
  have hF := formed_any ⟨kn, p, fn, o, nw, xs⟩ ad cap
  rw [decide_eq_true hfm] at hF
  have HF := hid hF
  clear hF hfm
  simp only [Chg.val] at HF
  have hki : (kn : Int) < n := by omega
  have hk0 : (0 : Int) ≤ (kn : Int) := by omega
  obtain ⟨hc0, hb0, hm0, hf0⟩ := hr0
  have d1 : decide ((fn : Int) < 0) = false := decide_eq_false (by omega)
  have e1 : ((fn : Int) == -1) = false := beqF (by omega)
  have e2 : ((fn : Int) == -2) = false := beqF (by omega)
  have d5 : decide ((p : Int) < 0) = false := decide_eq_false (by omega)
  have d6 : decide ((m : Int) ≤ (p : Int)) = false := decide_eq_false (by omega)
  have d7 : decide ((m0 : Int) ≤ (fn : Int)) = false := decide_eq_false (by omega)
  have d6' : decide (m ≤ p) = false := decide_eq_false (by omega)
  have d7' : decide (m0 ≤ fn) = false := decide_eq_false (by omega)
  have d8 : (0 : Int) < m := by omega
  have d9 : 0 < m := by omega
  have d10 : (v != o) = true := bneT hne
  have g1 : (0 : Int) ≤ p := by omega
  have g2 : (p : Int) < m := by omega
  have g3 : (0 : Int) ≤ fn := by omega
  have g4 : (fn : Int) < mp := by omega
  go_enter Try.func40, Try.ntmps40
  go_wp2
  have hg := Grew.cell (w := w.alloc (.cells #[.int .i64 kn, .int .i64 p, .int .i64 fn, .int .i64 o, .int .i64 nw, .slice ad xs.length cap] 61))
  refine wp_region_quietG (by kernel_rfl) (by kernel_rfl) ?_
  repeat (go_big_quiet_step ((refine Calls.grew_of (HF.out _))))
  refine wpQuiet_nil ?_
  intro w2 hx
  have hb2 := grew_below hx
  clear hx
  have hb4 : Below w.heap.size w w2 := ((Below.refl _ _).alloc (Nat.le_refl _) _).trans (hb2.mono (by simp))
  clear hg
  obtain ⟨hcB, hfB⟩ := bcellG hb2
  clear hb2
  go_wp2
  go_quiet (fail)
  go_wp2
  go_quiet (fail)
  go_wp2
  go_ret
  exact ⟨rfl, by rw [World.drewN_drewN]; exact below_drewN hb4 _⟩

end Go.Proofs.Ytagnjhhbbjbhcaa
