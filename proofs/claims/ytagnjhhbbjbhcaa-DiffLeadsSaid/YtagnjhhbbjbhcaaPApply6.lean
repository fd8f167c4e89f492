/- apply of the program: a value is set. -/
import Derived.Test.YtagnjhhbbjbhcaaPApply3
namespace Go.Proofs.Ytagnjhhbbjbhcaa
open Go.RowKit

/-- A number of a row of the call's own is set. -/
theorem IntsF.set {S : Nat → Prop} {w : World} {v : Value} {xs : List Int} (h : IntsF S w v xs) {j : Nat} (hj : j < xs.length) :
    ∃ g cap, v = .slice (some ⟨g, 0, none⟩) xs.length cap ∧ S g ∧ g < w.heap.size ∧ w.cell? ⟨g, j, none⟩ = some (.int .i64 xs[j]) ∧ w.frozen? ⟨g, j, none⟩ = false ∧
      ∀ w2 x, Below w.heap.size w w2 → IntsF S (w2.setCell ⟨g, j, none⟩ (.int .i64 x)) v (xs.set j x) ∧ Turns S w (w2.setCell ⟨g, j, none⟩ (.int .i64 x)) := by
  obtain ⟨h1, h2⟩ := h
  obtain ⟨g, cap, rfl, h5, h6, _, h7⟩ := ownsRow_form h1 (by omega)
  obtain ⟨c1, c2⟩ := h7 j (by simpa using hj)
  refine ⟨g, cap, rfl, h2 g rfl, (h1.lt g rfl).2, by simpa using c1, c2, fun w2 x hb => ⟨⟨?_, h2⟩, ?_⟩⟩
  · have h3 : w2.ownsRow 0 3 1 (.slice (some ⟨g, 0, none⟩) xs.length cap) xs.length (xs.map (Value.int .i64)) := ownsRow_keep (S := fun _ => True) h1 (fun _ _ => trivial) (KeepS.below hb)
    have h4 := ownsRow_set h3 j (.int .i64 x)
    rw [List.map_set]
    simpa using h4
  · exact (Turns.of_below hb).setCell _ _ (h2 g rfl)

set_option maxRecDepth 100000 in
set_option maxHeartbeats 4000000 in
theorem apply1_set (V : List (List (List Int))) (S : Nat → Prop) (w : World) (aa : Option Addr) (ca : Nat) (hw : WorldF S w (.slice aa V.length ca) V) (kn : Nat) (hk : kn < V.length) (hV : V.length ≤ 6) (o nw : Int) (xs : List Int) (ad : Option Addr) (cap : Nat)
    (hcapx : xs.length ≤ cap) (hmaxx : cap ≤ 9223372036854775807) (hrl : V[kn].length ≤ 100000) (p fn : Nat) (hp : p < V[kn].length) (hfm : FormedC ⟨kn, p, fn, o, nw, xs⟩) (hf0 : fn < (V[kn].headD []).length) (hf : fn < (V[kn].getD p []).length) (hrp : (V[kn].getD p []).length ≤ 100000) (hold : (V[kn].getD p []).getD fn 0 = o) :
    Calls Try.prog 40 #[.slice aa V.length ca, .agg #[.int .i64 kn, .int .i64 p, .int .i64 fn, .int .i64 o, .int .i64 nw, .slice ad xs.length cap]] w fun e w' => e = .returned (.int .i64 0) ∧ Turns S w w' ∧ WorldF (Grow S w.heap.size) w' (.slice aa V.length ca) (V.set kn (V[kn].set p ((V[kn].getD p []).set fn nw))) := by
  obtain ⟨aa', ca', ea, hoka, hcapa, hmaxa⟩ := hw.sl.form
  cases ea
  obtain ⟨ak, ck, hck, hbk, hokk, hmk, hmax2, hrV⟩ := kind_at hw.sl hk
  obtain ⟨g, capg, u, T, e1, e2, e3, hSg, hcg, hfg, hRg, hT, hback, -⟩ := OwnF.borrow steady_rowsF hw kn hk
  have hF := formed_any ⟨kn, p, fn, o, nw, xs⟩ ad cap
  rw [decide_eq_true hfm] at hF
  have HF := hid hF
  clear hF hfm
  simp only [Chg.val] at HF
  have hki : (kn : Int) < V.length := by omega
  have hk0 : (0 : Int) ≤ (kn : Int) := by omega
  obtain ⟨a0, c0, hc0, hb0, -, hmc0, hmax0, -⟩ := row_at hrV (show 0 < V[kn].length by omega)
  rw [headD_eq [] (show 0 < V[kn].length by omega)] at hf0
  rw [getD_eq hp] at hf hrp hold ⊢
  rw [getD_eq hf] at hold
  cases e1
  simp only [slb_some, slo_some, Nat.zero_add, Nat.add_zero] at hck hbk hc0
  have eu : u = .slice ak V[kn].length ck := by rw [hck] at hcg; exact (Option.some.inj hcg).symm
  subst eu
  clear hcg
  obtain ⟨g2, cap2, u2, T2, r1, r2, r3, hTg2, hcg2, hfg2, hRg2, hT2, hback2, -⟩ := OwnF.borrow steady_intsF hRg p hp
  obtain ⟨g3, cap3, q1, q2, q3, q4, q5, q6⟩ := IntsF.set hRg2 hf
  rw [hold] at q4
  have hok3 : Slok (some ⟨g3, 0, none⟩ : Option Addr) V[kn][p].length := fun _ => ⟨_, _, rfl⟩
  have hg2b : g2 < w.heap.size := (hT _ hTg2).2.2
  subst q1
  cases r1
  have hfin : ∀ w2, Below w.heap.size w w2 → Turns S w (w2.setCell ⟨g3, fn, none⟩ (.int .i64 nw)) ∧ WorldF (Grow S w.heap.size) (w2.setCell ⟨g3, fn, none⟩ (.int .i64 nw)) (.slice (some ⟨g, 0, none⟩) V.length ca) (V.set kn (V[kn].set p (V[kn][p].set fn nw))) := by
    intro w2 hb
    obtain ⟨f1, f2⟩ := q6 w2 nw hb
    have f3 := f2.mono (S' := T) (fun b _ hb => (hT2 b hb).1)
    exact ⟨f3.mono (fun b _ hb => (hT b hb).1), hback _ _ f3 (hback2 _ _ f2 (steady_intsF.mono f1 (fun b _ h => by
      by_cases hlt : b < w.heap.size
      · exact .inl ⟨h, hlt⟩
      · exact .inr (by omega))))⟩
  have HFin := hid hfin
  clear hfin hback hback2 q6 hRg hRg2 hT hT2 hw hrV hSg q2 hold
  simp only [slb_some, slo_some, Nat.zero_add] at hc0 hb0
  generalize (V.set kn (V[kn].set p (V[kn][p].set fn nw))) = VV at *
  generalize V[kn][p].length = mp at *
  generalize V[kn][0].length = m0 at *
  generalize V[kn].length = m at *
  generalize V.length = n at *
  have d1 : decide ((fn : Int) < 0) = false := decide_eq_false (by omega)
  have e1 : ((fn : Int) == -1) = false := beqF (by omega)
  have e2 : ((fn : Int) == -2) = false := beqF (by omega)
  have d5 : decide ((p : Int) < 0) = false := decide_eq_false (by omega)
  have d6 : decide ((m : Int) ≤ (p : Int)) = false := decide_eq_false (by omega)
  have d7 : decide ((m0 : Int) ≤ (fn : Int)) = false := decide_eq_false (by omega)
  have d6' : decide (m ≤ p) = false := decide_eq_false (by omega)
  have d7' : decide (m0 ≤ fn) = false := decide_eq_false (by omega)
  have d8 : (0 : Int) < m := by omega
  have d9 : 0 < m := by omega
  have d10 : (o != o) = false := bneF rfl
  have g1 : (0 : Int) ≤ p := by omega
  have g2' : (p : Int) < m := by omega
  have g3' : (0 : Int) ≤ fn := by omega
  have g4 : (fn : Int) < mp := by omega
  go_enter Try.func40, Try.ntmps40
  go_wp2
  have hg := Grew.cell (w := w.alloc (.cells #[.int .i64 kn, .int .i64 p, .int .i64 fn, .int .i64 o, .int .i64 nw, .slice ad xs.length cap] 61))
  refine wp_region_quietG (by kernel_rfl) (by kernel_rfl) ?_
  repeat (go_big_quiet_step ((refine Calls.grew_of (HF.out _))))
  refine wpQuiet_nil ?_
  intro w2 hx
  have hb2 := grew_below hx
  clear hx
  have hb4 : Below w.heap.size w w2 := ((Below.refl _ _).alloc (Nat.le_refl _) _).trans (hb2.mono (by simp))
  clear hg
  obtain ⟨hcB, hfB⟩ := bcellG hb2
  clear hb2
  go_wp2
  go_quiet (fail)
  go_wp2
  go_quiet (fail)
  go_wp2
  refine wp_region_quiet_tail 9 (by kernel_rfl) (by kernel_rfl) ?_
  simp only [List.take_succ_cons, List.take_zero, List.drop_succ_cons, List.drop_zero]
  repeat (go_big_quiet_step (fail))
  refine wpQuiet_nil ?_
  obtain ⟨F1, F2⟩ := HFin.out ((w2.drewN _).drewN 1) (below_drewN (below_drewN hb4 _) 1)
  have K1 := hid F1
  have K2 := hid F2
  clear F1 F2
  go_wp2
  go_ret
  exact ⟨rfl, K1.out, K2.out⟩

end Go.Proofs.Ytagnjhhbbjbhcaa
