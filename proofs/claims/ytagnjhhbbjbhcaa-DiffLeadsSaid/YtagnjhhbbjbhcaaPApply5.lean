/- apply of the program: a record is taken away. -/
import Derived.Test.YtagnjhhbbjbhcaaPApply3
namespace Go.Proofs.Ytagnjhhbbjbhcaa
open Go.RowKit

theorem OwnF.take {α : Type} {RR : (Nat → Prop) → World → Value → α → Prop} {e : TypeId} {S : Nat → Prop} {w : World} {a : Option Addr} {n cap : Nat} {xs : List α} (h : OwnF RR e S w (.slice a n cap) xs) {p : Nat} (hp : p < xs.length) :
    OwnF RR e S w (.slice a p cap) (xs.take p) := by
  obtain ⟨h1, us, Z, h2, h3, h4⟩ := h
  have hob : (Value.slice a p cap).ownBlock = (Value.slice a n cap).ownBlock := by cases a <;> rfl
  refine ⟨fun b hb => h1 b (by rw [← hob]; exact hb), us.take p, Z, ?_, by simp [h3], fun j g1 g2 => ?_⟩
  · obtain ⟨k1, k2⟩ := h2
    refine ⟨by simp at k1 ⊢; omega, ?_⟩
    rcases k2 with ⟨k2, k3⟩ | ⟨g, cap', cur, hv, hb, hg, hn, hc, hs, ht⟩
    · omega
    · cases hv
      refine .inr ⟨g, cap, cur, by congr 1; simp; omega, hb, hg, by simp; omega, hc, hs, ?_⟩
      simp only [Nat.mul_one] at ht ⊢
      rw [← ht, List.take_take, List.length_take]
  · simp only [List.getElem_take]
    rw [hob]
    exact h4 j (by simp at g1; omega) (by simp at g2; omega)

set_option maxRecDepth 100000 in
set_option maxHeartbeats 4000000 in
theorem apply1_take (V : List (List (List Int))) (S T' : Nat → Prop) (w : World) (aa : Option Addr) (ca : Nat) (hw : WorldF S w (.slice aa V.length ca) V) (kn : Nat) (hk : kn < V.length) (hV : V.length ≤ 6) (o nw : Int) (xs : List Int) (ad : Option Addr) (cap : Nat)
    (hu : IntsV T' w (.slice ad xs.length cap) xs) (hxl : xs.length ≤ 100000) (hrl : V[kn].length ≤ 100000) (p : Nat) (hpm : V[kn].length = p + 1) (hfm : FormedC ⟨kn, p, -2, o, nw, xs⟩) (hmm : xs.length = (V[kn].headD []).length) (hlast : V[kn].getD p [] = xs) :
    Calls Try.prog 40 #[.slice aa V.length ca, .agg #[.int .i64 kn, .int .i64 p, .int .i64 (-2), .int .i64 o, .int .i64 nw, .slice ad xs.length cap]] w fun e w' => e = .returned (.int .i64 0) ∧ Turns S w w' ∧ WorldF (Grow S w.heap.size) w' (.slice aa V.length ca) (V.set kn (V[kn].take p)) := by
  obtain ⟨aa', ca', ea, hoka, hcapa, hmaxa⟩ := hw.sl.form
  cases ea
  obtain ⟨ax, cx, ex, hokx, hcapx, hmaxx⟩ := hu.form
  cases ex
  obtain ⟨ak, ck, hck, hbk, hokk, hmk, hmax2, hrV⟩ := kind_at hw.sl hk
  obtain ⟨g, capg, u, T, e1, e2, e3, hSg, hcg, hfg, hRg, hT, -, hback⟩ := OwnF.borrow steady_rowsF hw kn hk
  have hF := formed_any ⟨kn, p, -2, o, nw, xs⟩ ad cap
  rw [decide_eq_true hfm] at hF
  have HF := hid hF
  clear hF hfm
  simp only [Chg.val] at HF
  have hki : (kn : Int) < V.length := by omega
  have hk0 : (0 : Int) ≤ (kn : Int) := by omega
  obtain ⟨a0, c0, hc0, hb0⟩ : ∃ a0 c0, w.cell? ⟨slb ak, slo ak, none⟩ = some (.slice a0 xs.length c0) ∧ slb ak < w.heap.size := by
    obtain ⟨a0, c0, h1, h2, _⟩ := row_at hrV (show 0 < V[kn].length by omega)
    refine ⟨a0, c0, ?_, h2⟩
    rw [hmm, headD_eq [] (show 0 < V[kn].length by omega)]; simpa using h1
  obtain ⟨ap, cp, hcp, -, -, -, -, hys⟩ := row_at hrV (show p < V[kn].length by omega)
  have hyx : V[kn][p]'(by omega) = xs := by rw [← hlast, getD_eq (show p < V[kn].length by omega)]
  rw [hyx] at hcp hys
  cases e1
  simp only [slb_some, slo_some, Nat.zero_add] at hck hbk
  have eu : u = .slice ak V[kn].length ck := by rw [hck] at hcg; exact (Option.some.inj hcg).symm
  subst eu
  clear hcg hmm hrV hlast hyx
  have hR2 := (steady_rowsF.mono (S' := Grow T w.heap.size) hRg (fun b hb h => .inl ⟨h, hb⟩)).take (show p < V[kn].length by omega)
  have HR := hid hR2
  have HB := hid (fun w2 u' => hback w2 u' (V[kn].take p))
  have HT := hid hT
  have HS := hid hSg
  have HE := fun W => hid (equal_any xs xs (.slice ap xs.length cp) (.slice ad xs.length cap) S T' W)
  rw [decide_eq_true (rfl : xs = xs)] at HE
  clear hRg hR2 hback hT hw hSg
  generalize V[kn].take p = rows at *
  generalize V[kn].length = m at *
  generalize V.length = n at *
  subst hpm
  have d2 : decide ((0 : Int) < ((p + 1 : Nat) : Int)) = true := decide_eq_true (by omega)
  have d2' : (0 : Int) < (p : Int) + 1 := by omega
  have d3 : ((xs.length : Int) != (xs.length : Int)) = false := bneF rfl
  have d5 : (((p + 1 : Nat) : Int) == 0) = false := beqF (by omega)
  have d5' : ((p : Int) + 1 == 0) = false := beqF (by omega)
  have g1 : (0 : Int) ≤ p := by omega
  have g2 : (p : Int) < ((p + 1 : Nat) : Int) := by omega
  have g3 : (p : Int) < (p : Int) + 1 := by omega
  have HY := hid hys
  have HU := hid hu
  clear hys hu
  go_enter Try.func40, Try.ntmps40
  go_wp2
  have hg := Grew.cell (w := w.alloc (.cells #[.int .i64 kn, .int .i64 p, .int .i64 (-2), .int .i64 o, .int .i64 nw, .slice ad xs.length cap] 61))
  refine wp_region_quietG (by kernel_rfl) (by kernel_rfl) ?_
  repeat (go_big_quiet_step ((refine Calls.grew_of (HF.out _))))
  refine wpQuiet_nil ?_
  intro w2 hx
  have hb2 := grew_below hx
  clear hx
  have hb4 : Below w.heap.size w w2 := ((Below.refl _ _).alloc (Nat.le_refl _) _).trans (hb2.mono (by simp))
  clear hg
  obtain ⟨hcB, hfB⟩ := bcellG hb2
  have hys2 : ∀ q, IntsV S (w2.drewN q) (.slice ap xs.length cp) xs := fun q => HY.out.keep (KeepS.below (below_drewN hb4 q))
  have hxs2 : ∀ q, IntsV T' (w2.drewN q) (.slice ad xs.length cap) xs := fun q => HU.out.keep (KeepS.below (below_drewN hb4 q))
  have hys3 := hid hys2
  have hxs3 := hid hxs2
  clear hys2 hxs2 hb2
  go_wp2
  go_quiet ((refine Calls.quiet_of ((HE _).out (hys3.out _) (hxs3.out _))))
  go_wp2
  refine wp_region_quiet_tail 7 (by kernel_rfl) (by kernel_rfl) ?_
  simp only [List.take_succ_cons, List.take_zero, List.drop_succ_cons, List.drop_zero]
  repeat (go_big_quiet_step (fail))
  refine wpQuiet_nil ?_
  have ht : Turns T w ((w2.drewN nq).drewN 1) := Turns.of_below (below_drewN (below_drewN hb4 nq) 1)
  obtain ⟨k1, k2, k3, k4⟩ := HB.out _ _ ht (steady_rowsF.keep HR.out (KeepS.below (below_drewN (below_drewN hb4 nq) 1)))
  have K3 := hid k3
  have K4 := hid k4
  clear k3 k4 ht
  go_wp2
  go_ret
  exact ⟨rfl, K4.out.mono (fun b _ hb => by rcases hb with hb | hb; exact (HT.out b hb).1; rw [hb]; exact HS.out), K3.out⟩

end Go.Proofs.Ytagnjhhbbjbhcaa
