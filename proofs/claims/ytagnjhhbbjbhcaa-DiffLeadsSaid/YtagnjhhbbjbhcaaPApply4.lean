/- apply of the program: a record is added. -/
import Derived.Test.YtagnjhhbbjbhcaaPApply3
namespace Go.Proofs.Ytagnjhhbbjbhcaa
open Go.RowKit

set_option maxRecDepth 100000 in
set_option maxHeartbeats 4000000 in
theorem apply1_add (V : List (List (List Int))) (S T' : Nat → Prop) (w : World) (aa : Option Addr) (ca : Nat) (hw : WorldF S w (.slice aa V.length ca) V) (kn : Nat) (hk : kn < V.length) (hV : V.length ≤ 6) (o nw : Int) (xs : List Int) (ad : Option Addr) (cap : Nat)
    (hu : IntsV T' w (.slice ad xs.length cap) xs) (hxl : xs.length ≤ 100000) (hrl : V[kn].length ≤ 100000) (hfm : FormedC ⟨kn, V[kn].length, -1, o, nw, xs⟩) (hmm : V[kn].length = 0 ∨ xs.length = (V[kn].headD []).length) :
    Calls Try.prog 40 #[.slice aa V.length ca, .agg #[.int .i64 kn, .int .i64 V[kn].length, .int .i64 (-1), .int .i64 o, .int .i64 nw, .slice ad xs.length cap]] w fun e w' => e = .returned (.int .i64 0) ∧ Turns S w w' ∧ WorldF (Grow S w.heap.size) w' (.slice aa V.length ca) (V.set kn (V[kn] ++ [xs])) := by
  obtain ⟨aa', ca', ea, hoka, hcapa, hmaxa⟩ := hw.sl.form
  cases ea
  obtain ⟨ax, cx, ex, hokx, hcapx, hmaxx⟩ := hu.form
  cases ex
  obtain ⟨ak, ck, hck, hbk, hokk, hmk, hmax2, hrV⟩ := kind_at hw.sl hk
  obtain ⟨g, capg, u, T, e1, e2, e3, hSg, hcg, hfg, hRg, hT, -, hback⟩ := OwnF.borrow steady_rowsF hw kn hk
  have hF := formed_any ⟨kn, V[kn].length, -1, o, nw, xs⟩ ad cap
  rw [decide_eq_true hfm] at hF
  have HF := hid hF
  clear hF hfm
  simp only [Chg.val] at HF
  have hki : (kn : Int) < V.length := by omega
  have hk0 : (0 : Int) ≤ (kn : Int) := by omega
  have hm : V[kn].length = 0 ∨ ∃ a0 c0, 0 < V[kn].length ∧ w.cell? ⟨slb ak, slo ak, none⟩ = some (.slice a0 xs.length c0) ∧ slb ak < w.heap.size := by
    rcases Nat.eq_zero_or_pos V[kn].length with h0 | h0
    · exact .inl h0
    · obtain ⟨a0, c0, h1, h2, _⟩ := row_at hrV h0
      refine .inr ⟨a0, c0, h0, ?_, h2⟩
      rcases hmm with h | h
      · omega
      · rw [h, headD_eq [] h0]; simpa using h1
  cases e1
  simp only [slb_some, slo_some, Nat.zero_add] at hck hbk
  have eu : u = .slice ak V[kn].length ck := by rw [hck] at hcg; exact (Option.some.inj hcg).symm
  subst eu
  clear hcg hmm hrV
  have HR := hid hRg
  have HB := hid hback
  have HU := hid hu
  have HT := hid hT
  have HS := hid hSg
  clear hRg hback hu hT hw hSg
  generalize V[kn] = rows at *
  generalize V.length = n at *
  generalize hmr : rows.length = m at *
  have HM := hid hmr
  clear hmr
  rcases hm with hm | ⟨a0, c0, hm, hc0, hb0⟩
  all_goals
    first
      | have d2 : decide ((0 : Int) < (m : Int)) = false := decide_eq_false (by omega)
        have d2' : decide (0 < m) = false := decide_eq_false (by omega)
        clear hm
      | have d2 : decide ((0 : Int) < (m : Int)) = true := by simpa using hm
        have d3 : ((xs.length : Int) != (xs.length : Int)) = false := bneF rfl
        have hmi : (0 : Int) < m := by omega
    go_enter Try.func40, Try.ntmps40
    go_wp2
    have hg := Grew.cell (w := w.alloc (.cells #[.int .i64 kn, .int .i64 m, .int .i64 (-1), .int .i64 o, .int .i64 nw, .slice ad xs.length cap] 61))
    refine wp_region_quietG (by kernel_rfl) (by kernel_rfl) ?_
    repeat (go_big_quiet_step ((refine Calls.grew_of (HF.out _))))
    refine wpQuiet_nil ?_
    intro w2 hx
    have hb2 := grew_below hx
    clear hx
    have hb4 : Below w.heap.size w w2 := ((Below.refl _ _).alloc (Nat.le_refl _) _).trans (hb2.mono (by simp))
    clear hg
    obtain ⟨hcB, hfB⟩ := bcellG hb2
    have hs2 : w.heap.size < w2.heap.size := by have := hb2.size; simp at this; omega
    clear hb2
    go_wp2
    have hh0 : w2.cell? ⟨w.heap.size, 0, none⟩ = some (.int .i64 kn) := by rw [hcB _ _ (by simp)]; simp [World.cell?_alloc_new]
    have hh5 : w2.cell? ⟨w.heap.size, 5, none⟩ = some (.slice ad xs.length cap) := by rw [hcB _ _ (by simp)]; simp [World.cell?_alloc_new]
    refine wp_region_held 9 [(true, 0), (true, 1), (true, 2), (true, 3), (true, 4), (true, 5), (false, 6), (false, 7), (false, 8)]
      (fun W => W.cell? ⟨w.heap.size, 0, none⟩ = some (.int .i64 kn) ∧ W.cell? ⟨w.heap.size, 5, none⟩ = some (.slice ad xs.length cap)) (by kernel_rfl) (by kernel_rfl) ⟨hh0, hh5⟩ ?_
    intro hne
    refine wpSteps_pre 6 (by decide) ?_
    simp only [List.take_succ_cons, List.take_zero]
    have hx0 : ∀ x : Held (fun W => W.cell? ⟨w.heap.size, 0, none⟩ = some (.int .i64 kn) ∧ W.cell? ⟨w.heap.size, 5, none⟩ = some (.slice ad xs.length cap)), x.1.cell? ⟨w.heap.size, 0, none⟩ = some (.int .i64 kn) := fun x => x.2.1
    have hx5 : ∀ x : Held (fun W => W.cell? ⟨w.heap.size, 0, none⟩ = some (.int .i64 kn) ∧ W.cell? ⟨w.heap.size, 5, none⟩ = some (.slice ad xs.length cap)), x.1.cell? ⟨w.heap.size, 5, none⟩ = some (.slice ad xs.length cap) := fun x => x.2.2
    repeat (go_big_quiet_step (fail))
    refine wpQuiet_nil ?_
    refine wpSteps_one rfl ?_
    clear hx0 hx5 hne
    go_wp2_with fail
    refine (clone_any xs hxl _ T' _ (HU.out.keep (KeepS.below (below_drewN hb4 1)))).mono ?_
    rintro e w3 ⟨x, rfl, hI, hb3⟩
    have hs3 : w2.heap.size ≤ w3.heap.size := by have := hb3.size; simpa using this
    have hb5 : Below w.heap.size w w3 := (below_drewN hb4 1).trans (hb3.mono (by simp; omega))
    have hc30 : w3.cell? ⟨w.heap.size, 0, none⟩ = some (.int .i64 kn) := cell_later hb3 hh0
    have hc35 : w3.cell? ⟨w.heap.size, 5, none⟩ = some (.slice ad xs.length cap) := cell_later hb3 hh5
    have hsl := hI.sl
    obtain ⟨av, cv, rfl, -, -, -⟩ := hsl.form
    have HI : Hid (IntsF (fun b => w.heap.size ≤ b) w3 (.slice av xs.length cv) xs) := hid (steady_intsF.mono hI (fun b _ hb => by have : w2.heap.size ≤ b := hb; omega))
    clear hsl hI hcB hfB hh0 hh5 hb3
    go_wp2
    refine qn_mk ⟨InHeld.of ⟨hc30, hc35⟩, ?_⟩
    refine wpSteps_one rfl ?_
    go_wp2
    have hc40 : (w3.alloc (.cells #[.slice av xs.length cv] 22)).cell? ⟨w.heap.size, 0, none⟩ = some (.int .i64 kn) := by rw [World.cell?_alloc_lt _ _ _ (by simp; omega)]; exact hc30
    have hc45 : (w3.alloc (.cells #[.slice av xs.length cv] 22)).cell? ⟨w.heap.size, 5, none⟩ = some (.slice ad xs.length cap) := by rw [World.cell?_alloc_lt _ _ _ (by simp; omega)]; exact hc35
    refine qn_mk ⟨InHeld.of ⟨hc40, hc45⟩, ?_⟩
    clear hc40 hc45
    refine wpSteps_one rfl ?_
    go_wp2_with (at_builtin; go_must (refine wpList_appF1 steady_intsF rfl _ _ rfl Try.app63 rfl HR.out hb5 rfl xs HI.out rfl (by have := HM.out; omega) ?_))
    intro v' w4 hR4 ht4
    obtain ⟨av', lv', cv', rfl⟩ : ∃ a l c, v' = .slice a l c := by obtain ⟨a, c, e, _⟩ := (RowsF.sl hR4).form; exact ⟨_, _, _, e⟩
    have hne : some w.heap.size ≠ (Value.slice ak m ck).ownBlock := fun e => by have := (HT.out _ (HR.out.1 _ e.symm)).2.2; omega
    have hc40 : w4.cell? ⟨w.heap.size, 0, none⟩ = some (.int .i64 kn) := by
      rw [World.cell?_of_block (w := w3) (a := ⟨w.heap.size, 0, none⟩) (ht4.block _ hne (by show w.heap.size < w3.heap.size; omega))]; exact hc30
    have hc45 : w4.cell? ⟨w.heap.size, 5, none⟩ = some (.slice ad xs.length cap) := by
      rw [World.cell?_of_block (w := w3) (a := ⟨w.heap.size, 5, none⟩) (ht4.block _ hne (by show w.heap.size < w3.heap.size; omega))]; exact hc35
    have htT : Turns T w w4 := (Turns.of_below hb5).trans (ht4.mono fun b _ hb => HR.out.1 b hb.symm)
    obtain ⟨k1, k2, k3, k4⟩ := HB.out w4 _ (rows ++ [xs]) htT hR4
    have K3 := hid k3
    have K4 := hid k4
    clear k3 k4 hR4 ht4 hne HI htT
    go_wp2
    refine qn_mk ⟨InHeld.of ⟨hc40, hc45⟩, ?_⟩
    refine wpSteps_done ?_
    clear hck hc30 hc35
    go_wp2
    go_ret
    exact ⟨rfl, K4.out.mono (fun b _ hb => by rcases hb with hb | hb; exact (HT.out b hb).1; rw [hb]; exact HS.out), K3.out⟩

end Go.Proofs.Ytagnjhhbbjbhcaa
