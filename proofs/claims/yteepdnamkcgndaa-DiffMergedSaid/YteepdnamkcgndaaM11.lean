/- The program's plain. -/
import Derived.Test.YteepdnamkcgndaaM9
import Derived.Deep.DeepCutAuto
import Derived.Deep.LoopGhost
namespace Go.Proofs.Yteepdnamkcgndaa
open Go.RowKit

theorem underPart : Try.prog.underlying 55 = some (.map 3 62) := by kernel_rfl
theorem underSize : Try.prog.underlying 75 = some (.map 3 3) := by kernel_rfl
theorem zeroPart (w : World) : (zeroValue 62).run Try.prog w = .ok (.agg #[.slice none 0 0, .slice none 0 0]) w := by kernel_rfl
theorem zeroInt (w : World) : (zeroValue 3).run Try.prog w = .ok (.int .i64 0) w := by kernel_rfl

theorem idx_predP {a : Option Addr} {n cap k : Nat} (hok : Slok a n) (h1 : 1 ≤ k) (hk : k ≤ n) (X : World) :
    (Instr.indexAt 34 (.slice a n cap) (.int .i64 ((k : Int) - 1))).run Try.prog X = .ok (.pointer (some ⟨slb a, slo a + (k - 1) * 6, none⟩)) X := by
  have htn : ((k : Int) - 1).toNat = k - 1 := by omega
  have h := run_indexAt_var (P := Try.prog) X 34 a n cap .i64 ((k : Int) - 1) (by kernel_rfl) hok (by omega) (by omega)
  have hs1 : (sizeOf (Try.prog.elem 34)).run Try.prog X = .ok 6 X := by kernel_rfl
  rw [h, hs1, htn]
  simp [Result.andThen]

/-- The map of the parts. -/
def PMap (W : World) (b : Nat) (cs : List Chg) : Prop := ∃ pt n, n ≤ cs.length ∧ MapI W b n (partF cs cs.length pt) ∧ (∀ j s, ChV AnyB W (pt j s) (Mer.ofR cs j s)) ∧ ∀ j s, Mer.ofR cs j s = [] → pt j s = .slice none 0 0
theorem PMap.keep {W W' : World} {b : Nat} {cs : List Chg} (h : PMap W b cs) (hb : Below W.heap.size W W') : PMap W' b cs := by
  obtain ⟨pt, n, h1, h2, h3, h4⟩ := h
  exact ⟨pt, n, h1, h2.keep (hb.block _ h2.lt), fun j s => (h3 j s).keep (KeepS.below hb), h4⟩
theorem partF_get {cs : List Chg} {k : Nat} {pt : Int → Bool → Value} (hn : ∀ j s, Mer.ofR (cs.take k) j s = [] → pt j s = .slice none 0 0) (j : Int) : (partF cs k pt j).getD (.agg #[.slice none 0 0, .slice none 0 0]) = .agg #[pt j true, pt j false] := by
  unfold partF
  split
  · rfl
  · rename_i h
    have he : ∀ s, Mer.ofR (cs.take k) j s = [] := fun s => by
      rw [List.eq_nil_iff_forall_not_mem]
      intro c hc
      obtain ⟨h1, h2, _⟩ := Mer.ofR_mem.1 hc
      exact h (List.any_eq_true.2 ⟨c, h1, decide_eq_true h2⟩)
    rw [hn j true (he true), hn j false (he false)]
    rfl
theorem PInv.zero (w : World) (cs : List Chg) : PInv w w.heap.size (w.heap.size + 1) cs 0 (fun _ _ => .slice none 0 0) ((w.alloc (.map #[] 0)).alloc (.map #[] 0)) := by
  have hb : Below (w.alloc (.map #[] 0)).heap.size (w.alloc (.map #[] 0)) ((w.alloc (.map #[] 0)).alloc (.map #[] 0)) := (Below.refl _ _).alloc (Nat.le_refl _) _
  have m1 := MapI.made w
  have m2 := MapI.made (w.alloc (.map #[] 0))
  have hsz : (w.alloc (.map #[] 0)).heap.size = w.heap.size + 1 := by simp
  rw [hsz] at m2
  refine ⟨((Below.refl _ _).alloc (Nat.le_refl _) _).alloc (by simp) _, (m1.keep (hb.block _ m1.lt)).congr (fun j _ => by simp [partF]), ⟨0, Nat.le_refl _, m2.congr (fun j _ => by simp [sizeF, Mer.ofR])⟩, ⟨by omega, by omega, by omega⟩, fun j s => ?_, fun j s j' s' b h => ?_, fun _ _ _ => rfl, fun j _ h => by omega, fun j _ h => by omega, SizesTo.zero cs⟩
  · simp only [List.take_zero]
    exact OwnC.nil _ _ _ _
  · cases h

set_option maxRecDepth 100000 in
set_option maxHeartbeats 8000000 in
theorem plainW_any (cs : List Chg) (hc : cs.length ≤ 100000) (hg : GoodL cs) (u : Value) (S : Nat → Prop) (w : World) (hu : ChV S w u cs) :
    Calls Try.prog 23 #[u] w fun e w' => ∃ m, e = .returned (.tuple #[m, .bool (Mer.plainP cs)]) ∧ (Mer.plainP cs = true → ∃ b, m = .map (some b) ∧ PMap w' b cs) ∧ Below w.heap.size w w' := by
  have HU0 := hid (ChV.mono (S' := (· < w.heap.size)) hu (fun b hb _ => hb))
  obtain ⟨a, cap, rfl, hok, hcap, hmax⟩ := hu.form
  clear hu
  have hmm := @run_makeMap Try.prog
  go_enter Try.func23, Try.ntmps23
  go_wp2
  clear hmm
  go_loopg [18] cs.length (fun g i wr => ∃ (k : Nat) (pt : Int → Bool → Value), k ≤ cs.length ∧ g = cs.length - k ∧ i = .int .i64 k ∧ Hid (PInv w w.heap.size (w.heap.size + 1) cs k pt wr))
  case atStart => exact ⟨0, _, by omega, rfl, rfl, hid (PInv.zero w cs)⟩
  case round =>
    obtain ⟨k, pt, hk, hgk, rfl, HI⟩ := hrel
    by_cases hlt : k < cs.length
    · have hu1 : ChV (· < w.heap.size) wr (.slice a cs.length cap) cs := HU0.out.keep (KeepS.below HI.out.below)
      obtain ⟨hbk, -, c0, c1, c2, c3, c4, ul, c5, hul⟩ := hu1.at hlt
      have hk0 : (0 : Int) ≤ k := by omega
      have hk1 : (k : Int) < cs.length := by omega
      obtain ⟨c, hck⟩ : ∃ c, cs[k] = c := ⟨_, rfl⟩
      have HCK := hid hck
      rw [hck] at c0 c1 c2 c3 c4 hul
      clear hck
      obtain ⟨k0, i0, f0, o0, n0, vs⟩ := c
      simp only at c0 c1 c2 c3 c4 hul
      obtain ⟨al, cl, rfl, -, -, -⟩ := hul.form
      have HUL := hid hul
      clear hul hu1
      have HNB : Hid (baseB ⟨k0, i0, f0, o0, n0, vs⟩ = false → Mer.plainP cs = false) := hid (fun h => pp_base hlt (by rw [HCK.out]; exact h))
      have HNO : Hid (∀ h1 : 1 ≤ k, Mer.orderP (cs[k - 1]'(by omega)) ⟨k0, i0, f0, o0, n0, vs⟩ = false → Mer.plainP cs = false) := hid (fun h1 h => pp_order h1 hlt (by rw [HCK.out]; exact h))
      have HYO : Hid (∀ h1 : 1 ≤ k, Mer.orderP (cs[k - 1]'(by omega)) ⟨k0, i0, f0, o0, n0, vs⟩ = true → ChainTo Mer.orderP cs (k + 1)) := hid (fun h1 h => HI.out.order.next h1 hlt (by rw [HCK.out]; exact h))
      have HGC : Hid (GoodC ⟨k0, i0, f0, o0, n0, vs⟩) := hid (by rw [← HCK.out]; exact hg _ (List.getElem_mem _))
      go_upto_region 6 with fail
      obtain ⟨W1, hW1⟩ : ∃ W1, W1 = wr.alloc (.cells #[.int .i64 k0, .int .i64 i0, .int .i64 f0, .int .i64 o0, .int .i64 n0, .slice al vs.length cl] 59) := ⟨_, rfl⟩
      rw [← hW1]
      have HW1 : Hid (Below wr.heap.size wr W1) := hid (by rw [hW1]; exact (Below.refl _ _).alloc (Nat.le_refl _) _)
      have HBX : Hid (∀ W', Below W1.heap.size W1 W' → W'.cell? ⟨wr.heap.size, 0, none⟩ = some (.int .i64 k0) ∧ W'.cell? ⟨wr.heap.size, 1, none⟩ = some (.int .i64 i0) ∧ W'.cell? ⟨wr.heap.size, 2, none⟩ = some (.int .i64 f0) ∧
          W'.cell? ⟨wr.heap.size, 3, none⟩ = some (.int .i64 o0) ∧ W'.cell? ⟨wr.heap.size, 4, none⟩ = some (.int .i64 n0) ∧ W'.cell? ⟨wr.heap.size, 5, none⟩ = some (.slice al vs.length cl) ∧ wr.heap.size < W'.heap.size) := hid (fun W' h => by
        have h1 : W'.heap[wr.heap.size]? = some (.cells #[.int .i64 k0, .int .i64 i0, .int .i64 f0, .int .i64 o0, .int .i64 n0, .slice al vs.length cl] 59 (0, 0)) := by
          rw [h.block _ (by rw [hW1]; simp), hW1]
          exact World.alloc_heap_new wr _
        refine ⟨?_, ?_, ?_, ?_, ?_, ?_, (Array.getElem?_eq_some_iff.1 h1).1⟩
        · rw [cell_of_row _ _ 0 _ _ (0, 0) h1]; rfl
        · rw [cell_of_row _ _ 1 _ _ (0, 0) h1]; rfl
        · rw [cell_of_row _ _ 2 _ _ (0, 0) h1]; rfl
        · rw [cell_of_row _ _ 3 _ _ (0, 0) h1]; rfl
        · rw [cell_of_row _ _ 4 _ _ (0, 0) h1]; rfl
        · rw [cell_of_row _ _ 5 _ _ (0, 0) h1]; rfl)
      have HS1 : Hid (W1.heap.size = wr.heap.size + 1) := hid (by rw [hW1]; simp)
      clear hW1 c0 c1 c2 c3 c4 c5
      go_cut [18, 75] from 18 to 120 (fun i s wx => i = .int .i64 k ∧ ∃ bd : Bool, s = .bool bd ∧ Hid (bd = true → Mer.plainP cs = false) ∧ Hid (bd = false → baseB ⟨k0, i0, f0, o0, n0, vs⟩ = true ∧ ChainTo Mer.orderP cs (k + 1)) ∧ Hid (Below W1.heap.size W1 wx))
      case first =>
        have b0 : ∀ x : Grew W1, x.1.cell? ⟨wr.heap.size, 0, none⟩ = some (.int .i64 k0) := fun x => (HBX.out x.1 x.2).1
        have b1 : ∀ x : Grew W1, x.1.cell? ⟨wr.heap.size, 1, none⟩ = some (.int .i64 i0) := fun x => (HBX.out x.1 x.2).2.1
        have b2 : ∀ x : Grew W1, x.1.cell? ⟨wr.heap.size, 2, none⟩ = some (.int .i64 f0) := fun x => (HBX.out x.1 x.2).2.2.1
        have b3 : ∀ x : Grew W1, x.1.cell? ⟨wr.heap.size, 3, none⟩ = some (.int .i64 o0) := fun x => (HBX.out x.1 x.2).2.2.2.1
        have b4 : ∀ x : Grew W1, x.1.cell? ⟨wr.heap.size, 4, none⟩ = some (.int .i64 n0) := fun x => (HBX.out x.1 x.2).2.2.2.2.1
        have b5 : ∀ x : Grew W1, x.1.cell? ⟨wr.heap.size, 5, none⟩ = some (.slice al vs.length cl) := fun x => (HBX.out x.1 x.2).2.2.2.2.2.1
        by_cases h1 : k0 < 0
        · have hd1 := decide_eq_true h1
          have HR := hid (HNB.out (by unfold baseB; rw [decide_eq_false (show ¬ (0 : Int) ≤ k0 by omega)]; rfl))
          clear HNB HNO HYO
          refine wp_region_quietG (by kernel_rfl) (by kernel_rfl) ?_
          repeat (go_big_quiet_step (fail))
          refine wpQuiet_nil ?_
          intro wx hwx
          have HBG := hid (grew_below hwx)
          clear hwx b0 b1 b2 b3 b4 b5
          go_wp2
          go_meet
          case rel => exact ⟨rfl, true, rfl, hid (fun _ => HR.out), hid (fun h => by cases h), HBG⟩
        · have hd1 := decide_eq_false h1
          by_cases h2 : i0 < 0
          · have hd2 := decide_eq_true h2
            have HR := hid (HNB.out (by unfold baseB; rw [decide_eq_false (show ¬ (0 : Int) ≤ i0 by omega)]; simp))
            clear HNB HNO HYO
            refine wp_region_quietG (by kernel_rfl) (by kernel_rfl) ?_
            repeat (go_big_quiet_step (fail))
            refine wpQuiet_nil ?_
            intro wx hwx
            have HBG := hid (grew_below hwx)
            clear hwx b0 b1 b2 b3 b4 b5
            go_wp2
            go_meet
            case rel => exact ⟨rfl, true, rfl, hid (fun _ => HR.out), hid (fun h => by cases h), HBG⟩
          · have hd2 := decide_eq_false h2
            by_cases h3 : FormedC ⟨k0, i0, f0, o0, n0, vs⟩
            · have HF : Hid (∀ W, Calls Try.prog 38 #[.agg #[.int .i64 k0, .int .i64 i0, .int .i64 f0, .int .i64 o0, .int .i64 n0, .slice al vs.length cl]] W fun e w' => e = .returned (.bool true) ∧ Below W.heap.size W w') :=
                hid (fun W => (formed_any ⟨k0, i0, f0, o0, n0, vs⟩ al cl W).mono (fun _ _ h => ⟨h.1.trans (by rw [decide_eq_true h3]), h.2⟩))
              have HBs : Hid (baseB ⟨k0, i0, f0, o0, n0, vs⟩ = true) := hid (by unfold baseB; rw [formedB_eq, decide_eq_true h3, decide_eq_true (show (0 : Int) ≤ k0 by omega), decide_eq_true (show (0 : Int) ≤ i0 by omega)]; rfl)
              clear h3 HNB
              by_cases hz : k = 0
              · have HR : Hid (baseB ⟨k0, i0, f0, o0, n0, vs⟩ = true ∧ ChainTo Mer.orderP cs (k + 1)) := hid ⟨HBs.out, fun j _ h => by omega⟩
                have hdz : decide (0 < k) = false := decide_eq_false (by omega)
                clear HNO HYO hz
                refine wp_region_quietG (by kernel_rfl) (by kernel_rfl) ?_
                repeat (go_big_quiet_step ((refine Calls.grew_of (HF.out _))))
                refine wpQuiet_nil ?_
                intro wx hwx
                have HBG := hid (grew_below hwx)
                clear hwx b0 b1 b2 b3 b4 b5
                go_wp2
                go_meet
                case rel => exact ⟨rfl, false, rfl, hid (fun h => by cases h), hid (fun _ => HR.out), HBG⟩
              · have hk2 : 1 ≤ k := by omega
                have hdz : decide (0 < k) = true := decide_eq_true (by omega)
                have hlt' : k - 1 < cs.length := by omega
                have hix := idx_predP (cap := cap) hok hk2 (Nat.le_of_lt hlt)
                have hu1 : ChV (· < w.heap.size) wr (.slice a cs.length cap) cs := HU0.out.keep (KeepS.below HI.out.below)
                obtain ⟨hbk', -, d0, d1, d2, d3, d4, vl, d5, hvl⟩ := hu1.at hlt'
                have HG1 := hid (hg _ (List.getElem_mem hlt'))
                have HNO' := hid (HNO.out hk2)
                have HYO' := hid (HYO.out hk2)
                clear HNO HYO hu1 hz
                generalize cs[k - 1] = d at *
                obtain ⟨k1, i1, f1, o1, n1, ws⟩ := d
                simp only at d0 d1 d2 d3 d4 hvl
                obtain ⟨bl, el, rfl, -, -, -⟩ := hvl.form
                have e0 : ∀ x : Grew W1, x.1.cell? ⟨slb a, slo a + (k - 1) * 6, none⟩ = some (.int .i64 k1) := fun x => cell_later (HW1.out.trans (x.2.mono HW1.out.size)) d0
                have e1 : ∀ x : Grew W1, x.1.cell? ⟨slb a, slo a + (k - 1) * 6 + 1, none⟩ = some (.int .i64 i1) := fun x => cell_later (HW1.out.trans (x.2.mono HW1.out.size)) d1
                have e2 : ∀ x : Grew W1, x.1.cell? ⟨slb a, slo a + (k - 1) * 6 + 2, none⟩ = some (.int .i64 f1) := fun x => cell_later (HW1.out.trans (x.2.mono HW1.out.size)) d2
                have e3 : ∀ x : Grew W1, x.1.cell? ⟨slb a, slo a + (k - 1) * 6 + 3, none⟩ = some (.int .i64 o1) := fun x => cell_later (HW1.out.trans (x.2.mono HW1.out.size)) d3
                have e4 : ∀ x : Grew W1, x.1.cell? ⟨slb a, slo a + (k - 1) * 6 + 4, none⟩ = some (.int .i64 n1) := fun x => cell_later (HW1.out.trans (x.2.mono HW1.out.size)) d4
                have e5 : ∀ x : Grew W1, x.1.cell? ⟨slb a, slo a + (k - 1) * 6 + 5, none⟩ = some (.slice bl ws.length el) := fun x => cell_later (HW1.out.trans (x.2.mono HW1.out.size)) d5
                clear d0 d1 d2 d3 d4 d5 hvl
                by_cases j1 : k0 < k1
                · have hj1 := decide_eq_true j1
                  have HR := hid (HNO'.out (orderP_kind (by exact j1)))
                  clear HNO' HYO' 
                  refine wp_region_quietG (by kernel_rfl) (by kernel_rfl) ?_
                  repeat (go_big_quiet_step ((refine Calls.grew_of (HF.out _))))
                  refine wpQuiet_nil ?_
                  intro wx hwx
                  have HBG := hid (grew_below hwx)
                  clear e0 e1 e2 e3 e4 e5 hwx b0 b1 b2 b3 b4 b5
                  go_wp2
                  go_meet
                  case rel => exact ⟨rfl, true, rfl, hid (fun _ => HR.out), hid (fun h => by cases h), HBG⟩
                · have hj1 := decide_eq_false j1
                  by_cases j2 : k0 = k1
                  · subst j2
                    have HOE : Hid (Mer.orderP ⟨k0, i1, f1, o1, n1, ws⟩ ⟨k0, i0, f0, o0, n0, vs⟩ = Mer.nextB ⟨k0, i1, f1, o1, n1, ws⟩ ⟨k0, i0, f0, o0, n0, vs⟩) := hid (orderP_same (by rfl))
                    have HX0 := hid (fun W => next_any ⟨k0, i1, f1, o1, n1, ws⟩ ⟨k0, i0, f0, o0, n0, vs⟩ (by exact (lil5.1 HG1.out.ints).2.1) bl al ws.length vs.length el cl W)
                    cases hnx : Mer.nextB ⟨k0, i1, f1, o1, n1, ws⟩ ⟨k0, i0, f0, o0, n0, vs⟩ with
                    | false =>
                      have HX : Hid (∀ W, Calls Try.prog 39 #[.agg #[.int .i64 k0, .int .i64 i1, .int .i64 f1, .int .i64 o1, .int .i64 n1, .slice bl ws.length el], .agg #[.int .i64 k0, .int .i64 i0, .int .i64 f0, .int .i64 o0, .int .i64 n0, .slice al vs.length cl]] W fun e w' => e = .returned (.bool false) ∧ Below W.heap.size W w') :=
                        hid (fun W => (HX0.out W).mono (fun _ _ h => ⟨h.1.trans (by rw [hnx]), h.2⟩))
                      have HR := hid (HNO'.out (HOE.out.trans hnx))
                      clear HNO' HYO' hnx HX0 HOE
                      refine wp_region_quietG (by kernel_rfl) (by kernel_rfl) ?_
                      iterate 11 (go_big_quiet_step ((refine Calls.grew_of (HF.out _))))
                      repeat (go_big_quiet_step ((refine Calls.grew_of (HX.out _))))
                      refine wpQuiet_nil ?_
                      intro wx hwx
                      have HBG := hid (grew_below hwx)
                      clear e0 e1 e2 e3 e4 e5 hwx b0 b1 b2 b3 b4 b5
                      go_wp2
                      go_meet
                      case rel => exact ⟨rfl, true, rfl, hid (fun _ => HR.out), hid (fun h => by cases h), HBG⟩
                    | true =>
                      have HX : Hid (∀ W, Calls Try.prog 39 #[.agg #[.int .i64 k0, .int .i64 i1, .int .i64 f1, .int .i64 o1, .int .i64 n1, .slice bl ws.length el], .agg #[.int .i64 k0, .int .i64 i0, .int .i64 f0, .int .i64 o0, .int .i64 n0, .slice al vs.length cl]] W fun e w' => e = .returned (.bool true) ∧ Below W.heap.size W w') :=
                        hid (fun W => (HX0.out W).mono (fun _ _ h => ⟨h.1.trans (by rw [hnx]), h.2⟩))
                      have HR := hid (And.intro HBs.out (HYO'.out (HOE.out.trans hnx)))
                      clear HNO' HYO' hnx HX0 HOE
                      refine wp_region_quietG (by kernel_rfl) (by kernel_rfl) ?_
                      iterate 11 (go_big_quiet_step ((refine Calls.grew_of (HF.out _))))
                      repeat (go_big_quiet_step ((refine Calls.grew_of (HX.out _))))
                      refine wpQuiet_nil ?_
                      intro wx hwx
                      have HBG := hid (grew_below hwx)
                      clear e0 e1 e2 e3 e4 e5 hwx b0 b1 b2 b3 b4 b5
                      go_wp2
                      go_meet
                      case rel => exact ⟨rfl, false, rfl, hid (fun h => by cases h), hid (fun _ => HR.out), HBG⟩
                  · have hj2 : (k0 == k1) = false := beqF j2
                    have HR := hid (And.intro HBs.out (HYO'.out (orderP_more (by show k1 < k0; omega))))
                    clear HNO' HYO' j2
                    refine wp_region_quietG (by kernel_rfl) (by kernel_rfl) ?_
                    repeat (go_big_quiet_step ((refine Calls.grew_of (HF.out _))))
                    refine wpQuiet_nil ?_
                    intro wx hwx
                    have HBG := hid (grew_below hwx)
                    clear e0 e1 e2 e3 e4 e5 hwx b0 b1 b2 b3 b4 b5
                    go_wp2
                    go_meet
                    case rel => exact ⟨rfl, false, rfl, hid (fun h => by cases h), hid (fun _ => HR.out), HBG⟩
            · have HF : Hid (∀ W, Calls Try.prog 38 #[.agg #[.int .i64 k0, .int .i64 i0, .int .i64 f0, .int .i64 o0, .int .i64 n0, .slice al vs.length cl]] W fun e w' => e = .returned (.bool false) ∧ Below W.heap.size W w') :=
                hid (fun W => (formed_any ⟨k0, i0, f0, o0, n0, vs⟩ al cl W).mono (fun _ _ h => ⟨h.1.trans (by rw [decide_eq_false h3]), h.2⟩))
              have HR := hid (HNB.out (by unfold baseB; rw [formedB_eq, decide_eq_false h3]; simp))
              clear h3 HNB HNO HYO
              refine wp_region_quietG (by kernel_rfl) (by kernel_rfl) ?_
              repeat (go_big_quiet_step ((refine Calls.grew_of (HF.out _))))
              refine wpQuiet_nil ?_
              intro wx hwx
              have HBG := hid (grew_below hwx)
              clear hwx b0 b1 b2 b3 b4 b5
              go_wp2
              go_meet
              case rel => exact ⟨rfl, true, rfl, hid (fun _ => HR.out), hid (fun h => by cases h), HBG⟩
      case rest =>
        obtain ⟨rfl, bd, rfl, HCB, HCG, HBc⟩ := hcut
        have HBcr : Hid (Below wr.heap.size wr wc) := hid (HW1.out.trans (HBc.out.mono HW1.out.size))
        have HIc : Hid (PInv w w.heap.size (w.heap.size + 1) cs k pt wc) := hid (HI.out.keep HBcr.out)
        cases bd with
        | true =>
          have HR := hid (HCB.out rfl)
          go_wp2
          go_ret2
          exact ⟨_, by rw [HR.out]; rfl, (fun h => by rw [HR.out] at h; cases h), HIc.out.below⟩
        | false =>
          have HR := hid (HCG.out rfl)
          have HM5L : Hid (w.heap.size + 1 < wr.heap.size) := hid (by obtain ⟨n5, _, hm5⟩ := HI.out.size; exact hm5.lt)
          have HAP : Hid (∀ s b, some b = (pt k0 s).ownBlock → b < wr.heap.size) := hid (fun s b hb => ((HI.out.own k0 s).lt b hb).2)
          clear HCB HCG HNB HNO HYO HI
          have b0 := (HBX.out wc HBc.out).1
          have b1 := (HBX.out wc HBc.out).2.1
          have b2 := (HBX.out wc HBc.out).2.2.1
          have b3 := (HBX.out wc HBc.out).2.2.2.1
          have b4 := (HBX.out wc HBc.out).2.2.2.2.1
          have b5 := (HBX.out wc HBc.out).2.2.2.2.2.1
          have bsz := (HBX.out wc HBc.out).2.2.2.2.2.2
          have HLR : Hid (wr.heap.size < wc.heap.size) := hid bsz
          have HWK : Hid (WfI k0) := hid (by have h := (lil5.1 HGC.out.ints).1; simp only at h; unfold WfI; omega)
          have HGET := hid (partF_get HIc.out.blank k0)
          have HULc : Hid (∀ W (v : Value), (∀ b, b < w.heap.size → W.heap[b]? = wc.heap[b]?) → (∀ b, some b = v.ownBlock → w.heap.size ≤ b) → IntsV (fun b => b < w.heap.size ∧ some b ≠ v.ownBlock) W (.slice al vs.length cl) vs) :=
            hid (fun W v h hv => IntsV.mono ((HUL.out.keep (KeepS.below HBcr.out)).keep (fun b hb _ => h b hb)) (fun b _ hb' => ⟨hb', fun e => by have := hv b e; omega⟩))
          have HSZ : Hid (w.heap.size ≤ wc.heap.size) := hid HIc.out.below.size
          obtain ⟨pa, pc, hpe, -, -, -⟩ := ((HIc.out.own k0 true).sl).form
          obtain ⟨qa, qc, hqe, -, -, -⟩ := ((HIc.out.own k0 false).sl).form
          obtain ⟨np, hnp⟩ : ∃ n, (Mer.ofR (cs.take k) k0 true).length = n := ⟨_, rfl⟩
          obtain ⟨nq, hnq⟩ : ∃ n, (Mer.ofR (cs.take k) k0 false).length = n := ⟨_, rfl⟩
          rw [hnp] at hpe
          rw [hnq] at hqe
          have HLN : Hid ((Mer.ofR (cs.take k) k0 true).length ≤ 100000 ∧ (Mer.ofR (cs.take k) k0 false).length ≤ 100000) := hid (by
            have h1 := ofR_len (cs.take k) k0 true
            have h2 := ofR_len (cs.take k) k0 false
            rw [List.length_take] at h1 h2
            omega)
          have HPE := hid hpe
          have HQE := hid hqe
          rw [hpe, hqe] at HGET
          have HLT : Hid (∀ s b, some b = (pt k0 s).ownBlock → w.heap.size ≤ b ∧ b < wc.heap.size) := hid (fun s b hb => (HIc.out.own k0 s).lt b hb)
          clear hpe hqe hnp hnq
          have HPB : Hid (∀ b, some b = (Value.slice pa np pc).ownBlock → w.heap.size ≤ b ∧ b < wr.heap.size) := hid (fun b hb => ⟨(HLT.out true b (hb.trans (by rw [HPE.out]))).1, HAP.out true b (hb.trans (by rw [HPE.out]))⟩)
          have HQB : Hid (∀ b, some b = (Value.slice qa nq qc).ownBlock → w.heap.size ≤ b ∧ b < wr.heap.size) := hid (fun b hb => ⟨(HLT.out false b (hb.trans (by rw [HQE.out]))).1, HAP.out false b (hb.trans (by rw [HQE.out]))⟩)
          have HAL : Hid (∀ o : Obj, Below wc.heap.size wc (wc.alloc o)) := hid (fun o => (Below.refl _ _).alloc (Nat.le_refl _) _)
          have HB7 := hid (And.intro b0 (And.intro b1 (And.intro b2 (And.intro b3 (And.intro b4 b5)))))
          by_cases h0 : 0 ≤ f0
          · have HD0 := hid (decide_eq_true h0)
            obtain ⟨n5, hn5, hm5⟩ := HIc.out.size
            have HSZE : Hid (∀ o : Obj, ∃ n, n ≤ k + 1 ∧ MapI (wc.alloc o) (w.heap.size + 1) n (sizeF cs (k + 1))) := hid (fun o => ⟨n5, by omega, by rw [sizeF_set hlt HCK.out (by exact HD0.out)]; exact hm5.keep (Below.heap_alloc _ _ _ hm5.lt)⟩)
            have HSIZES : Hid (SizesTo cs (k + 1)) := hid (HIc.out.sizes.set hlt (by rw [HCK.out]; exact HD0.out))
            clear hn5 hm5
            go_upto_region 10 with (at_lookup; refine wpList_lookI rfl _ _ rfl underPart zeroPart rfl rfl HWK.out HIc.out.map HGET.out ?_)
            obtain ⟨wa, hwa⟩ : ∃ wa, wa = wc.alloc (.cells #[.slice pa np pc, .slice qa nq qc] 62) := ⟨_, rfl⟩
            rw [← hwa]
            have HT1 : Hid (Turns (fun b => b = w.heap.size + 1) wc wa) := hid (by rw [hwa]; exact Turns.of_below (HAL.out _))
            have t8 : wa.heap[wc.heap.size]? = some (.cells #[.slice pa np pc, .slice qa nq qc] 62 (0, 0)) := by rw [hwa]; exact heap_new wc _ rfl
            have HSE : Hid (∃ n, n ≤ k + 1 ∧ MapI wa (w.heap.size + 1) n (sizeF cs (k + 1))) := hid (by rw [hwa]; exact HSZE.out _)
            clear hwa HSZE b0 b1 b2 b3 b4 b5
            have HT8 := hid t8
            have HLTA : Hid (wc.heap.size < wa.heap.size) := hid (Array.getElem?_eq_some_iff.1 t8).1
            have e7 : wa.heap[wr.heap.size]? = wc.heap[wr.heap.size]? := HT1.out.block _ (by have := HM5L.out; omega) HLR.out
            have b0 := (World.cell?_of_block (a := ⟨wr.heap.size, 0, Option.none⟩) e7).trans HB7.out.1
            have b1 := (World.cell?_of_block (a := ⟨wr.heap.size, 1, Option.none⟩) e7).trans HB7.out.2.1
            have b2 := (World.cell?_of_block (a := ⟨wr.heap.size, 2, Option.none⟩) e7).trans HB7.out.2.2.1
            have b3 := (World.cell?_of_block (a := ⟨wr.heap.size, 3, Option.none⟩) e7).trans HB7.out.2.2.2.1
            have b4 := (World.cell?_of_block (a := ⟨wr.heap.size, 4, Option.none⟩) e7).trans HB7.out.2.2.2.2.1
            have b5 := (World.cell?_of_block (a := ⟨wr.heap.size, 5, Option.none⟩) e7).trans HB7.out.2.2.2.2.2
            have g0 : wa.cell? ⟨wc.heap.size, 0, none⟩ = some (.slice pa np pc) := by rw [cell_of_row _ _ 0 _ _ (0, 0) t8]; rfl
            have g1 : wa.cell? ⟨wc.heap.size, 1, none⟩ = some (.slice qa nq qc) := by rw [cell_of_row _ _ 1 _ _ (0, 0) t8]; rfl
            have g2 := HLTA.out
            have g3 := Nat.lt_trans HLR.out HLTA.out
            have HOWN : Hid (OwnC (· < w.heap.size) w.heap.size 59 wa (.slice pa np pc) (Mer.ofR (cs.take k) k0 true)) := hid (by rw [← HPE.out]; exact (HIc.out.own k0 true).keepOwn (fun b hb hl => HT1.out.block b (by
              rintro rfl
              rcases hb with hb | hb
              · omega
              · obtain ⟨n5, _, hm5⟩ := HIc.out.size
                exact hm5.not_own (HIc.out.own k0 true) hb.symm) hl))
            clear t8 e7
            go_wp2_with (at_builtin; go_must (refine wpList_appC1N (v := .slice pa np pc) rfl _ _ rfl Try.app30 rfl HOWN.out rfl ⟨k0, i0, f0, o0, n0, vs⟩ (.slice al vs.length cl) rfl rfl (HULc.out _ _ (fun b hb => HT1.out.block b (by omega) (Nat.lt_of_lt_of_le hb HSZ.out)) (fun b hb => (HPB.out b hb).1)) (by have := HLN.out.1; omega) (by have := HSZ.out; have := HLTA.out; omega) ?_))
            intro v' w4 hown4 ht4 hfr4
            obtain ⟨va, vn, vc, hve⟩ : ∃ a n c, v' = .slice a n c := by obtain ⟨a, c, h, -⟩ := hown4.sl.form; exact ⟨_, _, _, h⟩
            subst hve
            have HO4 := hid hown4
            have HT4 := hid ht4
            have HF4 := hid hfr4
            have t8 : w4.heap[wc.heap.size]? = some (.cells #[.slice pa np pc, .slice qa nq qc] 62 (0, 0)) := (ht4.block _ (fun hb => by have := (HPB.out _ hb).2; have := HLR.out; omega) HLTA.out).trans HT8.out
            have HT84 := hid t8
            have g0 : w4.cell? ⟨wc.heap.size, 0, none⟩ = some (.slice pa np pc) := by rw [cell_of_row _ _ 0 _ _ (0, 0) t8]; rfl
            have g1 : w4.cell? ⟨wc.heap.size, 1, none⟩ = some (.slice qa nq qc) := by rw [cell_of_row _ _ 1 _ _ (0, 0) t8]; rfl
            have gf : w4.frozen? ⟨wc.heap.size, 0, none⟩ = false := by simp [World.frozen?, t8]
            have g2 : wc.heap.size < w4.heap.size := (Array.getElem?_eq_some_iff.1 t8).1
            have HT7 : Hid (w4.heap[wr.heap.size]? = wa.heap[wr.heap.size]?) := hid (ht4.block _ (fun hb => by have := (HPB.out _ hb).2; omega) g3)
            have HB0 := hid b0
            clear b0 b1 b2 b3 b4 b5 hown4 ht4 hfr4 t8
            go_upto_region 16 with fail
            obtain ⟨W5, hW5⟩ : ∃ W5, W5 = w4.setCell ⟨wc.heap.size, 0, none⟩ (.slice va vn vc) := ⟨_, rfl⟩
            rw [← hW5]
            have t8 : W5.heap[wc.heap.size]? = some (.cells #[.slice va vn vc, .slice qa nq qc] 62 (0, 0)) := by rw [hW5]; exact heap_setCell_same w4 wc.heap.size 0 _ _ (.slice va vn vc) HT84.out
            have HKW : Hid (∀ b, b ≠ wc.heap.size → W5.heap[b]? = w4.heap[b]?) := hid (fun b hb => by rw [hW5]; exact Below.heap_setCell _ _ _ _ hb)
            have HTW : Hid (Turns (fun b => b = wc.heap.size) w4 W5) := hid (by rw [hW5]; exact (Turns.refl _ _).setCell _ _ rfl)
            have y0 : W5.cell? ⟨wc.heap.size, 0, none⟩ = some (.slice va vn vc) := by rw [cell_of_row _ _ 0 _ _ (0, 0) t8]; rfl
            have y1 : W5.cell? ⟨wc.heap.size, 1, none⟩ = some (.slice qa nq qc) := by rw [cell_of_row _ _ 1 _ _ (0, 0) t8]; rfl
            have y2 : W5.cell? ⟨wr.heap.size, 0, none⟩ = some (.int .i64 k0) := (World.cell?_of_block ((HKW.out _ (Nat.ne_of_lt HLR.out)).trans HT7.out)).trans HB0.out
            have y3 : wc.heap.size < W5.heap.size := (Array.getElem?_eq_some_iff.1 t8).1
            have y4 : wr.heap.size < W5.heap.size := Nat.lt_trans HLR.out y3
            have HT4' : Hid (Turns (fun b => some b = (pt k0 true).ownBlock) wa w4) := hid (by rw [HPE.out]; exact HT4.out)
            have HF4' : Hid ((Value.slice va vn vc).ownBlock = (pt k0 true).ownBlock ∨ ∀ b, (Value.slice va vn vc).ownBlock = some b → wa.heap.size ≤ b) := hid (by rw [HPE.out]; exact HF4.out)
            clear hW5 g0 g1 gf g2 g3 t8
            have HM5 := hid (HIc.out.map5 k0 true HT1.out HT4'.out HKW.out)
            go_wp2_with (at_mapUpdate; go_must (refine wpList_updI rfl _ _ _ rfl underPart rfl rfl HWK.out rfl (by omega) HM5.out ?_))
            intro w6 hm6 ht6
            have HM6 := hid hm6
            have HT6 := hid ht6
            clear hm6 ht6 y0 y1 y2 y3 y4
            go_wp2
            go_roundg (cs.length - (k + 1))
            case measure => omega
            case rel => exact ⟨k + 1, _, by omega, rfl, by go_num, hid (HIc.out.finish (v' := .slice va vn vc) (s := true) hlt HCK.out (by exact HD0.out) HT1.out HLTA.out HT4'.out HF4'.out HO4.out HKW.out HTW.out HT6.out HM6.out (by simp only [putP, and_self, if_true]; simp [HQE.out]) HSE.out HR.out.1 HR.out.2 HSIZES.out)⟩
          · have HD0 := hid (decide_eq_false h0)
            obtain ⟨n5, hn5, hm5⟩ := HIc.out.size
            have HN5 := hid hn5
            have HMS : Hid (∀ o : Obj, MapI (wc.alloc o) (w.heap.size + 1) n5 (sizeF cs k)) := hid (fun o => hm5.keep (Below.heap_alloc _ _ _ hm5.lt))
            clear hn5 hm5
            cases hhd : (Mer.ofR (cs.take k) k0 false).head? with
            | none =>
              have HV : Hid ((sizeF cs k k0).getD (.int .i64 0) = .int .i64 0) := hid (by unfold sizeF; rw [hhd]; rfl)
              have HIS : Hid ((sizeF cs k k0).isSome = false) := hid (by unfold sizeF; rw [hhd]; rfl)
              have HSIZES : Hid (SizesTo cs (k + 1)) := hid (HIc.out.sizes.new hlt (by rw [HCK.out]; exact hhd))
              have HSF : Hid (sizeF cs (k + 1) = putF (sizeF cs k) k0 (.int .i64 vs.length)) := hid (sizeF_rest hlt HCK.out (by exact HD0.out) (fun d hd => by rw [hhd] at hd; cases hd))
              clear hhd
              go_wp2_with (first | (at_lookup; refine wpList_lookI rfl _ _ rfl underPart zeroPart rfl rfl HWK.out HIc.out.map HGET.out ?_) | (at_lookup; refine wpList_lookOkI rfl _ _ rfl underSize zeroInt rfl rfl HWK.out (HMS.out _) HV.out HIS.out ?_) | (at_mapUpdate; go_must (refine wpList_updI rfl _ _ _ rfl underSize rfl rfl HWK.out rfl (by have := HN5.out; omega) (HMS.out _) ?_)))
              intro wa hma hta
              have HT1 : Hid (Turns (fun b => b = w.heap.size + 1) wc wa) := hid ((Turns.of_below (HAL.out _)).trans hta)
              have t8 : wa.heap[wc.heap.size]? = some (.cells #[.slice pa np pc, .slice qa nq qc] 62 (0, 0)) := (hta.block _ (fun hb => by have h1 := HM5L.out; have h2 := HLR.out; omega) (by simp)).trans (heap_new wc _ rfl)
              have HSE : Hid (∃ n, n ≤ k + 1 ∧ MapI wa (w.heap.size + 1) n (sizeF cs (k + 1))) := hid ⟨n5 + 1, by have := HN5.out; omega, by rw [HSF.out]; exact hma⟩
              clear hma hta b0 b1 b2 b3 b4 b5
              have HT8 := hid t8
              have HLTA : Hid (wc.heap.size < wa.heap.size) := hid (Array.getElem?_eq_some_iff.1 t8).1
              have e7 : wa.heap[wr.heap.size]? = wc.heap[wr.heap.size]? := HT1.out.block _ (by have := HM5L.out; omega) HLR.out
              have b0 := (World.cell?_of_block (a := ⟨wr.heap.size, 0, Option.none⟩) e7).trans HB7.out.1
              have b1 := (World.cell?_of_block (a := ⟨wr.heap.size, 1, Option.none⟩) e7).trans HB7.out.2.1
              have b2 := (World.cell?_of_block (a := ⟨wr.heap.size, 2, Option.none⟩) e7).trans HB7.out.2.2.1
              have b3 := (World.cell?_of_block (a := ⟨wr.heap.size, 3, Option.none⟩) e7).trans HB7.out.2.2.2.1
              have b4 := (World.cell?_of_block (a := ⟨wr.heap.size, 4, Option.none⟩) e7).trans HB7.out.2.2.2.2.1
              have b5 := (World.cell?_of_block (a := ⟨wr.heap.size, 5, Option.none⟩) e7).trans HB7.out.2.2.2.2.2
              have g0 : wa.cell? ⟨wc.heap.size, 0, none⟩ = some (.slice pa np pc) := by rw [cell_of_row _ _ 0 _ _ (0, 0) t8]; rfl
              have g1 : wa.cell? ⟨wc.heap.size, 1, none⟩ = some (.slice qa nq qc) := by rw [cell_of_row _ _ 1 _ _ (0, 0) t8]; rfl
              have g2 := HLTA.out
              have g3 := Nat.lt_trans HLR.out HLTA.out
              have HOWN : Hid (OwnC (· < w.heap.size) w.heap.size 59 wa (.slice qa nq qc) (Mer.ofR (cs.take k) k0 false)) := hid (by rw [← HQE.out]; exact (HIc.out.own k0 false).keepOwn (fun b hb hl => HT1.out.block b (by
                rintro rfl
                rcases hb with hb | hb
                · omega
                · obtain ⟨n5, _, hm5⟩ := HIc.out.size
                  exact hm5.not_own (HIc.out.own k0 false) hb.symm) hl))
              clear t8 e7
              go_wp2_with (at_builtin; go_must (refine wpList_appC1N (v := .slice qa nq qc) rfl _ _ rfl Try.app30 rfl HOWN.out rfl ⟨k0, i0, f0, o0, n0, vs⟩ (.slice al vs.length cl) rfl rfl (HULc.out _ _ (fun b hb => HT1.out.block b (by omega) (Nat.lt_of_lt_of_le hb HSZ.out)) (fun b hb => (HQB.out b hb).1)) (by have := HLN.out.2; omega) (by have := HSZ.out; have := HLTA.out; omega) ?_))
              intro v' w4 hown4 ht4 hfr4
              obtain ⟨va, vn, vc, hve⟩ : ∃ a n c, v' = .slice a n c := by obtain ⟨a, c, h, -⟩ := hown4.sl.form; exact ⟨_, _, _, h⟩
              subst hve
              have HO4 := hid hown4
              have HT4 := hid ht4
              have HF4 := hid hfr4
              have t8 : w4.heap[wc.heap.size]? = some (.cells #[.slice pa np pc, .slice qa nq qc] 62 (0, 0)) := (ht4.block _ (fun hb => by have := (HQB.out _ hb).2; have := HLR.out; omega) HLTA.out).trans HT8.out
              have HT84 := hid t8
              have g0 : w4.cell? ⟨wc.heap.size, 0, none⟩ = some (.slice pa np pc) := by rw [cell_of_row _ _ 0 _ _ (0, 0) t8]; rfl
              have g1 : w4.cell? ⟨wc.heap.size, 1, none⟩ = some (.slice qa nq qc) := by rw [cell_of_row _ _ 1 _ _ (0, 0) t8]; rfl
              have gf : w4.frozen? ⟨wc.heap.size, 1, none⟩ = false := by simp [World.frozen?, t8]
              have g2 : wc.heap.size < w4.heap.size := (Array.getElem?_eq_some_iff.1 t8).1
              have HT7 : Hid (w4.heap[wr.heap.size]? = wa.heap[wr.heap.size]?) := hid (ht4.block _ (fun hb => by have := (HQB.out _ hb).2; omega) g3)
              have HB0 := hid b0
              clear b0 b1 b2 b3 b4 b5 hown4 ht4 hfr4 t8
              go_upto_region 16 with fail
              obtain ⟨W5, hW5⟩ : ∃ W5, W5 = w4.setCell ⟨wc.heap.size, 1, none⟩ (.slice va vn vc) := ⟨_, rfl⟩
              rw [← hW5]
              have t8 : W5.heap[wc.heap.size]? = some (.cells #[.slice pa np pc, .slice va vn vc] 62 (0, 0)) := by rw [hW5]; exact heap_setCell_same w4 wc.heap.size 1 _ _ (.slice va vn vc) HT84.out
              have HKW : Hid (∀ b, b ≠ wc.heap.size → W5.heap[b]? = w4.heap[b]?) := hid (fun b hb => by rw [hW5]; exact Below.heap_setCell _ _ _ _ hb)
              have HTW : Hid (Turns (fun b => b = wc.heap.size) w4 W5) := hid (by rw [hW5]; exact (Turns.refl _ _).setCell _ _ rfl)
              have y0 : W5.cell? ⟨wc.heap.size, 0, none⟩ = some (.slice pa np pc) := by rw [cell_of_row _ _ 0 _ _ (0, 0) t8]; rfl
              have y1 : W5.cell? ⟨wc.heap.size, 1, none⟩ = some (.slice va vn vc) := by rw [cell_of_row _ _ 1 _ _ (0, 0) t8]; rfl
              have y2 : W5.cell? ⟨wr.heap.size, 0, none⟩ = some (.int .i64 k0) := (World.cell?_of_block ((HKW.out _ (Nat.ne_of_lt HLR.out)).trans HT7.out)).trans HB0.out
              have y3 : wc.heap.size < W5.heap.size := (Array.getElem?_eq_some_iff.1 t8).1
              have y4 : wr.heap.size < W5.heap.size := Nat.lt_trans HLR.out y3
              have HT4' : Hid (Turns (fun b => some b = (pt k0 false).ownBlock) wa w4) := hid (by rw [HQE.out]; exact HT4.out)
              have HF4' : Hid ((Value.slice va vn vc).ownBlock = (pt k0 false).ownBlock ∨ ∀ b, (Value.slice va vn vc).ownBlock = some b → wa.heap.size ≤ b) := hid (by rw [HQE.out]; exact HF4.out)
              clear hW5 g0 g1 gf g2 g3 t8
              have HM5 := hid (HIc.out.map5 k0 false HT1.out HT4'.out HKW.out)
              go_wp2_with (at_mapUpdate; go_must (refine wpList_updI rfl _ _ _ rfl underPart rfl rfl HWK.out rfl (by omega) HM5.out ?_))
              intro w6 hm6 ht6
              have HM6 := hid hm6
              have HT6 := hid ht6
              clear hm6 ht6 y0 y1 y2 y3 y4
              go_wp2
              go_roundg (cs.length - (k + 1))
              case measure => omega
              case rel => exact ⟨k + 1, _, by omega, rfl, by go_num, hid (HIc.out.finish (v' := .slice va vn vc) (s := false) hlt HCK.out (by exact HD0.out) HT1.out HLTA.out HT4'.out HF4'.out HO4.out HKW.out HTW.out HT6.out HM6.out (by simp only [putP, and_self, if_true]; simp [HPE.out]) HSE.out HR.out.1 HR.out.2 HSIZES.out)⟩
            | some d =>
              have HV : Hid ((sizeF cs k k0).getD (.int .i64 0) = .int .i64 d.values.length) := hid (by unfold sizeF; rw [hhd]; rfl)
              have HIS : Hid ((sizeF cs k k0).isSome = true) := hid (by unfold sizeF; rw [hhd]; rfl)
              by_cases hl : d.values.length = vs.length
              · have HSIZES : Hid (SizesTo cs (k + 1)) := hid (HIc.out.sizes.old hlt (by rw [HCK.out]; exact hhd) (by rw [HCK.out]; exact hl))
                have HSF : Hid (sizeF cs (k + 1) = putF (sizeF cs k) k0 (.int .i64 vs.length)) := hid (sizeF_rest hlt HCK.out (by exact HD0.out) (fun d' hd' => by rw [hhd] at hd'; cases hd'; exact hl))
                have gl : ((d.values.length : Int) != (vs.length : Int)) = false := by rw [hl]; simp
                clear hhd hl
                go_wp2_with (first | (at_lookup; refine wpList_lookI rfl _ _ rfl underPart zeroPart rfl rfl HWK.out HIc.out.map HGET.out ?_) | (at_lookup; refine wpList_lookOkI rfl _ _ rfl underSize zeroInt rfl rfl HWK.out (HMS.out _) HV.out HIS.out ?_) | (at_mapUpdate; go_must (refine wpList_updI rfl _ _ _ rfl underSize rfl rfl HWK.out rfl (by have := HN5.out; omega) (HMS.out _) ?_)))
                intro wa hma hta
                have HT1 : Hid (Turns (fun b => b = w.heap.size + 1) wc wa) := hid ((Turns.of_below (HAL.out _)).trans hta)
                have t8 : wa.heap[wc.heap.size]? = some (.cells #[.slice pa np pc, .slice qa nq qc] 62 (0, 0)) := (hta.block _ (fun hb => by have h1 := HM5L.out; have h2 := HLR.out; omega) (by simp)).trans (heap_new wc _ rfl)
                have HSE : Hid (∃ n, n ≤ k + 1 ∧ MapI wa (w.heap.size + 1) n (sizeF cs (k + 1))) := hid ⟨n5 + 1, by have := HN5.out; omega, by rw [HSF.out]; exact hma⟩
                clear hma hta b0 b1 b2 b3 b4 b5
                have HT8 := hid t8
                have HLTA : Hid (wc.heap.size < wa.heap.size) := hid (Array.getElem?_eq_some_iff.1 t8).1
                have e7 : wa.heap[wr.heap.size]? = wc.heap[wr.heap.size]? := HT1.out.block _ (by have := HM5L.out; omega) HLR.out
                have b0 := (World.cell?_of_block (a := ⟨wr.heap.size, 0, Option.none⟩) e7).trans HB7.out.1
                have b1 := (World.cell?_of_block (a := ⟨wr.heap.size, 1, Option.none⟩) e7).trans HB7.out.2.1
                have b2 := (World.cell?_of_block (a := ⟨wr.heap.size, 2, Option.none⟩) e7).trans HB7.out.2.2.1
                have b3 := (World.cell?_of_block (a := ⟨wr.heap.size, 3, Option.none⟩) e7).trans HB7.out.2.2.2.1
                have b4 := (World.cell?_of_block (a := ⟨wr.heap.size, 4, Option.none⟩) e7).trans HB7.out.2.2.2.2.1
                have b5 := (World.cell?_of_block (a := ⟨wr.heap.size, 5, Option.none⟩) e7).trans HB7.out.2.2.2.2.2
                have g0 : wa.cell? ⟨wc.heap.size, 0, none⟩ = some (.slice pa np pc) := by rw [cell_of_row _ _ 0 _ _ (0, 0) t8]; rfl
                have g1 : wa.cell? ⟨wc.heap.size, 1, none⟩ = some (.slice qa nq qc) := by rw [cell_of_row _ _ 1 _ _ (0, 0) t8]; rfl
                have g2 := HLTA.out
                have g3 := Nat.lt_trans HLR.out HLTA.out
                have HOWN : Hid (OwnC (· < w.heap.size) w.heap.size 59 wa (.slice qa nq qc) (Mer.ofR (cs.take k) k0 false)) := hid (by rw [← HQE.out]; exact (HIc.out.own k0 false).keepOwn (fun b hb hl => HT1.out.block b (by
                  rintro rfl
                  rcases hb with hb | hb
                  · omega
                  · obtain ⟨n5, _, hm5⟩ := HIc.out.size
                    exact hm5.not_own (HIc.out.own k0 false) hb.symm) hl))
                clear t8 e7
                go_wp2_with (at_builtin; go_must (refine wpList_appC1N (v := .slice qa nq qc) rfl _ _ rfl Try.app30 rfl HOWN.out rfl ⟨k0, i0, f0, o0, n0, vs⟩ (.slice al vs.length cl) rfl rfl (HULc.out _ _ (fun b hb => HT1.out.block b (by omega) (Nat.lt_of_lt_of_le hb HSZ.out)) (fun b hb => (HQB.out b hb).1)) (by have := HLN.out.2; omega) (by have := HSZ.out; have := HLTA.out; omega) ?_))
                intro v' w4 hown4 ht4 hfr4
                obtain ⟨va, vn, vc, hve⟩ : ∃ a n c, v' = .slice a n c := by obtain ⟨a, c, h, -⟩ := hown4.sl.form; exact ⟨_, _, _, h⟩
                subst hve
                have HO4 := hid hown4
                have HT4 := hid ht4
                have HF4 := hid hfr4
                have t8 : w4.heap[wc.heap.size]? = some (.cells #[.slice pa np pc, .slice qa nq qc] 62 (0, 0)) := (ht4.block _ (fun hb => by have := (HQB.out _ hb).2; have := HLR.out; omega) HLTA.out).trans HT8.out
                have HT84 := hid t8
                have g0 : w4.cell? ⟨wc.heap.size, 0, none⟩ = some (.slice pa np pc) := by rw [cell_of_row _ _ 0 _ _ (0, 0) t8]; rfl
                have g1 : w4.cell? ⟨wc.heap.size, 1, none⟩ = some (.slice qa nq qc) := by rw [cell_of_row _ _ 1 _ _ (0, 0) t8]; rfl
                have gf : w4.frozen? ⟨wc.heap.size, 1, none⟩ = false := by simp [World.frozen?, t8]
                have g2 : wc.heap.size < w4.heap.size := (Array.getElem?_eq_some_iff.1 t8).1
                have HT7 : Hid (w4.heap[wr.heap.size]? = wa.heap[wr.heap.size]?) := hid (ht4.block _ (fun hb => by have := (HQB.out _ hb).2; omega) g3)
                have HB0 := hid b0
                clear b0 b1 b2 b3 b4 b5 hown4 ht4 hfr4 t8
                go_upto_region 16 with fail
                obtain ⟨W5, hW5⟩ : ∃ W5, W5 = w4.setCell ⟨wc.heap.size, 1, none⟩ (.slice va vn vc) := ⟨_, rfl⟩
                rw [← hW5]
                have t8 : W5.heap[wc.heap.size]? = some (.cells #[.slice pa np pc, .slice va vn vc] 62 (0, 0)) := by rw [hW5]; exact heap_setCell_same w4 wc.heap.size 1 _ _ (.slice va vn vc) HT84.out
                have HKW : Hid (∀ b, b ≠ wc.heap.size → W5.heap[b]? = w4.heap[b]?) := hid (fun b hb => by rw [hW5]; exact Below.heap_setCell _ _ _ _ hb)
                have HTW : Hid (Turns (fun b => b = wc.heap.size) w4 W5) := hid (by rw [hW5]; exact (Turns.refl _ _).setCell _ _ rfl)
                have y0 : W5.cell? ⟨wc.heap.size, 0, none⟩ = some (.slice pa np pc) := by rw [cell_of_row _ _ 0 _ _ (0, 0) t8]; rfl
                have y1 : W5.cell? ⟨wc.heap.size, 1, none⟩ = some (.slice va vn vc) := by rw [cell_of_row _ _ 1 _ _ (0, 0) t8]; rfl
                have y2 : W5.cell? ⟨wr.heap.size, 0, none⟩ = some (.int .i64 k0) := (World.cell?_of_block ((HKW.out _ (Nat.ne_of_lt HLR.out)).trans HT7.out)).trans HB0.out
                have y3 : wc.heap.size < W5.heap.size := (Array.getElem?_eq_some_iff.1 t8).1
                have y4 : wr.heap.size < W5.heap.size := Nat.lt_trans HLR.out y3
                have HT4' : Hid (Turns (fun b => some b = (pt k0 false).ownBlock) wa w4) := hid (by rw [HQE.out]; exact HT4.out)
                have HF4' : Hid ((Value.slice va vn vc).ownBlock = (pt k0 false).ownBlock ∨ ∀ b, (Value.slice va vn vc).ownBlock = some b → wa.heap.size ≤ b) := hid (by rw [HQE.out]; exact HF4.out)
                clear hW5 g0 g1 gf g2 g3 t8
                have HM5 := hid (HIc.out.map5 k0 false HT1.out HT4'.out HKW.out)
                go_wp2_with (at_mapUpdate; go_must (refine wpList_updI rfl _ _ _ rfl underPart rfl rfl HWK.out rfl (by omega) HM5.out ?_))
                intro w6 hm6 ht6
                have HM6 := hid hm6
                have HT6 := hid ht6
                clear hm6 ht6 y0 y1 y2 y3 y4
                go_wp2
                go_roundg (cs.length - (k + 1))
                case measure => omega
                case rel => exact ⟨k + 1, _, by omega, rfl, by go_num, hid (HIc.out.finish (v' := .slice va vn vc) (s := false) hlt HCK.out (by exact HD0.out) HT1.out HLTA.out HT4'.out HF4'.out HO4.out HKW.out HTW.out HT6.out HM6.out (by simp only [putP, and_self, if_true]; simp [HPE.out]) HSE.out HR.out.1 HR.out.2 HSIZES.out)⟩
              · have HRB := hid (pp_sizes (sizes_bad hlt (by rw [HCK.out]; exact hhd) (by rw [HCK.out]; exact HD0.out) (by rw [HCK.out]; exact hl)))
                have gl : ((d.values.length : Int) != (vs.length : Int)) = true := bneT (by omega)
                clear hhd hl
                go_wp2_with (first | (at_lookup; refine wpList_lookI rfl _ _ rfl underPart zeroPart rfl rfl HWK.out HIc.out.map HGET.out ?_) | (at_lookup; refine wpList_lookOkI rfl _ _ rfl underSize zeroInt rfl rfl HWK.out (HMS.out _) HV.out HIS.out ?_))
                go_ret2
                exact ⟨_, by rw [HRB.out]; rfl, (fun h => by rw [HRB.out] at h; cases h), HIc.out.below.trans ((HAL.out _).mono HSZ.out)⟩
    · have hk3 : ¬ (k : Int) < cs.length := by omega
      obtain rfl : k = cs.length := by omega
      have HCH : Hid (∀ j, (partF cs cs.length pt j).isSome = true → ∃ c ∈ cs, c.kind = j) := hid (fun j h => by
        unfold partF at h
        split at h
        · rename_i h'
          obtain ⟨c, hc', h'⟩ := List.any_eq_true.1 h'
          exact ⟨c, List.mem_of_mem_take hc', of_decide_eq_true h'⟩
        · cases h)
      have HCS : Hid (∀ c ∈ cs, (partF cs cs.length pt c.kind).isSome = true) := hid (fun c hc' => by
        unfold partF
        rw [if_pos (List.any_eq_true.2 ⟨c, by rw [List.take_length]; exact hc', decide_eq_true rfl⟩)]
        rfl)
      have HLB := hid (lastB_iff hg HI.out.base HI.out.order)
      have HPA := hid (fun h => pp_all (Nat.le_refl _) HI.out.base HI.out.order (HI.out.sizes.last (Nat.le_refl _)) h)
      go_wp2_with (at_range; refine wpList_rangeI rfl _ rfl underPart rfl HI.out.map ?_)
      intro w1 cnt0 hrg hb1 hs1
      have HRG := hid hrg
      have HB1 := hid hb1
      clear hrg hb1 hs1
      go_wp2
      obtain ⟨r, hr⟩ : ∃ r, r = wr.heap.size := ⟨_, rfl⟩
      rw [← hr]
      have HRE := hid hr
      clear hr
      go_loopg [] cnt0 (fun g wx => ∃ left : Int → Bool, Hid (RangesI wx w.heap.size r cs.length (partF cs cs.length pt) left g) ∧ Hid (Below wr.heap.size wr wx) ∧ Hid (∀ j, WfI j → (partF cs cs.length pt j).isSome = true → left j = false → lastK (Mer.ofR cs j true) (Mer.ofR cs j false) = true))
      case atStart => exact ⟨_, hid (by rw [HRE.out]; exact HRG.out), HB1, hid (fun j _ h1 h2 => by rw [h1] at h2; cases h2)⟩
      case round =>
        obtain ⟨left, HRG', HB', HCK⟩ := hrel
        have HIr : Hid (PInv w w.heap.size (w.heap.size + 1) cs cs.length pt wr) := hid (HI.out.keep HB'.out)
        have HBW := hid HIr.out.below
        go_wp2_with (at_next; refine wpList_nextI rfl _ rfl rfl HRG'.out ?_ ?_)
        · intro hl
          have HPL := hid (HPA.out (HLB.out.2 (fun c hc' => HCK.out c.kind (by have h := (lil5.1 (hg c hc').ints).1; unfold WfI; omega) (HCS.out c hc') (hl _ (by have h := (lil5.1 (hg c hc').ints).1; unfold WfI; omega)))))
          clear hl
          go_wp2
          go_ret2
          refine ⟨_, by rw [HPL.out]; rfl, fun _ => ⟨_, rfl, pt, cs.length, Nat.le_refl _, HIr.out.map, fun j s => ?_, fun j s h => ?_⟩, HBW.out⟩
          · have h := ((HIr.out.own j s).sl).mono (S' := AnyB) (fun _ _ _ => trivial)
            rw [List.take_length] at h
            exact h
          · exact HIr.out.blank j s (by rw [List.take_length]; exact h)
        · intro j v w2 cnt2 hwf hf hrg2 hlt2 hT hsz hen
          have HCNT := hid hlt2
          obtain ⟨c, hcm, hcj⟩ := HCH.out j (by rw [hf]; rfl)
          have hv : v = .agg #[pt j true, pt j false] := by
            unfold partF at hf
            split at hf
            · exact (Option.some.inj hf).symm
            · cases hf
          subst hv
          have HRG2 := hid hrg2
          have hrl := HRG'.out.lt
          have HBr2 : Hid (∀ b, b ≠ r → b < wr.heap.size → w2.heap[b]? = wr.heap[b]?) := hid (fun b h1 h2 => hT.block b h1 h2)
          have HBo2 := hid (HB'.out.trans (hT.below HB'.out.size (fun b hb => by rw [hb, HRE.out]; exact Nat.le_refl _)))
          have HI2 : Hid (PInv w w.heap.size (w.heap.size + 1) cs cs.length pt w2) := hid (HI.out.keep HBo2.out)
          have hss := ((HI2.out.own j true).sl).mono (S' := AnyB) (fun _ _ _ => trivial)
          have hrr := ((HI2.out.own j false).sl).mono (S' := AnyB) (fun _ _ _ => trivial)
          rw [List.take_length] at hss hrr
          have HLL : Hid ((Mer.ofR cs j true).length ≤ 100000 ∧ (Mer.ofR cs j false).length ≤ 100000) := hid (by
            have h1 := ofR_len cs j true
            have h2 := ofR_len cs j false
            omega)
          have HLK : Hid (lastK (Mer.ofR cs j true) (Mer.ofR cs j false) = false → Mer.plainP cs = false) := hid (fun h => pp_last (by
            rw [Bool.eq_false_iff]
            intro h'
            have := HLB.out.1 h' c hcm
            rw [hcj, h] at this
            cases this))
          have HCK2 : Hid (lastK (Mer.ofR cs j true) (Mer.ofR cs j false) = true → ∀ i, WfI i → (partF cs cs.length pt i).isSome = true → (left i && !decide (i = j)) = false → lastK (Mer.ofR cs i true) (Mer.ofR cs i false) = true) := hid (fun h i h1 h2 h3 => by
            by_cases e : i = j
            · subst e; exact h
            · rw [decide_eq_false e] at h3
              exact HCK.out i h1 h2 (by simpa using h3))
          clear hf hrg2 hlt2 hT hsz HRG HRG' HCK HB1 hcm hcj hrl
          generalize pt j true = pa at *
          generalize pt j false = pb at *
          generalize Mer.ofR cs j true = ss at *
          generalize Mer.ofR cs j false = rs at *
          obtain ⟨sa, sc, rfl, sok, scap, smax⟩ := hss.form
          obtain ⟨ra, rc, rfl, rok, rcap, rmax⟩ := hrr.form
          have HSS := hid hss
          have HRR := hid hrr
          have HLS : Hid (r < w2.heap.size) := hid HRG2.out.lt
          have HM2 : Hid (w.heap.size < w2.heap.size) := hid HRG2.out.map.lt
          have HFIN : Hid (∀ W, Below w2.heap.size w2 W → RangesI W w.heap.size r cs.length (partF cs cs.length pt) (fun i => left i && !decide (i = j)) cnt2) := hid (fun W h => HRG2.out.keep (h.block _ HM2.out) (h.block _ HLS.out))
          have HWO : Hid (∀ W, Below w2.heap.size w2 W → Below w.heap.size w W) := hid (fun W h => HI2.out.below.trans (h.mono HI2.out.below.size))
          have HWR := hid (fun W (h : Below w2.heap.size w2 W) => HBo2.out.trans (h.mono HBo2.out.size))
          have HAL : Hid (∀ o : Obj, Below w2.heap.size w2 (w2.alloc o)) := hid (fun o => (Below.refl _ _).alloc (Nat.le_refl _) _)
          clear hss hrr
          by_cases hz : ss.length = 0
          · have HLT : Hid (lastK ss rs = true) := hid (by unfold lastK; rw [dif_neg (by omega)])
            have hdz : decide (0 < ss.length) = false := decide_eq_false (by omega)
            clear hz
            go_wp2
            go_quiet (fail)
            go_wp2
            go_roundg cnt2
            case measure => exact HCNT.out
            case rel => exact ⟨_, hid (HFIN.out _ (below_drewN (HAL.out _) _)), hid (HWR.out _ (below_drewN (HAL.out _) _)), hid (HCK2.out HLT.out)⟩
          · have hz1 : 1 ≤ ss.length := by omega
            have hdz : decide (0 < ss.length) = true := decide_eq_true (by omega)
            have hll : ss.length - 1 < ss.length := by omega
            have hix := idx_predP (cap := sc) sok hz1 (Nat.le_refl _)
            have HC1 : Hid (∀ W, Below w2.heap.size w2 W → W.cell? ⟨slb sa, slo sa + (ss.length - 1) * 6 + 1, none⟩ = some (.int .i64 ss[ss.length - 1].index)) := hid (fun W h => by
              obtain ⟨-, -, -, c1, -⟩ := (HSS.out.keep (KeepS.below h)).at hll
              exact c1)
            have HBS : Hid (∀ W, Below w2.heap.size w2 W → slb sa < W.heap.size) := hid (fun W h => ((HSS.out.keep (KeepS.below h)).at hll).1)
            have HLA0 := hid (fun W (h : Below w2.heap.size w2 W) => least_any rs HLL.out.2 (.slice sa ss.length sc) (.slice ra rs.length rc) ⟨_, _, _, rfl⟩ AnyB W (HRR.out.keep (KeepS.below h)))
            have HLKE : Hid (lastK ss rs = decide (ss[ss.length - 1].index < leastL rs)) := hid (by unfold lastK; rw [dif_pos (by omega)])
            generalize ss[ss.length - 1].index = x at *
            generalize leastL rs = y at *
            clear hz
            go_upto_region 22 with fail
            obtain ⟨W3, hW3⟩ : ∃ W3, W3 = w2.alloc (.cells #[.slice sa ss.length sc, .slice ra rs.length rc] 62) := ⟨_, rfl⟩
            rw [← hW3]
            have HB3 : Hid (Below w2.heap.size w2 W3) := hid (by rw [hW3]; exact HAL.out _)
            have HT3 : Hid (W3.heap[w2.heap.size]? = some (.cells #[.slice sa ss.length sc, .slice ra rs.length rc] 62 (0, 0))) := hid (by rw [hW3]; exact heap_new w2 _ rfl)
            clear hW3
            have HGB : Hid (∀ z : Grew W3, Below w2.heap.size w2 z.1) := hid (fun z => HB3.out.trans (z.2.mono HB3.out.size))
            have e0 : ∀ z : Grew W3, z.1.cell? ⟨w2.heap.size, 0, none⟩ = some (.slice sa ss.length sc) := fun z => by
              rw [cell_of_row _ _ 0 _ _ (0, 0) ((z.2.block _ (Array.getElem?_eq_some_iff.1 HT3.out).1).trans HT3.out)]; rfl
            have e1 : ∀ z : Grew W3, z.1.cell? ⟨w2.heap.size, 1, none⟩ = some (.slice ra rs.length rc) := fun z => by
              rw [cell_of_row _ _ 1 _ _ (0, 0) ((z.2.block _ (Array.getElem?_eq_some_iff.1 HT3.out).1).trans HT3.out)]; rfl
            have e2 : ∀ z : Grew W3, z.1.cell? ⟨slb sa, slo sa + (ss.length - 1) * 6 + 1, none⟩ = some (.int .i64 x) := fun z => HC1.out _ (HGB.out z)
            have HLA : Hid (∀ z : Grew W3, Calls Try.prog 40 #[.agg #[.slice sa ss.length sc, .slice ra rs.length rc]] z.1 fun e w' => e = .returned (.int .i64 y) ∧ Below z.1.heap.size z.1 w') := hid (fun z => HLA0.out _ (HGB.out z))
            clear HLA0
            refine wp_region_quietG (by kernel_rfl) (by kernel_rfl) ?_
            repeat (go_big_quiet_step ((refine Calls.grew_of (HLA.out _))))
            refine wpQuiet_nil ?_
            intro wx hwx
            have HBx : Hid (Below w2.heap.size w2 wx) := hid (HB3.out.trans ((grew_below hwx).mono HB3.out.size))
            clear hwx e0 e1 e2
            by_cases hxy : x < y
            · have HLT : Hid (lastK ss rs = true) := hid (by rw [HLKE.out]; exact decide_eq_true hxy)
              go_wp2
              go_roundg cnt2
              case measure => exact HCNT.out
              case rel => exact ⟨_, hid (HFIN.out _ HBx.out), hid (HWR.out _ HBx.out), hid (HCK2.out HLT.out)⟩
            · have HPF := hid (HLK.out (by rw [HLKE.out]; exact decide_eq_false hxy))
              go_wp2
              go_ret2
              exact ⟨_, by rw [HPF.out]; rfl, (fun h => by rw [HPF.out] at h; cases h), HWO.out _ HBx.out⟩

end Go.Proofs.Yteepdnamkcgndaa
