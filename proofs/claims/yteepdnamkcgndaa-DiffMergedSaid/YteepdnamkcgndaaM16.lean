/- The program's join. -/
import Derived.Test.YteepdnamkcgndaaM17
import Derived.Test.YteepdnamkcgndaaM11
import Derived.Deep.DeepCutAuto
import Derived.Deep.LoopGhost
namespace Go.Proofs.Yteepdnamkcgndaa
open Go.RowKit

/-- The worlds of join. -/
structure JBox (w : World) (us ur vs vr : Value) (W : World) : Prop where
  below : Below w.heap.size w W
  c0 : W.heap[w.heap.size]? = some (.cells #[us, ur] 62 (0, 0))
  c1 : W.heap[w.heap.size + 1]? = some (.cells #[vs, vr] 62 (0, 0))
  c2 : W.heap[w.heap.size + 1 + 1]? = some (.cells #[.slice none 0 0, .slice none 0 0] 62 (0, 0))
theorem JBox.keep {w W W' : World} {us ur vs vr : Value} (h : JBox w us ur vs vr W) (hb : Below W.heap.size W W') : JBox w us ur vs vr W' where
  below := h.below.trans (hb.mono h.below.size)
  c0 := (hb.block _ (Array.getElem?_eq_some_iff.1 h.c0).1).trans h.c0
  c1 := (hb.block _ (Array.getElem?_eq_some_iff.1 h.c1).1).trans h.c1
  c2 := (hb.block _ (Array.getElem?_eq_some_iff.1 h.c2).1).trans h.c2
theorem JBox.size {w W : World} {us ur vs vr : Value} (h : JBox w us ur vs vr W) : w.heap.size + 3 ≤ W.heap.size := by
  have := (Array.getElem?_eq_some_iff.1 h.c2).1
  omega
theorem JBox.turn {w W W' : World} {us ur vs vr : Value} {S : Nat → Prop} (h : JBox w us ur vs vr W) (ht : Turns S W W') (hS : ∀ b, S b → w.heap.size + 3 ≤ b) : JBox w us ur vs vr W' where
  below := h.below.trans (ht.below h.below.size (fun b hb => by have := hS b hb; omega))
  c0 := (ht.block _ (fun hb => by have := hS _ hb; omega) (Array.getElem?_eq_some_iff.1 h.c0).1).trans h.c0
  c1 := (ht.block _ (fun hb => by have := hS _ hb; omega) (Array.getElem?_eq_some_iff.1 h.c1).1).trans h.c1
  c2 := (ht.block _ (fun hb => by have := hS _ hb; omega) (Array.getElem?_eq_some_iff.1 h.c2).1).trans h.c2

/-- join's own part: in block D; its sets are x, its rest is r. -/
structure JInv (Z : Nat → Prop) (w : World) (us ur vs vr : Value) (D N : Nat) (x r : Value) (L : List Chg) (W : World) : Prop where
  box : JBox w us ur vs vr W
  c3 : W.heap[D]? = some (.cells #[x, r] 62 (0, 0))
  own : OwnC (fun b => Z b ∧ b < w.heap.size) N 59 W x L
  lo : w.heap.size + 3 ≤ D
  hi : D < N
  nle : N ≤ W.heap.size
theorem JInv.keep {Z : Nat → Prop} {w W W' : World} {us ur vs vr : Value} {D N : Nat} {x r : Value} {L : List Chg} (h : JInv Z w us ur vs vr D N x r L W) (hb : Below W.heap.size W W') : JInv Z w us ur vs vr D N x r L W' where
  box := h.box.keep hb
  c3 := (hb.block _ (Array.getElem?_eq_some_iff.1 h.c3).1).trans h.c3
  own := h.own.below hb
  lo := h.lo
  hi := h.hi
  nle := Nat.le_trans h.nle hb.size
theorem JInv.lt {Z : Nat → Prop} {w W : World} {us ur vs vr : Value} {D N : Nat} {x r : Value} {L : List Chg} (h : JInv Z w us ur vs vr D N x r L W) : D < W.heap.size := (Array.getElem?_eq_some_iff.1 h.c3).1
theorem JInv.ownN {Z : Nat → Prop} {w W : World} {us ur vs vr : Value} {D N : Nat} {x r : Value} {L : List Chg} (h : JInv Z w us ur vs vr D N x r L W) : ∀ b, some b = x.ownBlock → N ≤ b ∧ b < W.heap.size := fun b hb => h.own.lt b hb

/-- How join ends. -/
def JoinE (Y : Nat → Prop) (US UR VS VR : List Chg) (w' : World) (m : Value) (ok : Bool) : Prop :=
  (ok = true → ∃ s r, m = .agg #[s, r] ∧ (UR = [] ∨ VR = [] ∨ UR = VR) ∧ Mer.okS US VS = true ∧ ∃ S, Mer.SortS S (US ++ Mer.newS US VS) ∧ Mer.belowJ S (if UR = [] then VR else UR) ∧ ChV Y w' s S ∧ ChV Y w' r (if UR = [] then VR else UR)) ∧
  (ok = false → ¬ (UR = [] ∨ VR = [] ∨ UR = VR) ∨ Mer.okS US VS = false ∨ ∃ S, Mer.SortS S (US ++ Mer.newS US VS) ∧ ¬ Mer.belowJ S (if UR = [] then VR else UR))
/-- What join's call does. -/
def JoinQ (Y : Nat → Prop) (US UR VS VR : List Chg) (w : World) (e : Ending) (w' : World) : Prop := ∃ s r ok, e = .returned (.tuple #[.agg #[s, r], .bool ok]) ∧ JoinE Y US UR VS VR w' (.agg #[s, r]) ok ∧ Below w.heap.size w w' ∧ (∃ a n c, s = .slice a n c) ∧ ∃ a n c, r = .slice a n c
theorem JoinE.bad {Y : Nat → Prop} {US UR VS VR : List Chg} {w' : World} {m : Value} (h : ¬ (UR = [] ∨ VR = [] ∨ UR = VR) ∨ Mer.okS US VS = false ∨ ∃ S, Mer.SortS S (US ++ Mer.newS US VS) ∧ ¬ Mer.belowJ S (if UR = [] then VR else UR)) : JoinE Y US UR VS VR w' m false :=
  ⟨(fun h => by cases h), fun _ => h⟩

/-- A result in a box of two cells, and one in a slot. -/
theorem results_box {P : Program} {fn : Func} {b u : Tmp} {t : TypeId} (h : fn.results = #[.cell b t, .tmp u]) (tmps : Array Value) (w : World) {g : Nat} {v : Value} (hp : tmps.getD b undef = .pointer (some ⟨g, 0, none⟩))
    (hl : (loadVar t ⟨g, 0, none⟩).run P w = .ok v w) : (results fn tmps).run P w = .ok (.tuple #[v, tmps.getD u undef]) w := by
  have hp' : tmps[b]?.getD undef = .pointer (some ⟨g, 0, none⟩) := by simpa using hp
  simp [results, h, hp', asAddr, hl]
theorem load_part {W : World} {g : Nat} {s r : Value} (h : W.heap[g]? = some (.cells #[s, r] 62 (0, 0))) : (loadVar 62 ⟨g, 0, none⟩).run Try.prog W = .ok (.agg #[s, r]) W :=
  run_loadVar_row W g 62 62 #[s, r] (0, 0) _ h Try.underlying62 rfl (by kernel_rfl)

set_option maxRecDepth 100000 in
set_option maxHeartbeats 8000000 in
theorem join_any (Z : Nat → Prop) (US UR VS VR : List Chg) (h1 : US.length ≤ 100000) (h2 : UR.length ≤ 100000) (h3 : VS.length ≤ 100000) (h4 : VR.length ≤ 100000) (g1 : GoodL US) (g3 : GoodL VS) (us ur vs vr : Value) (w : World)
    (hus : ChV Z w us US) (hur : ChV Z w ur UR) (hvs : ChV Z w vs VS) (hvr : ChV Z w vr VR) :
    Calls Try.prog 27 #[.agg #[us, ur], .agg #[vs, vr]] w (JoinQ (fun b => Z b ∨ w.heap.size ≤ b) US UR VS VR w) := by
  have HUS := hid hus
  have HUR := hid hur
  have HVS := hid hvs
  have HVR := hid hvr
  obtain ⟨usa, usc, rfl, uso, uscap, usm⟩ := hus.form
  obtain ⟨ura, urc, rfl, uro, urcap, urm⟩ := hur.form
  obtain ⟨vsa, vsc, rfl, vso, vscap, vsm⟩ := hvs.form
  obtain ⟨vra, vrc, rfl, vro, vrcap, vrm⟩ := hvr.form
  clear hus hur hvs hvr
  go_enter Try.func27, Try.ntmps27
  go_upto_region 1 with fail
  obtain ⟨W0, hW0⟩ : ∃ W0, W0 = (((w.alloc (.cells #[.slice usa US.length usc, .slice ura UR.length urc] 62)).alloc (.cells #[.slice vsa VS.length vsc, .slice vra VR.length vrc] 62)).alloc (.cells #[.slice none 0 0, .slice none 0 0] 62)) := ⟨_, rfl⟩
  rw [← hW0]
  have HJ0 : Hid (JBox w (.slice usa US.length usc) (.slice ura UR.length urc) (.slice vsa VS.length vsc) (.slice vra VR.length vrc) W0) := hid (by
    have z1 : (w.alloc (.cells #[.slice usa US.length usc, .slice ura UR.length urc] 62)).heap.size = w.heap.size + 1 := by simp
    have z2 : ((w.alloc (.cells #[.slice usa US.length usc, .slice ura UR.length urc] 62)).alloc (.cells #[.slice vsa VS.length vsc, .slice vra VR.length vrc] 62)).heap.size = w.heap.size + 1 + 1 := by simp
    rw [hW0]
    refine ⟨(((Below.refl _ _).alloc (Nat.le_refl _) _).alloc (by simp) _).alloc (by simp; omega) _, ?_, ?_, ?_⟩
    · rw [Below.heap_alloc _ _ _ (by rw [z2]; omega), Below.heap_alloc _ _ _ (by rw [z1]; omega)]
      exact heap_new w _ rfl
    · rw [Below.heap_alloc _ _ _ (by rw [z2]; omega)]
      exact heap_new _ _ z1.symm
    · exact heap_new _ _ z2.symm)
  clear hW0
  go_cut [28] from 11 (fun s wx => ∃ bd : Bool, s = .bool bd ∧ Hid (bd = true → ¬ (UR = [] ∨ VR = [] ∨ UR = VR)) ∧ Hid (bd = false → (UR = [] ∨ VR = [] ∨ UR = VR)) ∧ Hid (JBox w (.slice usa US.length usc) (.slice ura UR.length urc) (.slice vsa VS.length vsc) (.slice vra VR.length vrc) wx))
  case first =>
    have e0 : W0.cell? ⟨w.heap.size, 1, none⟩ = some (.slice ura UR.length urc) := by rw [cell_of_row _ _ 1 _ _ (0, 0) HJ0.out.c0]; rfl
    have e1 : W0.cell? ⟨w.heap.size + 1, 1, none⟩ = some (.slice vra VR.length vrc) := by rw [cell_of_row _ _ 1 _ _ (0, 0) HJ0.out.c1]; rfl
    have z0 := HJ0.out.size
    have z1 : w.heap.size < W0.heap.size := by omega
    have z2 : w.heap.size + 1 < W0.heap.size := by omega
    by_cases n1 : UR.length = 0
    · have HR : Hid (UR = [] ∨ VR = [] ∨ UR = VR) := hid (.inl (List.eq_nil_of_length_eq_zero n1))
      have hd1 : decide (0 < UR.length) = false := decide_eq_false (by omega)
      clear n1 z0
      go_wp2
      go_meet
      case rel => exact ⟨false, rfl, hid (fun h => by cases h), hid (fun _ => HR.out), HJ0⟩
    · by_cases n2 : VR.length = 0
      · have HR : Hid (UR = [] ∨ VR = [] ∨ UR = VR) := hid (.inr (.inl (List.eq_nil_of_length_eq_zero n2)))
        have hd1 : decide (0 < UR.length) = true := decide_eq_true (by omega)
        have hd2 : decide (0 < VR.length) = false := decide_eq_false (by omega)
        clear n1 n2 z0
        go_wp2
        go_meet
        case rel => exact ⟨false, rfl, hid (fun h => by cases h), hid (fun _ => HR.out), HJ0⟩
      · have HNE : Hid (¬ UR = [] ∧ ¬ VR = []) := hid ⟨fun e => n1 (by rw [e]; rfl), fun e => n2 (by rw [e]; rfl)⟩
        have hd1 : decide (0 < UR.length) = true := decide_eq_true (by omega)
        have hd2 : decide (0 < VR.length) = true := decide_eq_true (by omega)
        clear n1 n2 z0
        have HEQ := hid (equalC_any UR VR h2 h4 _ _ Z Z W0 (HUR.out.keep (KeepS.below HJ0.out.below)) (HVR.out.keep (KeepS.below HJ0.out.below)))
        go_wp2_with fail
        refine HEQ.out.mono ?_
        rintro e w5 ⟨rfl, hb5⟩
        have HB5 := hid hb5
        clear hb5
        by_cases hq : UR = VR
        · have HR : Hid (UR = [] ∨ VR = [] ∨ UR = VR) := hid (.inr (.inr hq))
          have HD := hid (decide_eq_true hq)
          rw [HD.out]
          clear hq
          go_wp2
          go_meet
          case rel => exact ⟨false, rfl, hid (fun h => by cases h), hid (fun _ => HR.out), hid (HJ0.out.keep HB5.out)⟩
        · have HR : Hid (¬ (UR = [] ∨ VR = [] ∨ UR = VR)) := hid (fun h => by
            rcases h with h | h | h
            · exact HNE.out.1 h
            · exact HNE.out.2 h
            · exact hq h)
          have HD := hid (decide_eq_false hq)
          rw [HD.out]
          clear hq
          go_wp2
          go_meet
          case rel => exact ⟨true, rfl, hid (fun _ => HR.out), hid (fun h => by cases h), hid (HJ0.out.keep HB5.out)⟩
  case rest =>
    obtain ⟨bd, rfl, HCB, HCG, HJ1⟩ := hcut
    clear HJ0
    cases bd with
    | true =>
      have HR := hid (HCB.out rfl)
      have f0 : wc.frozen? ⟨w.heap.size + 1 + 1, 0, none⟩ = false := by simp [World.frozen?, HJ1.out.c2]
      have f1 : wc.frozen? ⟨w.heap.size + 1 + 1, 1, none⟩ = false := by simp [World.frozen?, HJ1.out.c2]
      have e0 : wc.cell? ⟨w.heap.size + 1 + 1, 0, none⟩ = some (.slice none 0 0) := by rw [cell_of_row _ _ 0 _ _ (0, 0) HJ1.out.c2]; rfl
      have e1 : wc.cell? ⟨w.heap.size + 1 + 1, 1, none⟩ = some (.slice none 0 0) := by rw [cell_of_row _ _ 1 _ _ (0, 0) HJ1.out.c2]; rfl
      have z0 := HJ1.out.size
      have z1 : w.heap.size + 1 + 1 < wc.heap.size := by omega
      clear z0
      go_wp2
      (try simp only [Exit.inBlock, Exit.then])
      have t1 := heap_setCell_same wc (w.heap.size + 1 + 1) 0 _ _ (.slice none 0 0) HJ1.out.c2
      have t2 := heap_setCell_same _ (w.heap.size + 1 + 1) 1 _ _ (.slice none 0 0) t1
      refine bodyPost_ret (results_box rfl _ _ rfl (load_part t2)) rfl ?_
      refine ⟨_, _, _, rfl, .bad (.inl HR.out), ?_, ⟨_, _, _, rfl⟩, ⟨_, _, _, rfl⟩⟩
      exact HJ1.out.below.trans ((((Turns.refl (fun b => b = w.heap.size + 1 + 1) wc).setCell _ _ rfl).setCell _ _ rfl).below HJ1.out.below.size (fun b hb => by omega))
    | false =>
      have HRO := hid (HCG.out rfl)
      clear HCB HCG
      have e0 : wc.cell? ⟨w.heap.size, 1, none⟩ = some (.slice ura UR.length urc) := by rw [cell_of_row _ _ 1 _ _ (0, 0) HJ1.out.c0]; rfl
      have z0 := HJ1.out.size
      have z1 : w.heap.size < wc.heap.size := by omega
      have HLO := hid z0
      clear z0
      go_upto_if 36 with fail
      obtain ⟨W1, hW1⟩ : ∃ W1, W1 = wc.alloc (.cells #[.slice none 0 0, .slice ura UR.length urc] 62) := ⟨_, rfl⟩
      rw [← hW1]
      have HAL : Hid (Below wc.heap.size wc W1) := hid (by rw [hW1]; exact (Below.refl _ _).alloc (Nat.le_refl _) _)
      have HD1 : Hid (W1.heap[wc.heap.size]? = some (.cells #[.slice none 0 0, .slice ura UR.length urc] 62 (0, 0))) := hid (by rw [hW1]; exact heap_new wc _ rfl)
      obtain ⟨D, hD⟩ : ∃ D, D = wc.heap.size := ⟨_, rfl⟩
      rw [← hD] at HD1 HLO ⊢
      have HJ2 := hid (HJ1.out.keep HAL.out)
      have HUR2 := hid ((HUR.out.mono (S' := (fun b => Z b ∧ b < w.heap.size)) (fun b hb h => ⟨h, hb⟩)).keep (KeepS.below HJ2.out.below))
      have HVR2 := hid ((HVR.out.mono (S' := (fun b => Z b ∧ b < w.heap.size)) (fun b hb h => ⟨h, hb⟩)).keep (KeepS.below HJ2.out.below))
      clear hW1 e0 z1 HJ1 HAL hD
      go_cut [] from 37 (fun wx => ∃ ra rn rc, Hid (JBox w (.slice usa US.length usc) (.slice ura UR.length urc) (.slice vsa VS.length vsc) (.slice vra VR.length vrc) wx) ∧ Hid (wx.heap[D]? = some (.cells #[.slice none 0 0, .slice ra rn rc] 62 (0, 0))) ∧ Hid (ChV (fun b => Z b ∧ b < w.heap.size) wx (.slice ra rn rc) (if UR = [] then VR else UR)))
      case first =>
        by_cases n1 : UR.length = 0
        · have hd1 : ((UR.length : Int) == 0) = true := by simp [n1]
          have HE : Hid (UR = []) := hid (List.eq_nil_of_length_eq_zero n1)
          have e1 : W1.cell? ⟨w.heap.size + 1, 1, none⟩ = some (.slice vra VR.length vrc) := by rw [cell_of_row _ _ 1 _ _ (0, 0) HJ2.out.c1]; rfl
          have z1 : w.heap.size + 1 < W1.heap.size := by have := HJ2.out.size; omega
          have z2 : D < W1.heap.size := (Array.getElem?_eq_some_iff.1 HD1.out).1
          have e2 : W1.cell? ⟨D, 1, none⟩ = some (.slice ura UR.length urc) := by rw [cell_of_row _ _ 1 _ _ (0, 0) HD1.out]; rfl
          have f2 : W1.frozen? ⟨D, 1, none⟩ = false := by simp [World.frozen?, HD1.out]
          have HT : Hid (Turns (fun b => b = D) W1 (W1.setCell ⟨D, 1, none⟩ (.slice vra VR.length vrc))) := hid ((Turns.refl _ _).setCell _ _ rfl)
          clear n1
          go_wp2
          go_meet
          case rel => exact ⟨_, _, _, hid (HJ2.out.turn HT.out (fun b hb => by rw [hb]; exact HLO.out)), hid (heap_setCell_same W1 D 1 _ _ (.slice vra VR.length vrc) HD1.out), hid (by
            rw [if_pos HE.out]
            exact HVR2.out.keep (fun b hb hlt => HT.out.block b (fun e => by have := HLO.out; omega) hlt))⟩
        · have hd1 : ((UR.length : Int) == 0) = false := beqF (by omega)
          have HE : Hid (¬ UR = []) := hid (fun e => n1 (by rw [e]; rfl))
          clear n1
          go_wp2
          go_meet
          case rel => exact ⟨_, _, _, HJ2, HD1, hid (by rw [if_neg HE.out]; exact HUR2.out)⟩
      case rest =>
        obtain ⟨ra, rn, rc, HJ3, HD3, HR3⟩ := hcut
        clear HJ2 HD1 HUR2 HVR2
        have e0 : wc.cell? ⟨w.heap.size, 0, none⟩ = some (.slice usa US.length usc) := by rw [cell_of_row _ _ 0 _ _ (0, 0) HJ3.out.c0]; rfl
        have z0 : w.heap.size < wc.heap.size := by have := HJ3.out.size; omega
        have HCL := hid (cloneC_any US h1 _ (fun b => Z b ∧ b < w.heap.size) wc ((HUS.out.mono (S' := (fun b => Z b ∧ b < w.heap.size)) (fun b hb h => ⟨h, hb⟩)).keep (KeepS.below HJ3.out.below)))
        have HDN : Hid (D < wc.heap.size) := hid (Array.getElem?_eq_some_iff.1 HD3.out).1
        go_wp2_with fail
        refine HCL.out.mono ?_
        rintro e w5 ⟨x, rfl, hown, hb5⟩
        have HOW : Hid (OwnC (fun b => Z b ∧ b < w.heap.size) wc.heap.size 59 w5 x US) := hid (hown.monoS (fun b hb => hb.1))
        have HB5 := hid hb5
        obtain ⟨xa, xn, xc, rfl⟩ : ∃ a n c, x = .slice a n c := by obtain ⟨a, c, h, -⟩ := hown.sl.form; exact ⟨_, _, _, h⟩
        have hD5 : w5.heap[D]? = some (.cells #[.slice none 0 0, .slice ra rn rc] 62 (0, 0)) := (hb5.block _ HDN.out).trans HD3.out
        have HD5 := hid hD5
        have z2 : D < w5.heap.size := (Array.getElem?_eq_some_iff.1 hD5).1
        have e2 : w5.cell? ⟨D, 0, none⟩ = some (.slice none 0 0) := by rw [cell_of_row _ _ 0 _ _ (0, 0) hD5]; rfl
        have f2 : w5.frozen? ⟨D, 0, none⟩ = false := by simp [World.frozen?, hD5]
        clear hown hb5 hD5 e0 z0
        go_upto_region 7 with fail
        obtain ⟨W6, hW6⟩ : ∃ W6, W6 = w5.setCell ⟨D, 0, none⟩ (.slice xa xn xc) := ⟨_, rfl⟩
        rw [← hW6]
        have HT6 : Hid (Turns (fun b => b = D) w5 W6) := hid (by rw [hW6]; exact (Turns.refl _ _).setCell _ _ rfl)
        have HI6 : Hid (JInv Z w (.slice usa US.length usc) (.slice ura UR.length urc) (.slice vsa VS.length vsc) (.slice vra VR.length vrc) D wc.heap.size (.slice xa xn xc) (.slice ra rn rc) (US ++ Mer.newS US (VS.take 0)) W6) := hid (by
          refine ⟨(HJ3.out.keep HB5.out).turn HT6.out (fun b hb => by rw [hb]; exact HLO.out), by rw [hW6]; exact heap_setCell_same w5 D 0 _ _ _ HD5.out, ?_, HLO.out, HDN.out, Nat.le_trans HB5.out.size HT6.out.size⟩
          have h0 : Mer.newS US (VS.take 0) = [] := by simp [Mer.newS]
          rw [h0, List.append_nil]
          refine HOW.out.keepOwn (fun b hb hl => HT6.out.block b (fun e => ?_) hl)
          rcases hb with hb | hb
          · have := HLO.out; omega
          · have := (HOW.out.lt b hb).1; have := HDN.out; omega)
        have HR6 : Hid (ChV (fun b => Z b ∧ b < w.heap.size) W6 (.slice ra rn rc) (if UR = [] then VR else UR)) := hid ((HR3.out.keep (KeepS.below HB5.out)).keep (fun b hb hlt => HT6.out.block b (fun e => by have := HLO.out; omega) hlt))
        obtain ⟨N, hN⟩ : ∃ N, N = wc.heap.size := ⟨_, rfl⟩
        rw [← hN] at HI6
        clear hW6 z2 e2 f2 hN HT6 HD5 HB5 HOW HCL HJ3 HD3 HDN
        have e0 : W6.cell? ⟨w.heap.size + 1, 0, none⟩ = some (.slice vsa VS.length vsc) := by rw [cell_of_row _ _ 0 _ _ (0, 0) HI6.out.box.c1]; rfl
        have z0 : w.heap.size + 1 < W6.heap.size := by have := HI6.out.box.size; omega
        go_wp2
        go_loopg [47] VS.length (fun g i wr => ∃ k xa xn xc, k ≤ VS.length ∧ g = VS.length - k ∧ i = .int .i64 ((k : Nat) : Int) ∧ Hid (JInv Z w (.slice usa US.length usc) (.slice ura UR.length urc) (.slice vsa VS.length vsc) (.slice vra VR.length vrc) D N (.slice xa xn xc) (.slice ra rn rc) (US ++ Mer.newS US (VS.take k)) wr) ∧ Hid (Mer.okS US (VS.take k) = true) ∧ Hid (ChV (fun b => Z b ∧ b < w.heap.size) wr (.slice ra rn rc) (if UR = [] then VR else UR)))
        case atStart => exact ⟨0, xa, xn, xc, by omega, rfl, rfl, HI6, hid (by simp [Mer.okS]), HR6⟩
        case round =>
          clear e0 z0
          obtain ⟨k, xa, xn, xc, hk, hgk, rfl, HI, HOK, HRr⟩ := hrel
          clear HI6 HR6
          by_cases hlt : k < VS.length
          · have hk0 : (0 : Int) ≤ k := by omega
            have hk1 : (k : Int) < VS.length := by omega
            have hv1 : ChV (fun b => Z b ∧ b < w.heap.size) wr (.slice vsa VS.length vsc) VS := (HVS.out.mono (S' := (fun b => Z b ∧ b < w.heap.size)) (fun b hb h => ⟨h, hb⟩)).keep (KeepS.below HI.out.box.below)
            obtain ⟨hbk, -, y0, y1, y2, y3, y4, ul, y5, hul⟩ := hv1.at hlt
            have hgc : GoodC VS[k] := g3 _ (List.getElem_mem _)
            obtain ⟨c, hck⟩ : ∃ c, VS[k] = c := ⟨_, rfl⟩
            have HCK := hid hck
            rw [hck] at y0 y1 y2 y3 y4 hul hgc
            clear hck hv1
            obtain ⟨k0, i0, f0, o0, n0, vl⟩ := c
            simp only at y0 y1 y2 y3 y4 hul
            obtain ⟨al, cl, rfl, -, -, -⟩ := hul.form
            have HUL := hid hul
            have HGC := hid hgc
            have HLU : Hid ((US ++ Mer.newS US (VS.take k)).length ≤ 200000) := hid (by
              have := newS_len US (VS.take k)
              rw [List.length_take] at this
              rw [List.length_append]
              omega)
            clear hul hgc
            go_upto_region 10 with fail
            obtain ⟨W1, hW1⟩ : ∃ W1, W1 = wr.alloc (.cells #[.int .i64 k0, .int .i64 i0, .int .i64 f0, .int .i64 o0, .int .i64 n0, .slice al vl.length cl] 59) := ⟨_, rfl⟩
            rw [← hW1]
            have HB1 : Hid (Below wr.heap.size wr W1) := hid (by rw [hW1]; exact (Below.refl _ _).alloc (Nat.le_refl _) _)
            have HT1 : Hid (W1.heap[wr.heap.size]? = some (.cells #[.int .i64 k0, .int .i64 i0, .int .i64 f0, .int .i64 o0, .int .i64 n0, .slice al vl.length cl] 59 (0, 0))) := hid (by rw [hW1]; exact heap_new wr _ rfl)
            have e0 : W1.cell? ⟨w.heap.size, 0, none⟩ = some (.slice usa US.length usc) := by rw [cell_of_row _ _ 0 _ _ (0, 0) (HI.out.box.keep HB1.out).c0]; rfl
            have z0 : w.heap.size < W1.heap.size := by have := (HI.out.box.keep HB1.out).size; omega
            have HIX := hid (indexC_any US h1 g1 ⟨k0, i0, f0, o0, n0, vl⟩ HGC.out al vl.length cl wr.heap.size (.slice usa US.length usc) Z W1 (HUS.out.keep (KeepS.below (HI.out.box.keep HB1.out).below)) HT1.out)
            clear hW1 y0 y1 y2 y3 y4 y5 hbk
            go_wp2_with fail
            refine HIX.out.mono ?_
            rintro e w5 ⟨hi, hb5⟩
            have HB5 : Hid (Below wr.heap.size wr w5) := hid (HB1.out.trans (hb5.mono HB1.out.size))
            have HI5 : Hid (JInv Z w (.slice usa US.length usc) (.slice ura UR.length urc) (.slice vsa VS.length vsc) (.slice vra VR.length vrc) D N (.slice xa xn xc) (.slice ra rn rc) (US ++ Mer.newS US (VS.take k)) w5) := hid (HI.out.keep HB5.out)
            have HR5 := hid (HRr.out.keep (KeepS.below HB5.out))
            have HT5 : Hid (w5.heap[wr.heap.size]? = some (.cells #[.int .i64 k0, .int .i64 i0, .int .i64 f0, .int .i64 o0, .int .i64 n0, .slice al vl.length cl] 59 (0, 0))) := hid ((hb5.block _ (Array.getElem?_eq_some_iff.1 HT1.out).1).trans HT1.out)
            have b0 : w5.cell? ⟨wr.heap.size, 0, none⟩ = some (.int .i64 k0) := by rw [cell_of_row _ _ 0 _ _ (0, 0) HT5.out]; rfl
            have b1 : w5.cell? ⟨wr.heap.size, 1, none⟩ = some (.int .i64 i0) := by rw [cell_of_row _ _ 1 _ _ (0, 0) HT5.out]; rfl
            have b2 : w5.cell? ⟨wr.heap.size, 2, none⟩ = some (.int .i64 f0) := by rw [cell_of_row _ _ 2 _ _ (0, 0) HT5.out]; rfl
            have b3 : w5.cell? ⟨wr.heap.size, 3, none⟩ = some (.int .i64 o0) := by rw [cell_of_row _ _ 3 _ _ (0, 0) HT5.out]; rfl
            have b4 : w5.cell? ⟨wr.heap.size, 4, none⟩ = some (.int .i64 n0) := by rw [cell_of_row _ _ 4 _ _ (0, 0) HT5.out]; rfl
            have b5 : w5.cell? ⟨wr.heap.size, 5, none⟩ = some (.slice al vl.length cl) := by rw [cell_of_row _ _ 5 _ _ (0, 0) HT5.out]; rfl
            have bz : wr.heap.size < w5.heap.size := (Array.getElem?_eq_some_iff.1 HT5.out).1
            clear hb5 e0 z0 HIX HT1 HB1
            rcases hi with ⟨hf, rfl⟩ | ⟨i, hil, hf, rfl⟩
            · have HF := hid hf
              clear hf
              have hDL := HI5.out.lt
              have x0 : w5.cell? ⟨D, 0, none⟩ = some (.slice xa xn xc) := by rw [cell_of_row _ _ 0 _ _ (0, 0) HI5.out.c3]; rfl
              have HON := hid HI5.out.ownN
              have HULb : Hid (IntsV (fun b => (Z b ∧ b < w.heap.size) ∧ some b ≠ (Value.slice xa xn xc).ownBlock) w5 (.slice al vl.length cl) vl) := hid (IntsV.mono (HUL.out.keep (KeepS.below HB5.out)) (fun b _ hb' => ⟨hb', fun e => by have h1 := (HON.out b e).1; have h2 := HI5.out.lo; have h3 := HI5.out.hi; omega⟩))
              go_wp2_with (at_builtin; go_must (refine wpList_appC1N (v := .slice xa xn xc) rfl _ _ rfl Try.app30 rfl HI5.out.own rfl ⟨k0, i0, f0, o0, n0, vl⟩ (.slice al vl.length cl) rfl rfl HULb.out (by have := HLU.out; omega) HI5.out.nle ?_))
              intro v' w6 hown6 ht6 hfr6
              obtain ⟨va, vn, vc, rfl⟩ : ∃ a n c, v' = .slice a n c := by obtain ⟨a, c, h, -⟩ := hown6.sl.form; exact ⟨_, _, _, h⟩
              have HO6 := hid hown6
              have HT6 := hid ht6
              have HD6 : Hid (w6.heap[D]? = some (.cells #[.slice xa xn xc, .slice ra rn rc] 62 (0, 0))) := hid ((ht6.block _ (fun e => by have h1 := (HON.out D e).1; have h2 := HI5.out.hi; omega) HI5.out.lt).trans HI5.out.c3)
              have x1 : w6.cell? ⟨D, 0, none⟩ = some (.slice xa xn xc) := by rw [cell_of_row _ _ 0 _ _ (0, 0) HD6.out]; rfl
              have x2 : w6.frozen? ⟨D, 0, none⟩ = false := by simp [World.frozen?, HD6.out]
              have x3 : D < w6.heap.size := (Array.getElem?_eq_some_iff.1 HD6.out).1
              have HT7 : Hid (Turns (fun b => b = D) w6 (w6.setCell ⟨D, 0, none⟩ (.slice va vn vc))) := hid ((Turns.refl _ _).setCell _ _ rfl)
              have HTT : Hid (Turns (fun b => D ≤ b) w5 (w6.setCell ⟨D, 0, none⟩ (.slice va vn vc))) := hid ((HT6.out.mono (fun b _ e => by have h1 := (HON.out b e).1; have h2 := HI5.out.hi; omega)).trans (HT7.out.mono (fun b _ e => by omega)))
              clear hown6 ht6 hfr6 b0 b1 b2 b3 b4 b5 bz x0 hDL
              go_wp2
              go_roundg (VS.length - (k + 1))
              case measure => omega
              case rel =>
                refine ⟨k + 1, va, vn, vc, by omega, rfl, by go_num, hid ⟨HI5.out.box.turn HTT.out (fun b hb => by have := HI5.out.lo; omega), heap_setCell_same w6 D 0 _ _ _ HD6.out, ?_, HI5.out.lo, HI5.out.hi, Nat.le_trans HI5.out.nle HTT.out.size⟩, hid (okS_snoc hlt HOK.out (fun d hd => by rw [HCK.out, HF.out] at hd; cases hd)), hid (HR5.out.keep (fun b hb hl => HTT.out.block b (by have := HI5.out.lo; omega) hl))⟩
                have e : US ++ Mer.newS US (VS.take (k + 1)) = US ++ (Mer.newS US (VS.take k) ++ [⟨k0, i0, f0, o0, n0, vl⟩]) := by
                  rw [newS_snoc hlt, HCK.out, HF.out]; rfl
                rw [e]
                refine HO6.out.keepOwn (fun b hb hl => HT7.out.block b (fun e => ?_) hl)
                rcases hb with hb | hb
                · have := HI5.out.lo; omega
                · have h1 := (HO6.out.lt b hb).1; have h2 := HI5.out.hi; omega
            · have HF := hid hf
              clear hf
              have hi0 : (0 : Int) ≤ i := by omega
              have hi1 : (i : Int) < US.length := by omega
              have hin : decide ((i : Int) < 0) = false := decide_eq_false (by omega)
              obtain ⟨hbu, -, u0, u1, u2, u3, u4, ulu, u5, hulu⟩ := ((HUS.out.mono (S' := (fun b => Z b ∧ b < w.heap.size)) (fun b hb h => ⟨h, hb⟩)).keep (KeepS.below HI5.out.box.below)).at hil
              obtain ⟨d, hdk⟩ : ∃ d, US[i] = d := ⟨_, rfl⟩
              have HDK := hid hdk
              rw [hdk] at u0 u1 u2 u3 u4 hulu
              clear hdk
              obtain ⟨k1, i1, f1, o1, n1, vd⟩ := d
              simp only at u0 u1 u2 u3 u4 hulu
              obtain ⟨bl, el, rfl, -, -, -⟩ := hulu.form
              have HPE := hid (fun W (h : Below w5.heap.size w5 W) => pequal_any ⟨k0, i0, f0, o0, n0, vl⟩ ⟨k1, i1, f1, o1, n1, vd⟩ _ _ _ _ W ((HUL.out.keep (KeepS.below HB5.out)).keep (KeepS.below h)) (hulu.keep (KeepS.below h)))
              have e0 : w5.cell? ⟨w.heap.size, 0, none⟩ = some (.slice usa US.length usc) := by rw [cell_of_row _ _ 0 _ _ (0, 0) HI5.out.box.c0]; rfl
              have z0 : w.heap.size < w5.heap.size := by have := HI5.out.box.size; omega
              clear hulu
              go_wp2
              refine wp_region_quiet_tail 6 (by kernel_rfl) (by kernel_rfl) ?_
              simp only [List.take_succ_cons, List.take_zero, List.drop_succ_cons, List.drop_zero]
              repeat (go_big_quiet_step (fail))
              refine wpQuiet_nil ?_
              clear u0 u1 u2 u3 u4 u5 b0 b1 b2 b3 b4 b5 bz e0 z0 hbu
              go_wp2_with fail
              refine (HPE.out _ (below_drewN (Below.refl _ _) _)).mono ?_
              rintro e w7 ⟨rfl, hb7⟩
              have HB7 : Hid (Below w5.heap.size w5 w7) := hid ((below_drewN (Below.refl _ _) _).trans hb7)
              have HI7 := hid (HI5.out.keep HB7.out)
              have HR7 := hid (HR5.out.keep (KeepS.below HB7.out))
              clear hb7 HPE
              by_cases hxy : ((⟨k0, i0, f0, o0, n0, vl⟩ : Chg) = ⟨k1, i1, f1, o1, n1, vd⟩)
              · have HE := hid hxy
                have HD := hid (decide_eq_true hxy)
                rw [HD.out]
                clear hxy
                go_wp2
                go_roundg (VS.length - (k + 1))
                case measure => omega
                case rel =>
                  have e : Mer.newS US (VS.take (k + 1)) = Mer.newS US (VS.take k) := by
                    rw [newS_snoc hlt, HCK.out, HF.out]
                    exact List.append_nil _
                  exact ⟨k + 1, xa, xn, xc, by omega, rfl, by go_num, hid (by rw [e]; exact HI7.out), hid (okS_snoc hlt HOK.out (fun d hd => by
                    rw [HCK.out, HF.out, HDK.out] at hd
                    rw [HCK.out, HE.out]
                    exact Option.some.inj hd)), HR7⟩
              · have HE := hid (okS_bad hlt (by rw [HCK.out]; exact HF.out) (by rw [HCK.out, HDK.out]; exact hxy))
                have HD := hid (decide_eq_false hxy)
                rw [HD.out]
                clear hxy
                have f0 : w7.frozen? ⟨w.heap.size + 1 + 1, 0, none⟩ = false := by simp [World.frozen?, HI7.out.box.c2]
                have f1 : w7.frozen? ⟨w.heap.size + 1 + 1, 1, none⟩ = false := by simp [World.frozen?, HI7.out.box.c2]
                have e0 : w7.cell? ⟨w.heap.size + 1 + 1, 0, none⟩ = some (.slice none 0 0) := by rw [cell_of_row _ _ 0 _ _ (0, 0) HI7.out.box.c2]; rfl
                have e1 : w7.cell? ⟨w.heap.size + 1 + 1, 1, none⟩ = some (.slice none 0 0) := by rw [cell_of_row _ _ 1 _ _ (0, 0) HI7.out.box.c2]; rfl
                have z1 : w.heap.size + 1 + 1 < w7.heap.size := by have := HI7.out.box.size; omega
                go_wp2
                (try simp only [Exit.inBlock, Exit.then])
                have t1 := heap_setCell_same w7 (w.heap.size + 1 + 1) 0 _ _ (.slice none 0 0) HI7.out.box.c2
                have t2 := heap_setCell_same _ (w.heap.size + 1 + 1) 1 _ _ (.slice none 0 0) t1
                refine bodyPost_ret (results_box rfl _ _ rfl (load_part t2)) rfl ?_
                refine ⟨_, _, _, rfl, .bad (.inr (.inl HE.out)), ?_, ⟨_, _, _, rfl⟩, ⟨_, _, _, rfl⟩⟩
                exact HI7.out.box.below.trans ((((Turns.refl (fun b => b = w.heap.size + 1 + 1) w7).setCell _ _ rfl).setCell _ _ rfl).below HI7.out.box.below.size (fun b hb => by omega))
          · obtain rfl : k = VS.length := by omega
            have hk3 : ¬ ((VS.length : Nat) : Int) < VS.length := by omega
            rw [List.take_length] at HI HOK
            have HXS : Hid (GoodL (US ++ Mer.newS US VS)) := hid (g1.append (newS_good g3))
            have HLU : Hid ((US ++ Mer.newS US VS).length ≤ 200000) := hid (by
              have := newS_len US VS
              rw [List.length_append]
              omega)
            have HSO := hid (sortC_any (fun b => Z b ∧ b < w.heap.size) N wr xa xn xc (US ++ Mer.newS US VS) HXS.out HI.out.own (by have := HLU.out; omega))
            have x0 : wr.cell? ⟨D, 0, none⟩ = some (.slice xa xn xc) := by rw [cell_of_row _ _ 0 _ _ (0, 0) HI.out.c3]; rfl
            have hDL := HI.out.lt
            go_wp2_with fail
            refine HSO.out.mono ?_
            rintro e w6 ⟨rfl, ys, hys, hown6, ht6⟩
            have HYS := hid hys
            have HO6 := hid hown6
            have HON := hid HI.out.ownN
            have HTD : Hid (Turns (fun b => D < b) wr w6) := hid (ht6.mono (fun b _ e => by have h1 := (HON.out b e).1; have h2 := HI.out.hi; omega))
            have HJ6 := hid (HI.out.box.turn HTD.out (fun b hb => by have := HI.out.lo; omega))
            have HD6 : Hid (w6.heap[D]? = some (.cells #[.slice xa xn xc, .slice ra rn rc] 62 (0, 0))) := hid ((HTD.out.block _ (by omega) HI.out.lt).trans HI.out.c3)
            have HR6 := hid (HRr.out.keep (fun b hb hl => HTD.out.block b (by have := HI.out.lo; omega) hl))
            have HGY : Hid (GoodL ys) := hid (fun c hc => HXS.out c (hys.perm.mem_iff.1 hc))
            have HLY : Hid (ys.length ≤ 200000) := hid (by rw [hys.perm.length_eq]; exact HLU.out)
            obtain ⟨a', cap', he, yok, ycap, ymax⟩ := hown6.sl.form
            cases he
            have HLK := hid (lastK_below (R := if UR = [] then VR else UR) hys.sorted HGY.out)
            have HRL : Hid ((if UR = [] then VR else UR).length ≤ 100000) := hid (by split <;> assumption)
            have HLOO := hid HI.out.lo
            have HNLO : Hid (w.heap.size + 1 + 1 < N) := hid (by have := HI.out.lo; have := HI.out.hi; omega)
            have HFIN : Hid (∀ (W : World) (ok : Bool), Turns (fun b => b = w.heap.size + 1 + 1) w6 W → lastK ys (if UR = [] then VR else UR) = ok → JoinE (fun b => Z b ∨ w.heap.size ≤ b) US UR VS VR W (.agg #[.slice xa ys.length xc, .slice ra rn rc]) ok ∧ Below w.heap.size w W) := hid (fun W ok ht hl => by
              refine ⟨?_, HJ6.out.below.trans (ht.below HJ6.out.below.size (fun b hb => by omega))⟩
              cases ok with
              | true =>
                refine ⟨fun _ => ⟨_, _, rfl, HRO.out, HOK.out, ys, HYS.out, HLK.out.1 hl, ?_, ?_⟩, fun h => by cases h⟩
                · exact ((HO6.out.sl).keep (fun b hb hlt => ht.block b (by have := HNLO.out; omega) hlt)).mono (fun b _ hb => by
                    rcases hb with hb | hb
                    · exact .inl hb.1
                    · exact .inr (by have := HNLO.out; omega))
                · exact (HR6.out.keep (fun b hb hlt => ht.block b (by omega) hlt)).mono (fun b _ hb => .inl hb.1)
              | false => exact ⟨(fun h => by cases h), fun _ => Or.inr (Or.inr ⟨ys, HYS.out, fun h => by rw [HLK.out.2 h] at hl; cases hl⟩)⟩)
            clear hys hown6 ht6 x0 hDL HI HON HSO hk3 HLK
            generalize (if UR = [] then VR else UR) = RR at *
            have x0 : w6.cell? ⟨D, 0, none⟩ = some (.slice xa ys.length xc) := by rw [cell_of_row _ _ 0 _ _ (0, 0) HD6.out]; rfl
            have x1 : w6.cell? ⟨D, 1, none⟩ = some (.slice ra rn rc) := by rw [cell_of_row _ _ 1 _ _ (0, 0) HD6.out]; rfl
            have xz : D < w6.heap.size := (Array.getElem?_eq_some_iff.1 HD6.out).1
            go_upto_region 18 with fail
            clear x0 x1
            have HPH : Hid (∀ W, Turns (fun b => b = w.heap.size + 1 + 1) w6 W → W.cell? ⟨D, 0, none⟩ = some (.slice xa ys.length xc) ∧ W.cell? ⟨D, 1, none⟩ = some (.slice ra rn rc)) := hid (fun W ht => by
              have h := (ht.block D (by have := HLOO.out; omega) (Array.getElem?_eq_some_iff.1 HD6.out).1).trans HD6.out
              exact ⟨by rw [cell_of_row _ _ 0 _ _ (0, 0) h]; rfl, by rw [cell_of_row _ _ 1 _ _ (0, 0) h]; rfl⟩)
            have HT1 : Hid (Turns (fun b => b = w.heap.size + 1 + 1) w6 (w6.drewN 1)) := hid (Turns.of_below (below_drewN (Below.refl _ _) 1))
            by_cases hz : ys.length = 0
            · have HLT : Hid (lastK ys RR = true) := hid (by unfold lastK; rw [dif_neg (by omega)])
              have hdz : ((ys.length : Int) == 0) = true := by simp [hz]
              clear hz
              refine wp_region_held 16 [(true, 0), (true, 1), (true, 2), (true, 3), (true, 4), (true, 5), (true, 6), (true, 7), (true, 8), (true, 9), (true, 10), (true, 11), (false, 12), (true, 13), (true, 14), (false, 15)] (fun W => Turns (fun b => b = w.heap.size + 1 + 1) w6 W) (by kernel_rfl) (by kernel_rfl) HT1.out ?_
              intro hne
              have x0 : ∀ x : Held (fun W => Turns (fun b => b = w.heap.size + 1 + 1) w6 W), x.1.cell? ⟨D, 0, none⟩ = some (.slice xa ys.length xc) := fun x => (HPH.out x.1 x.2).1
              have x1 : ∀ x : Held (fun W => Turns (fun b => b = w.heap.size + 1 + 1) w6 W), x.1.cell? ⟨D, 1, none⟩ = some (.slice ra rn rc) := fun x => (HPH.out x.1 x.2).2
              refine wpSteps_pre 12 (by decide) ?_
              simp only [List.take_succ_cons, List.take_zero]
              repeat (go_big_quiet_step (fail))
              refine wpQuiet_nil ?_
              refine wpSteps_one rfl ?_
              clear x0 x1
              go_wp2
              refine qn_mk ⟨InHeld.of HT1.out, ?_⟩
              obtain ⟨Wd, hwd⟩ : ∃ Wd, Wd = w6.drewN 1 := ⟨_, rfl⟩
              have HTd : Hid (Turns (fun b => b = w.heap.size + 1 + 1) w6 Wd) := hid (by rw [hwd]; exact HT1.out)
              have HCD : Hid (Wd.heap[w.heap.size + 1 + 1]? = some (.cells #[.slice none 0 0, .slice none 0 0] 62 (0, 0))) := hid (by rw [hwd]; exact HJ6.out.c2)
              rw [← hwd]
              clear hwd HT1
              iterate 2 (refine wpSteps_quiet rfl ?_; repeat (go_big_quiet_step (fail)); refine wpQuiet_nil ?_)
              refine wpSteps_one rfl ?_
              have c2d : Wd.heap[w.heap.size + 1 + 1]? = some (.cells #[.slice none 0 0, .slice none 0 0] 62 (0, 0)) := HCD.out
              have q0 : Wd.cell? ⟨w.heap.size + 1 + 1, 0, none⟩ = some (.slice none 0 0) := by rw [cell_of_row _ _ 0 _ _ (0, 0) c2d]; rfl
              have q1 : Wd.cell? ⟨w.heap.size + 1 + 1, 1, none⟩ = some (.slice none 0 0) := by rw [cell_of_row _ _ 1 _ _ (0, 0) c2d]; rfl
              have q2 : Wd.frozen? ⟨w.heap.size + 1 + 1, 0, none⟩ = false := by simp [World.frozen?, c2d]
              have q3 : Wd.frozen? ⟨w.heap.size + 1 + 1, 1, none⟩ = false := by simp [World.frozen?, c2d]
              have q4 : w.heap.size + 1 + 1 < Wd.heap.size := (Array.getElem?_eq_some_iff.1 c2d).1
              have t1 := heap_setCell_same Wd (w.heap.size + 1 + 1) 0 _ _ (.slice xa ys.length xc) c2d
              have t2 := heap_setCell_same _ (w.heap.size + 1 + 1) 1 _ _ (.slice ra rn rc) t1
              have HT2 : Hid (((Wd.setCell ⟨w.heap.size + 1 + 1, 0, none⟩ (.slice xa ys.length xc)).setCell ⟨w.heap.size + 1 + 1, 1, none⟩ (.slice ra rn rc)).heap[w.heap.size + 1 + 1]? = some (.cells #[.slice xa ys.length xc, .slice ra rn rc] 62 (0, 0))) := hid t2
              have HTW : Hid (Turns (fun b => b = w.heap.size + 1 + 1) w6 ((Wd.setCell ⟨w.heap.size + 1 + 1, 0, none⟩ (.slice xa ys.length xc)).setCell ⟨w.heap.size + 1 + 1, 1, none⟩ (.slice ra rn rc))) := hid ((HTd.out.setCell _ _ rfl).setCell _ _ rfl)
              clear c2d t1 t2
              go_wp2
              refine qn_mk ⟨InHeld.of HTW.out, ?_⟩
              refine wpSteps_done ?_
              go_wp2
              (try simp only [Exit.inBlock, Exit.then])
              refine bodyPost_ret (results_box rfl _ _ rfl (load_part HT2.out)) rfl ?_
              exact ⟨_, _, _, rfl, (HFIN.out _ _ HTW.out HLT.out).1, (HFIN.out _ _ HTW.out HLT.out).2, ⟨_, _, _, rfl⟩, ⟨_, _, _, rfl⟩⟩
            · have hz1 : 1 ≤ ys.length := by omega
              have hdz : ((ys.length : Int) == 0) = false := beqF (by omega)
              have hll : ys.length - 1 < ys.length := by omega
              have hix := idx_predP (cap := xc) yok hz1 (Nat.le_refl _)
              have HC1 : Hid (∀ W, Turns (fun b => b = w.heap.size + 1 + 1) w6 W → W.cell? ⟨slb xa, slo xa + (ys.length - 1) * 6 + 1, none⟩ = some (.int .i64 ys[ys.length - 1].index) ∧ slb xa < W.heap.size) := hid (fun W ht => by
                obtain ⟨c0, -, -, c1, -⟩ := ((HO6.out.sl).keep (fun b hb hlt => ht.block b (by have := HNLO.out; omega) hlt)).at hll
                exact ⟨c1, c0⟩)
              have HLA := hid (fun W (h : Turns (fun b => b = w.heap.size + 1 + 1) w6 W) => least_any RR HRL.out (.slice xa ys.length xc) (.slice ra rn rc) ⟨_, _, _, rfl⟩ (fun b => Z b ∧ b < w.heap.size) W (HR6.out.keep (fun b hb hlt => h.block b (by omega) hlt)))
              have HLT : Hid (lastK ys RR = decide (ys[ys.length - 1].index < leastL RR)) := hid (by unfold lastK; rw [dif_pos (by omega)])
              generalize ys[ys.length - 1].index = x at *
              generalize leastL RR = y at *
              clear hz
              refine wp_region_held 16 [(true, 0), (true, 1), (true, 2), (true, 3), (true, 4), (true, 5), (true, 6), (true, 7), (true, 8), (true, 9), (true, 10), (true, 11), (false, 12), (true, 13), (true, 14), (false, 15)] (fun W => Turns (fun b => b = w.heap.size + 1 + 1) w6 W) (by kernel_rfl) (by kernel_rfl) HT1.out ?_
              intro hne
              have x0 : ∀ z : Held (fun W => Turns (fun b => b = w.heap.size + 1 + 1) w6 W), z.1.cell? ⟨D, 0, none⟩ = some (.slice xa ys.length xc) := fun z => (HPH.out z.1 z.2).1
              have x1 : ∀ z : Held (fun W => Turns (fun b => b = w.heap.size + 1 + 1) w6 W), z.1.cell? ⟨D, 1, none⟩ = some (.slice ra rn rc) := fun z => (HPH.out z.1 z.2).2
              have x2 : ∀ z : Held (fun W => Turns (fun b => b = w.heap.size + 1 + 1) w6 W), z.1.cell? ⟨slb xa, slo xa + (ys.length - 1) * 6 + 1, none⟩ = some (.int .i64 x) := fun z => (HC1.out z.1 z.2).1
              refine wpSteps_pre 12 (by decide) ?_
              simp only [List.take_succ_cons, List.take_zero]
              repeat (go_big_quiet_step (fail))
              refine wpQuiet_nil ?_
              refine wpSteps_one rfl ?_
              clear x0 x1 x2
              go_wp2_with fail
              refine (HLA.out _ HT1.out).mono ?_
              rintro e Wd ⟨rfl, hb7⟩
              have HTd : Hid (Turns (fun b => b = w.heap.size + 1 + 1) w6 Wd) := hid (HT1.out.trans (Turns.of_below hb7))
              have HCD : Hid (Wd.heap[w.heap.size + 1 + 1]? = some (.cells #[.slice none 0 0, .slice none 0 0] 62 (0, 0))) := hid ((hb7.block _ (Array.getElem?_eq_some_iff.1 HJ6.out.c2).1).trans HJ6.out.c2)
              clear hb7
              go_wp2
              refine qn_mk ⟨InHeld.of HTd.out, ?_⟩
              clear HT1 HLA
              iterate 2 (refine wpSteps_quiet rfl ?_; repeat (go_big_quiet_step (fail)); refine wpQuiet_nil ?_)
              refine wpSteps_one rfl ?_
              have c2d : Wd.heap[w.heap.size + 1 + 1]? = some (.cells #[.slice none 0 0, .slice none 0 0] 62 (0, 0)) := HCD.out
              have q0 : Wd.cell? ⟨w.heap.size + 1 + 1, 0, none⟩ = some (.slice none 0 0) := by rw [cell_of_row _ _ 0 _ _ (0, 0) c2d]; rfl
              have q1 : Wd.cell? ⟨w.heap.size + 1 + 1, 1, none⟩ = some (.slice none 0 0) := by rw [cell_of_row _ _ 1 _ _ (0, 0) c2d]; rfl
              have q2 : Wd.frozen? ⟨w.heap.size + 1 + 1, 0, none⟩ = false := by simp [World.frozen?, c2d]
              have q3 : Wd.frozen? ⟨w.heap.size + 1 + 1, 1, none⟩ = false := by simp [World.frozen?, c2d]
              have q4 : w.heap.size + 1 + 1 < Wd.heap.size := (Array.getElem?_eq_some_iff.1 c2d).1
              have t1 := heap_setCell_same Wd (w.heap.size + 1 + 1) 0 _ _ (.slice xa ys.length xc) c2d
              have t2 := heap_setCell_same _ (w.heap.size + 1 + 1) 1 _ _ (.slice ra rn rc) t1
              have HT2 : Hid (((Wd.setCell ⟨w.heap.size + 1 + 1, 0, none⟩ (.slice xa ys.length xc)).setCell ⟨w.heap.size + 1 + 1, 1, none⟩ (.slice ra rn rc)).heap[w.heap.size + 1 + 1]? = some (.cells #[.slice xa ys.length xc, .slice ra rn rc] 62 (0, 0))) := hid t2
              have HTW : Hid (Turns (fun b => b = w.heap.size + 1 + 1) w6 ((Wd.setCell ⟨w.heap.size + 1 + 1, 0, none⟩ (.slice xa ys.length xc)).setCell ⟨w.heap.size + 1 + 1, 1, none⟩ (.slice ra rn rc))) := hid ((HTd.out.setCell _ _ rfl).setCell _ _ rfl)
              clear c2d t1 t2
              go_wp2
              refine qn_mk ⟨InHeld.of HTW.out, ?_⟩
              refine wpSteps_done ?_
              go_wp2
              (try simp only [Exit.inBlock, Exit.then])
              refine bodyPost_ret (results_box rfl _ _ rfl (load_part HT2.out)) rfl ?_
              exact ⟨_, _, _, rfl, (HFIN.out _ _ HTW.out HLT.out).1, (HFIN.out _ _ HTW.out HLT.out).2, ⟨_, _, _, rfl⟩, ⟨_, _, _, rfl⟩⟩

end Go.Proofs.Yteepdnamkcgndaa
