/- slices.EqualFunc, Clone, IndexFunc at changes. -/
import Derived.Test.YteepdnamkcgndaaM3
import Derived.Test.YteepdnamkcgndaaM13
namespace Go.Proofs.Yteepdnamkcgndaa
open Go.RowKit

set_option maxRecDepth 100000 in
set_option maxHeartbeats 4000000 in
theorem equalC_any (cs ds : List Chg) (hc : cs.length ≤ 100000) (hd : ds.length ≤ 100000) (u v : Value) (S T : Nat → Prop) (w : World) (hu : ChV S w u cs) (hv : ChV T w v ds) :
    Calls Try.prog 44 #[u, v, .func (.func 45) #[] #[]] w fun e w' => e = .returned (.bool (decide (cs = ds))) ∧ Below w.heap.size w w' := by
  have HU0 := hid hu
  have HV0 := hid hv
  obtain ⟨a, cap, rfl, hok, hcap, hmax⟩ := hu.form
  obtain ⟨a', cap', rfl, hok', hcap', hmax'⟩ := hv.form
  clear hu hv
  by_cases hl : cs.length = ds.length
  · have hl2 : ((cs.length : Int) != (ds.length : Int)) = false := by simp [hl]
    have HL := hid hl
    have hle : cs.length ≤ ds.length := by omega
    clear hl
    go_enter Try.func44, Try.ntmps44
    go_wp2
    go_loopw [17] (fun i wr => ∃ k : Nat, k ≤ cs.length ∧ i = .int .i64 k ∧ Hid (cs.take k = ds.take k) ∧ Hid (Below w.heap.size w wr)) (fun i _ => cs.length - (intOf i).toNat)
    case atStart => exact ⟨0, by omega, rfl, hid rfl, hid (Below.refl _ _)⟩
    case round =>
      obtain ⟨k, hk, rfl, hpre, hB⟩ := hrel
      by_cases hlt : k < cs.length
      · have hlt' : k < ds.length := by omega
        have hk0 : (0 : Int) ≤ k := by omega
        have hk1 : (k : Int) < cs.length := by omega
        have hk2 : (k : Int) < ds.length := by omega
        obtain ⟨hbkx, -, x0, x1, x2, x3, x4, ulx, x5, hulx⟩ := (HU0.out.keep (KeepS.below hB.out)).at hlt
        obtain ⟨hbky, -, y0, y1, y2, y3, y4, uly, y5, huly⟩ := (HV0.out.keep (KeepS.below hB.out)).at hlt'
        have HY : Hid (cs[k] = ds[k] → Hid (cs.take (k + 1) = ds.take (k + 1))) := hid (fun h => hid (by rw [← take_snoc hlt, ← take_snoc hlt', hpre.out, h]))
        have HN : Hid (¬ cs[k] = ds[k] → Hid (¬ cs = ds)) := hid (fun h => hid (fun e => h (by subst e; rfl)))
        generalize cs[k] = cx at *
        generalize ds[k] = cy at *
        obtain ⟨kx, ix, fx, ox, nx, vsx⟩ := cx
        obtain ⟨ky, iy, fy, oy, ny, vsy⟩ := cy
        simp only at x0 x1 x2 x3 x4 hulx y0 y1 y2 y3 y4 huly
        obtain ⟨alx, clx, rfl, -, -, -⟩ := hulx.form
        obtain ⟨aly, cly, rfl, -, -, -⟩ := huly.form
        have hal : ∀ o1 o2 : Obj, Below wr.heap.size wr ((wr.alloc o1).alloc o2) := fun o1 o2 => ((Below.refl _ _).alloc (Nat.le_refl _) _).alloc (by simp) _
        have HAL := hid hal
        have HEQ := hid (fun o1 o2 => pequal_any ⟨kx, ix, fx, ox, nx, vsx⟩ ⟨ky, iy, fy, oy, ny, vsy⟩ _ _ _ _ ((wr.alloc o1).alloc o2) (hulx.keep (KeepS.below (hal o1 o2))) (huly.keep (KeepS.below (hal o1 o2))))
        clear hulx huly hal
        go_wp2_with fail
        refine (HEQ.out _ _).mono ?_
        rintro e w5 ⟨rfl, hb5⟩
        have HB5 : Hid (Below w.heap.size w w5) := hid (hB.out.trans (((HAL.out _ _).trans (hb5.mono (HAL.out _ _).size)).mono hB.out.size))
        clear hb5 HEQ
        by_cases hxy : ((⟨kx, ix, fx, ox, nx, vsx⟩ : Chg) = ⟨ky, iy, fy, oy, ny, vsy⟩)
        · have HR := HY.out hxy
          have HD := hid (decide_eq_true hxy)
          rw [HD.out]
          clear HY HN hxy
          go_wp2
          go_roundw
          case rel => exact ⟨k + 1, by omega, by go_num, HR, HB5⟩
          case measure => simp [intOf]; omega
        · have HR := HN.out hxy
          have HD := hid (decide_eq_false hxy)
          rw [HD.out]
          clear HY HN hxy
          go_wp2
          go_ret
          exact ⟨ret_bool (decide_eq_false HR.out).symm, HB5.out⟩
      · have HR : Hid (cs = ds) := hid (by
          have h := hpre.out
          have h2 := HL.out
          rwa [List.take_of_length_le (by omega), List.take_of_length_le (by omega)] at h)
        have hk3 : ¬ (k : Int) < cs.length := by omega
        go_wp2
        go_ret
        exact ⟨ret_bool (decide_eq_true HR.out).symm, hB.out⟩
  · have hl2 : ((cs.length : Int) != (ds.length : Int)) = true := bneT (by omega)
    have HR : Hid (¬ cs = ds) := hid (fun e => hl (by rw [e]))
    clear hl
    go_enter Try.func44, Try.ntmps44
    go_wp2
    go_ret
    exact ⟨ret_bool (decide_eq_false HR.out).symm, Below.refl _ _⟩

theorem OwnC.monoS {S S' : Nat → Prop} {B : Nat} {e : TypeId} {w : World} {v : Value} {cs : List Chg} (h : OwnC S B e w v cs) (hS : ∀ b, S b → S' b) : OwnC S' B e w v cs := by
  obtain ⟨us, h1, h2, h3⟩ := h
  exact ⟨us, h1, h2, fun j k1 k2 => (h3 j k1 k2).mono (fun b _ hb => ⟨hS b hb.1, hb.2⟩)⟩

set_option maxRecDepth 100000 in
set_option maxHeartbeats 2000000 in
theorem cloneC_any (cs : List Chg) (hc : cs.length ≤ 100000) (u : Value) (S : Nat → Prop) (w : World) (hu : ChV S w u cs) :
    Calls Try.prog 46 #[u] w fun e w' => ∃ x, e = .returned x ∧ OwnC (fun b => S b ∧ b < w.heap.size) w.heap.size 59 w' x cs ∧ Below w.heap.size w w' := by
  have hu0 : ChV (fun b => S b ∧ b < w.heap.size) w u cs := hu.mono (fun b hb h => ⟨h, hb⟩)
  obtain ⟨a, cap, rfl, hok, hcap, hmax⟩ := hu.form
  clear hu
  cases a with
  | none =>
    obtain rfl : cs = [] := by
      cases cs with
      | nil => rfl
      | cons c cs =>
        obtain ⟨b, o, h⟩ := hok (by simp)
        cases h
    have hq : ∀ W, (binOp .eql 34 (.slice none 0 cap) (.slice none 0 0)).run Try.prog W = .ok (.bool true) W := fun W => Lib.run_eql_slice_nil W 34 59 none 0 cap 0 0 (by kernel_rfl)
    go_enter Try.func46, Try.ntmps46
    go_wp2
    go_ret
    exact ⟨_, rfl, OwnC.nil _ _ _ _, Below.refl _ _⟩
  | some ad =>
    have hal : Below w.heap.size w (w.alloc (.cells #[] 59)) := (Below.refl _ _).alloc (Nat.le_refl _) _
    obtain ⟨-, -, us, hul, hnews, hone, hus⟩ := (hu0.keep (KeepS.below hal)).news
    have HN := hid hnews
    have HO := hid hone
    have HUS := hid hus
    clear hu0 hnews hone hus hal
    have hq : ∀ W, (binOp .eql 34 (.slice (some ad) cs.length cap) (.slice none 0 0)).run Try.prog W = .ok (.bool false) W := fun W => Lib.run_eql_slice_nil W 34 59 (some ad) cs.length cap 0 0 (by kernel_rfl)
    go_enter Try.func46, Try.ntmps46
    go_wp2_with (at_builtin; go_must (refine wpList_appC rfl _ _ rfl Try.app30 rfl (OwnC.empty (fun b => S b ∧ b < w.heap.size) w.heap.size 59 w _ rfl (Nat.le_refl _)) rfl hok cs us hul rfl HN.out HO.out (fun j h1 h2 => (HUS.out j h1 h2).mono (fun b _ h => ⟨h, fun e => absurd (Option.some.inj e) (Nat.ne_of_lt h.2)⟩)) (by simp; omega) (by simp) ?_))
    intro v1 w1 hown ht1
    have hown : OwnC (fun b => S b ∧ b < w.heap.size) w.heap.size 59 w1 v1 cs := hown
    have HOW := hid hown
    have HB1 : Hid (Below w.heap.size w w1) := hid (((Below.refl _ _).alloc (Nat.le_refl _) _).trans (ht1.below (by simp) (fun b hb => by simp [Value.ownBlock] at hb; omega)))
    clear hown ht1
    go_wp2
    go_ret
    exact ⟨_, rfl, HOW.out, HB1.out⟩

theorem placeI_eq (c d : Chg) : decide (placeI c d = 0) = Mer.placeEq c d := by
  unfold placeI Mer.placeEq
  by_cases h : c.index = d.index
  · rw [if_pos h, decide_eq_true h, Bool.true_and, decide_eq_decide]; omega
  · rw [if_neg h, decide_eq_false h, Bool.false_and, decide_eq_false_iff_not]; omega

set_option maxHeartbeats 2000000 in
theorem joinf_any (c d : Chg) (hc : GoodC c) (hf1 : -1000 ≤ c.field ∧ c.field ≤ 1000) (hd : GoodC d) (hf2 : -1000 ≤ d.field ∧ d.field ≤ 1000) (a a' : Option Addr) (n n' cap cap' : Nat) (B : Nat) (X : World)
    (hB : X.heap[B]? = some (.cells #[.int .i64 c.kind, .int .i64 c.index, .int .i64 c.field, .int .i64 c.old, .int .i64 c.new, .slice a n cap] 59 (0, 0))) :
    Calls Try.prog 48 (#[d.val (.slice a' n' cap')] ++ #[.pointer (some ⟨B, 0, none⟩)]) X fun e w' => e = .returned (.bool (Mer.placeEq c d)) ∧ Below X.heap.size X w' := by
  have hx := (lil5.1 hc.ints).2.1
  have hy := (lil5.1 hd.ints).2.1
  have HP := hid (fun W => place_any c d hx hf1 hy hf2 a a' n n' cap cap' W)
  have HE := hid (placeI_eq c d)
  obtain ⟨k, i, f, o, m, xs⟩ := c
  obtain ⟨k', i', f', o', m', ys⟩ := d
  simp only [Chg.val] at *
  have hlt := (Array.getElem?_eq_some_iff.1 hB).1
  have x0 : X.cell? ⟨B, 0, none⟩ = some (.int .i64 k) := by rw [cell_of_row _ _ 0 _ _ (0, 0) hB]; rfl
  have x1 : X.cell? ⟨B, 1, none⟩ = some (.int .i64 i) := by rw [cell_of_row _ _ 1 _ _ (0, 0) hB]; rfl
  have x2 : X.cell? ⟨B, 2, none⟩ = some (.int .i64 f) := by rw [cell_of_row _ _ 2 _ _ (0, 0) hB]; rfl
  have x3 : X.cell? ⟨B, 3, none⟩ = some (.int .i64 o) := by rw [cell_of_row _ _ 3 _ _ (0, 0) hB]; rfl
  have x4 : X.cell? ⟨B, 4, none⟩ = some (.int .i64 m) := by rw [cell_of_row _ _ 4 _ _ (0, 0) hB]; rfl
  have x5 : X.cell? ⟨B, 5, none⟩ = some (.slice a n cap) := by rw [cell_of_row _ _ 5 _ _ (0, 0) hB]; rfl
  have HBL : Hid (∀ o1 o2 o3 : Obj, Below X.heap.size X (((X.alloc o1).alloc o2).alloc o3)) := hid (fun o1 o2 o3 => (((Below.refl _ _).alloc (Nat.le_refl _) _).alloc (by simp) _).alloc (by simp; omega) _)
  clear hB hc hd hf1 hf2 hx hy
  go_enter Try.func48, Try.ntmps48
  go_wp2_with fail
  refine (HP.out _).mono ?_
  rintro e w' ⟨rfl, rfl⟩
  generalize placeI _ _ = q at *
  by_cases hq : q = 0
  · have HQ : Hid (Mer.placeEq ⟨k, i, f, o, m, xs⟩ ⟨k', i', f', o', m', ys⟩ = true) := hid (by rw [← HE.out, decide_eq_true hq])
    have gq : (q == 0) = true := by simp [hq]
    clear hq
    go_wp2
    go_ret
    exact ⟨ret_bool HQ.out.symm, HBL.out _ _ _⟩
  · have HQ : Hid (Mer.placeEq ⟨k, i, f, o, m, xs⟩ ⟨k', i', f', o', m', ys⟩ = false) := hid (by rw [← HE.out, decide_eq_false hq])
    have gq : (q == 0) = false := beqF hq
    clear hq
    go_wp2
    go_ret
    exact ⟨ret_bool HQ.out.symm, HBL.out _ _ _⟩

theorem find_at {us : List Chg} {p : Chg → Bool} {k : Nat} (hk : k < us.length) (hp : ∀ j (h : j < us.length), j < k → p us[j] = false) (h : p us[k] = true) : us.find? p = some us[k] :=
  List.find?_eq_some_iff_getElem.2 ⟨h, k, hk, rfl, fun j hj => by rw [hp j (by omega) hj]; rfl⟩
theorem find_none {us : List Chg} {p : Chg → Bool} (hp : ∀ j (h : j < us.length), p us[j] = false) : us.find? p = none :=
  List.find?_eq_none.2 fun c hc => by
    obtain ⟨j, hj, rfl⟩ := List.getElem_of_mem hc
    rw [hp j hj]; exact Bool.false_ne_true
/-- How IndexFunc ends. -/
def IdxC (us : List Chg) (c : Chg) (e : Ending) : Prop := (us.find? (Mer.placeEq c) = none ∧ e = .returned (.int .i64 (-1))) ∨ ∃ i, ∃ h : i < us.length, us.find? (Mer.placeEq c) = some us[i] ∧ e = .returned (.int .i64 i)
/-- The values of a good list's field. -/
theorem GoodC.field {c : Chg} (h : GoodC c) : -1000 ≤ c.field ∧ c.field ≤ 1000 := (lil5.1 h.ints).2.2.1

set_option maxRecDepth 100000 in
set_option maxHeartbeats 4000000 in
theorem indexC_any (us : List Chg) (hl : us.length ≤ 100000) (hg : GoodL us) (c : Chg) (hc : GoodC c) (a' : Option Addr) (n' cap' B : Nat) (u : Value) (S : Nat → Prop) (w : World) (hu : ChV S w u us)
    (hB : w.heap[B]? = some (.cells #[.int .i64 c.kind, .int .i64 c.index, .int .i64 c.field, .int .i64 c.old, .int .i64 c.new, .slice a' n' cap'] 59 (0, 0))) :
    Calls Try.prog 47 #[u, .func (.func 48) #[] #[.pointer (some ⟨B, 0, none⟩)]] w fun e w' =>
      IdxC us c e ∧ Below w.heap.size w w' := by
  have HU0 := hid hu
  obtain ⟨a, cap, rfl, hok, hcap, hmax⟩ := hu.form
  have HB0 := hid hB
  clear hu hB
  go_enter Try.func47, Try.ntmps47
  go_wp2
  go_loopw [8] (fun i wr => ∃ k : Nat, k ≤ us.length ∧ i = .int .i64 k ∧ Hid (∀ j (h : j < us.length), j < k → Mer.placeEq c us[j] = false) ∧ Hid (Below w.heap.size w wr)) (fun i _ => us.length - (intOf i).toNat)
  case atStart => exact ⟨0, by omega, rfl, hid (fun j _ h => by omega), hid (Below.refl _ _)⟩
  case round =>
    obtain ⟨k, hk, rfl, hpre, hBw⟩ := hrel
    by_cases hlt : k < us.length
    · have hk0 : (0 : Int) ≤ k := by omega
      have hk1 : (k : Int) < us.length := by omega
      obtain ⟨hbkx, -, x0, x1, x2, x3, x4, ulx, x5, hulx⟩ := (HU0.out.keep (KeepS.below hBw.out)).at hlt
      have HY : Hid (Mer.placeEq c us[k] = true → Hid (us.find? (Mer.placeEq c) = some us[k])) := hid (fun h => hid (find_at hlt hpre.out h))
      have HN : Hid (Mer.placeEq c us[k] = false → Hid (∀ j (h : j < us.length), j < k + 1 → Mer.placeEq c us[j] = false)) := hid (fun h => hid (fun j hj hl => by
        by_cases e : j = k
        · subst e; exact h
        · exact hpre.out j hj (by omega)))
      have hgd : GoodC us[k] := hg _ (List.getElem_mem _)
      obtain ⟨d, hde⟩ : ∃ d, us[k] = d := ⟨_, rfl⟩
      have HDE := hid hde
      rw [hde] at HY HN hgd x0 x1 x2 x3 x4 hulx
      clear hde
      obtain ⟨kx, ix, fx, ox, nx, vsx⟩ := d
      simp only at x0 x1 x2 x3 x4 hulx
      obtain ⟨alx, clx, rfl, -, -, -⟩ := hulx.form
      have HBk : Hid (wr.heap[B]? = some (.cells #[.int .i64 c.kind, .int .i64 c.index, .int .i64 c.field, .int .i64 c.old, .int .i64 c.new, .slice a' n' cap'] 59 (0, 0))) := hid ((hBw.out.block _ (Array.getElem?_eq_some_iff.1 HB0.out).1).trans HB0.out)
      have HJ := hid (joinf_any c ⟨kx, ix, fx, ox, nx, vsx⟩ hc hc.field hgd hgd.field a' alx n' vsx.length cap' clx B wr HBk.out)
      clear hulx hgd
      go_wp2_with fail
      refine HJ.out.mono ?_
      rintro e w5 ⟨rfl, hb5⟩
      have HB5 : Hid (Below w.heap.size w w5) := hid (hBw.out.trans (hb5.mono hBw.out.size))
      clear hb5 HJ
      cases hp : Mer.placeEq c ⟨kx, ix, fx, ox, nx, vsx⟩ with
      | true =>
        have HR := HY.out hp
        clear HY HN hp
        go_wp2
        go_ret
        exact ⟨.inr ⟨k, hlt, by rw [HR.out, HDE.out], rfl⟩, HB5.out⟩
      | false =>
        have HR := HN.out hp
        clear HY HN hp
        go_wp2
        go_roundw
        case rel => exact ⟨k + 1, by omega, by go_num, HR, HB5⟩
        case measure => simp [intOf]; omega
    · have HR := hid (find_none (fun j h => hpre.out j h (by omega)))
      have hk3 : ¬ (k : Int) < us.length := by omega
      go_wp2
      go_ret
      exact ⟨.inl ⟨HR.out, rfl⟩, hBw.out⟩

end Go.Proofs.Yteepdnamkcgndaa
