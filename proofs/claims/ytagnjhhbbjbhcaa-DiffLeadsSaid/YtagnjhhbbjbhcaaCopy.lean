/- Copy: a world of the call's own. -/
import Derived.Test.YtagnjhhbbjbhcaaTree
namespace Go.Proofs.Ytagnjhhbbjbhcaa
open Go.RowKit

/-- No part of a world is large. -/
def Small (W : List (List (List Int))) : Prop := W.length ≤ 100000 ∧ ∀ rows ∈ W, rows.length ≤ 100000 ∧ ∀ r ∈ rows, r.length ≤ 100000

/-- An element of a slice: its cell; the block is there. -/
theorem SlV.at {α : Type} {R : World → Value → α → Prop} {S : Nat → Prop} {w : World} {a : Option Addr} {n cap : Nat} {xs : List α} (h : SlV R S w (.slice a n cap) xs) {j : Nat} (hj : j < xs.length) :
    ∃ u, w.cell? ⟨slb a, slo a + j, none⟩ = some u ∧ slb a < w.heap.size ∧ R w u xs[j] := by
  obtain ⟨a', cap', hv, h1, h2, h3, h4, h5⟩ := h
  cases hv
  obtain ⟨u, hu, hr⟩ := h5 j hj
  exact ⟨u, hu, World.block_lt_of_cell? w ⟨slb a, slo a + j, none⟩ hu, hr⟩

/-- The value is a slice. -/
theorem SlV.form {α : Type} {R : World → Value → α → Prop} {S : Nat → Prop} {w : World} {v : Value} {xs : List α} (h : SlV R S w v xs) :
    ∃ a cap, v = .slice a xs.length cap ∧ Slok a xs.length ∧ xs.length ≤ cap ∧ cap ≤ 9223372036854775807 := by
  obtain ⟨a, cap, hv, h1, h2, h3, _⟩ := h
  exact ⟨a, cap, hv, h1, h2, by unfold maxLen at h3; omega⟩

theorem take_snoc {α : Type} {xs : List α} {k : Nat} (h : k < xs.length) : xs.take k ++ [xs[k]] = xs.take (k + 1) := (List.take_succ_eq_append_getElem h).symm

set_option maxHeartbeats 1000000 in
theorem copy_any (W : List (List (List Int))) (hW : Small W) (u : Value) (T : Nat → Prop) (w : World) (hu : WorldV T w u W) :
    Calls Try.prog 31 #[u] w fun e w' => ∃ x, e = .returned x ∧ WorldF (w.heap.size ≤ ·) w' x W ∧ Below w.heap.size w w' := by
  have hu0 := hu
  obtain ⟨a, cap, rfl, hok, hcap, hmax⟩ := hu.form
  clear hu
  have hn := hW.1
  go_enter Try.func31, Try.ntmps31
  go_wp2
  go_loopw [3, 4] (fun x i wr => ∃ k : Nat, k ≤ W.length ∧ i = .int .i64 k ∧ WorldF (w.heap.size ≤ ·) wr x (W.take k) ∧ Below w.heap.size w wr) (fun _ i _ => W.length - (intOf i).toNat)
  case atStart => exact ⟨0, by omega, rfl, OwnF.nil _ _ _ _, Below.refl _ _⟩
  case round =>
    obtain ⟨k, hk, rfl, hown, hb⟩ := hrel
    by_cases hlt : k < W.length
    · have hu1 : WorldV T wr (.slice a W.length cap) W := hu0.keep (KeepS.below hb)
      obtain ⟨uk, hck, hbk, hrk⟩ := hu1.at hlt
      have hWk := hW.2 _ (List.getElem_mem hlt)
      have HT := hid (take_snoc hlt)
      have hlen : (W.take k).length ≤ k := by simp; omega
      generalize W.take k = Wk at *
      generalize W[k] = rows at *
      have hrk0 := hrk
      obtain ⟨ak, ck, rfl, hokk, hcapk, hmaxk⟩ := hrk.form
      clear hrk
      have hrows := hWk.1
      obtain ⟨wo, rfl⟩ : ∃ wo : World, wo = wr := ⟨_, rfl⟩
      go_wp2
      go_loopw [5, 6] (fun x i w2 => ∃ j : Nat, j ≤ rows.length ∧ i = .int .i64 j ∧ RowsF (wo.heap.size ≤ ·) w2 x (rows.take j) ∧ Below wo.heap.size wo w2) (fun _ i _ => rows.length - (intOf i).toNat)
      case atStart => exact ⟨0, by omega, rfl, OwnF.nil _ _ _ _, Below.refl _ _⟩
      case round =>
        obtain ⟨j, hj, rfl, hown2, hb2⟩ := hrel
        have hsz2 := hb2.size
        have hck2 : wr.cell? ⟨slb a, slo a + k, none⟩ = some (.slice ak rows.length ck) := cell_later hb2 hck
        have hbk2 : slb a < wr.heap.size := by omega
        by_cases hjr : j < rows.length
        · have hrk2 : RowsV T wr (.slice ak rows.length ck) rows := hrk0.keep (KeepS.below hb2)
          obtain ⟨ur, hcr, hbr, hrr⟩ := hrk2.at hjr
          have hrj := hWk.2 _ (List.getElem_mem hjr)
          have HT2 := hid (take_snoc hjr)
          have hlen2 : (rows.take j).length ≤ j := by simp; omega
          generalize rows.take j = rj at *
          generalize rows[j] = r at *
          have hrr0 := hrr
          obtain ⟨ar, cr, rfl, hokr, hcapr, hmaxr⟩ := hrr.form
          clear hrr
          have hI : IntsF (wr.heap.size ≤ ·) (wr.alloc (.cells #[] 3)) (.slice (some ⟨wr.heap.size, 0, none⟩) 0 0) [] :=
            ⟨World.ownsRow_made wr #[] 0 (Nat.zero_le _) (Nat.zero_le _) (by simp), fun b hb => by simp [Value.ownBlock] at hb; omega⟩
          have hrr1 : IntsV T (wr.alloc (.cells #[] 3)) (.slice ar r.length cr) r := hrr0.keep (KeepS.below ((Below.refl _ _).alloc (Nat.le_refl _) _))
          go_wp2_with (at_builtin; refine wpList_appI rfl _ _ rfl Try.app22 rfl hI (Below.refl _ _) rfl hrr1 (by simp; omega) ?_)
          intro v1 w1 hI1 ht1
          have hI2 : IntsF (wr.heap.size ≤ ·) w1 v1 r := by
            have := steady_intsF.mono hI1 (fun b _ hb => grow_from (by simp) b hb)
            simpa using this
          have hb3 : Below wr.heap.size wr w1 := ((Below.refl _ _).alloc (Nat.le_refl _) _).trans (ht1.below (by simp) (fun b hb => by simp [Value.ownBlock] at hb; omega))
          clear hI hI1 hrr1 ht1
          have hsl := hI2.sl
          obtain ⟨av, cv, rfl, -, -, -⟩ := hsl.form
          clear hsl
          go_wp2_with (at_builtin; refine wpList_appF1 steady_intsF rfl _ _ rfl Try.app63 rfl hown2 hb3 rfl r hI2 rfl (by omega) ?_)
          intro v2 w3 hown3 ht3
          have hown4 : RowsF (wo.heap.size ≤ ·) w3 v2 (rj ++ [r]) := steady_rowsF.mono hown3 (fun b _ hb => grow_from (by omega) b hb)
          have hb4 : Below wo.heap.size wo w3 := (hb2.trans (hb3.mono hb2.size)).trans (ht3.below (by have := hb3.size; omega) (fun b hb => hown2.1 b hb.symm))
          rw [HT2.out] at hown4
          clear hown2 hown3 ht3 hb3 hI2 hrk2 hcr hrr0
          go_wp2
          go_roundw
          case rel => exact ⟨j + 1, by omega, by go_num, hown4, hb4⟩
          case measure => simp [intOf]; omega
        · obtain rfl : j = rows.length := by omega
          rw [List.take_length] at hown2
          have hb5 := hb.trans (hb2.mono hb.size)
          have hsl := hown2.sl
          obtain ⟨av, cv, rfl, -, -, -⟩ := hsl.form
          clear hsl
          go_wp2_with (at_builtin; refine wpList_appF1 steady_rowsF rfl _ _ rfl Try.app25 rfl hown hb2 rfl rows hown2 rfl (by omega) ?_)
          intro v2 w3 hown3 ht3
          have hown4 : WorldF (w.heap.size ≤ ·) w3 v2 (Wk ++ [rows]) := steady_worldF.mono hown3 (fun b _ hb' => grow_from hb.size b hb')
          have hb4 : Below w.heap.size w w3 := hb5.trans (ht3.below (by have := hb5.size; omega) (fun b hb => hown.1 b hb.symm))
          rw [HT.out] at hown4
          clear hown hown2 hown3 ht3 hrk0 hck2
          go_wp2
          go_roundw
          case rel => exact ⟨k + 1, by omega, by go_num, hown4, hb4⟩
          case measure => simp [intOf]; omega
    · obtain rfl : k = W.length := by omega
      rw [List.take_length] at hown
      go_wp2
      go_ret
      exact ⟨_, rfl, hown, hb⟩

end Go.Proofs.Ytagnjhhbbjbhcaa
