/- Take of the reference; combos and plain of the laws; parts of a slice. -/
import Derived.Test.YtjaejnacdanpkaaDoorB7
namespace Go.Proofs.YtjaejnacdanpkaaDoor
open Go.RowKit

theorem Tryd.app29b : AppT Tryd.prog 29 53 1 24 := appT_mk (z := .slice none 0 0) (by kernel_rfl) (by kernel_rfl) rfl (by omega) (by omega)

theorem add_lit0 (b o l : Nat) : (⟨b, o, none⟩ : Addr).add (l * 1) = ⟨b, o + l, none⟩ := by
  unfold Addr.add
  by_cases h : l = 0
  · subst h; simp
  · simp [h]
/-- 'x[l:h]' reads as the part. -/
theorem SlV.part {α : Type} {R : World → Value → α → Prop} {S : Nat → Prop} {w : World} {a : Option Addr} {n cap : Nat} {xs : List α} (h : SlV R S w (.slice a n cap) xs) {l m : Nat} (hl : l ≤ m) (hm : m ≤ xs.length) :
    SlV R S w (sliced a l m cap 1) ((xs.take m).drop l) := by
  obtain ⟨a', cap', e, h1, h2, h3, h4, h5⟩ := h
  cases e
  have hlen : ((xs.take m).drop l).length = m - l := by rw [List.length_drop, List.length_take]; omega
  by_cases hc : cap = l
  · have : m = l := by omega
    subst this
    have e2 : (xs.take m).drop m = [] := by
      apply List.eq_nil_of_length_eq_zero
      omega
    rw [e2]
    unfold sliced
    rw [if_pos hc]
    refine ⟨a, cap - m, ?_, fun h => absurd h (by simp), Nat.zero_le _, by omega, fun h => absurd h (by simp), fun j h => absurd h (by simp)⟩
    simp
  · unfold sliced
    rw [if_neg hc]
    refine ⟨a.map (·.add (l * 1)), cap - l, by rw [hlen], fun h0 => ?_, by omega, by omega, fun h0 => ?_, fun j hj => ?_⟩
    · obtain ⟨b, o, rfl⟩ := h1 (by omega)
      exact ⟨b, o + l, by rw [Option.map_some, add_lit0]⟩
    · obtain ⟨b, o, rfl⟩ := h1 (by omega)
      have := h4 (by omega)
      rw [Option.map_some, add_lit0]
      exact this
    · rw [hlen] at hj
      obtain ⟨b, o, rfl⟩ := h1 (by omega)
      obtain ⟨u, hu, hr⟩ := h5 (l + j) (by omega)
      refine ⟨u, ?_, ?_⟩
      · rw [Option.map_some, add_lit0]
        show w.cell? ⟨b, o + l + j, none⟩ = some u
        rw [Nat.add_assoc]
        exact hu
      · rw [List.getElem_drop, List.getElem_take]
        exact hr

set_option maxRecDepth 100000 in
set_option maxHeartbeats 1000000 in
theorem take_any (xs : List Int) (hx : xs.length ≤ 100000) (v : Value) (S : Nat → Prop) (w : World) (hv : IntsV S w v xs) :
    Calls Tryd.prog 30 #[v, .int .i64 xs.length] w fun e w' => ∃ x, e = .returned x ∧ IntsF (w.heap.size ≤ ·) w' x xs ∧ Below w.heap.size w w' := by
  have hv0 := hv
  obtain ⟨a, cap, rfl, hok, hcap, hmax⟩ := hv.form
  clear hv
  have hI : IntsF (w.heap.size ≤ ·) w (.slice none 0 0) [] := IntsF.nil _ _
  have hp : IntsV S w (sliced a 0 xs.length cap 1) xs := by
    have := SlV.part hv0 (Nat.zero_le xs.length) (Nat.le_refl _)
    rw [List.take_length, List.drop_zero] at this
    exact this
  have hmin : min (xs.length : Int) xs.length = xs.length := by omega
  have hs2 : ∀ X, (Instr.slice 22 (.slice a xs.length cap) none (some (.int .i64 xs.length)) none).run Tryd.prog X = .ok (sliced a 0 xs.length cap 1) X := fun X => by
    rw [run_slice_h X 22 a xs.length cap (by kernel_rfl) .i64 _ (by omega) (by omega)]
    have hs1 : (sizeOf (Tryd.prog.elem 22)).run Tryd.prog X = .ok 1 X := rfl
    rw [hs1]
    simp [Result.andThen]
  obtain ⟨sa, sc, he⟩ : ∃ sa sc, sliced a 0 xs.length cap 1 = .slice sa xs.length sc := by unfold sliced; exact ⟨_, _, rfl⟩
  rw [he] at hp hs2
  clear he
  go_enter Tryd.func30, Tryd.ntmps30
  go_wp2_with (at_builtin; go_must (refine wpList_appI rfl _ _ rfl Tryd.app22 rfl hI (Below.refl _ _) rfl hp (by simp; omega) ?_))
  intro v1 w1 hI1 ht1
  have hI2 : IntsF (w.heap.size ≤ ·) w1 v1 xs := by
    have := steady_intsF.mono hI1 (fun b _ hb => grow_from (by simp) b hb)
    simpa using this
  have hb3 : Below w.heap.size w w1 := ht1.below (Nat.le_refl _) (fun b hb => by simp [Value.ownBlock] at hb)
  clear hI hI1 hp ht1 hs2
  go_wp2
  go_ret
  exact ⟨_, rfl, hI2, hb3⟩

set_option maxHeartbeats 1000000 in
theorem combos_any (F : List (List Int)) (hF : F.length ≤ 500000000) (v : Value) (S : Nat → Prop) (w : World) (hv : RowsV S w v F) :
    Calls Tryd.prog 12 #[v] w fun e w' => ∃ x, e = .returned x ∧ OwnO (fun S => IntsV S) w.heap.size 53 w' x F ∧ Below w.heap.size w w' := by
  have HX := hid (RowsV.mono (S' := (· < w.heap.size)) hv (fun b h _ => h))
  obtain ⟨a, cap, rfl, hok, hcap, hmax⟩ := hv.form
  clear hv
  go_enter Tryd.func12, Tryd.ntmps12
  go_wp2
  go_loopw [3, 4] (fun o i wr => ∃ k : Nat, k ≤ F.length ∧ i = .int .i64 k ∧ OwnO (fun S => IntsV S) w.heap.size 53 wr o (F.take k) ∧ Below w.heap.size w wr) (fun _ i _ => F.length - (intOf i).toNat)
  case atStart => exact ⟨0, by omega, rfl, by simpa using OwnO.nil _ _ _ _, Below.refl _ _⟩
  case round =>
    obtain ⟨k, hk, rfl, hown, hb⟩ := hrel
    by_cases hlt : k < F.length
    · obtain ⟨ur, hcr, hbr, hrr⟩ := (RowsV.keep HX.out (KeepS.below hb)).at hlt
      obtain ⟨ae, ce, rfl, -, -, -⟩ := hrr.form
      have HT := hid (take_snoc hlt)
      have hL : (F.take k).length + 1 ≤ 1000000000 := by rw [List.length_take]; omega
      generalize F[k] = r at *
      generalize F.take k = L at *
      have hk0 : (0 : Int) ≤ k := by omega
      have hk1 : (k : Int) < F.length := by omega
      have hzw : w.heap.size ≤ wr.heap.size := hb.size
      have HO := hid hown
      clear hown
      go_wp2_with (at_builtin; go_must (refine wpList_appO1 steady_ints rfl _ _ rfl Tryd.app29b rfl HO.out rfl r hrr rfl hL hzw ?_))
      intro v4 w4 hown4 hb4
      rw [HT.out] at hown4
      have hb5 := hb.trans hb4
      clear HO HT hb4 hb hrr
      go_wp2
      go_roundw
      case rel => exact ⟨k + 1, by omega, by go_num, hown4, hb5⟩
      case measure => simp [intOf]; omega
    · obtain rfl : k = F.length := by omega
      rw [List.take_length] at hown
      have HO2 := hid hown
      clear hown
      go_wp2
      go_ret
      exact ⟨_, rfl, HO2.out, hb⟩

set_option maxHeartbeats 1000000 in
theorem plain_any (F : List (List Int)) (hF : F.length ≤ 500000000) (v : Value) (S : Nat → Prop) (w : World) (hv : RowsV S w v F) :
    Calls Tryd.prog 15 #[v] w fun e w' => ∃ x, e = .returned x ∧ OwnO (fun S => IntsV S) w.heap.size 22 w' x F ∧ Below w.heap.size w w' := by
  have HX := hid (RowsV.mono (S' := (· < w.heap.size)) hv (fun b h _ => h))
  obtain ⟨a, cap, rfl, hok, hcap, hmax⟩ := hv.form
  clear hv
  go_enter Tryd.func15, Tryd.ntmps15
  go_wp2
  go_loopw [3, 4] (fun o i wr => ∃ k : Nat, k ≤ F.length ∧ i = .int .i64 k ∧ OwnO (fun S => IntsV S) w.heap.size 22 wr o (F.take k) ∧ Below w.heap.size w wr) (fun _ i _ => F.length - (intOf i).toNat)
  case atStart => exact ⟨0, by omega, rfl, by simpa using OwnO.nil _ _ _ _, Below.refl _ _⟩
  case round =>
    obtain ⟨k, hk, rfl, hown, hb⟩ := hrel
    by_cases hlt : k < F.length
    · obtain ⟨ur, hcr, hbr, hrr⟩ := (RowsV.keep HX.out (KeepS.below hb)).at hlt
      obtain ⟨ae, ce, rfl, -, -, -⟩ := hrr.form
      have HT := hid (take_snoc hlt)
      have hL : (F.take k).length + 1 ≤ 1000000000 := by rw [List.length_take]; omega
      generalize F[k] = r at *
      generalize F.take k = L at *
      have hk0 : (0 : Int) ≤ k := by omega
      have hk1 : (k : Int) < F.length := by omega
      have hzw : w.heap.size ≤ wr.heap.size := hb.size
      have HO := hid hown
      clear hown
      go_wp2_with (at_builtin; go_must (refine wpList_appO1 steady_ints rfl _ _ rfl Tryd.app63 rfl HO.out rfl r hrr rfl hL hzw ?_))
      intro v4 w4 hown4 hb4
      rw [HT.out] at hown4
      have hb5 := hb.trans hb4
      clear HO HT hb4 hb hrr
      go_wp2
      go_roundw
      case rel => exact ⟨k + 1, by omega, by go_num, hown4, hb5⟩
      case measure => simp [intOf]; omega
    · obtain rfl : k = F.length := by omega
      rw [List.take_length] at hown
      have HO2 := hid hown
      clear hown
      go_wp2
      go_ret
      exact ⟨_, rfl, HO2.out, hb⟩

end Go.Proofs.YtjaejnacdanpkaaDoor
