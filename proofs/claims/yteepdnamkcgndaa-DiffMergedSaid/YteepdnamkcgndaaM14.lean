/- slices.Grow, Concat at changes. -/
import Derived.Test.YteepdnamkcgndaaM12
import Derived.Lib.AppendZeros
namespace Go.Proofs.Yteepdnamkcgndaa
open Go.RowKit

/-- A builtin append whose run is known. -/
theorem wpList_appRun {P : Program} {t tn : TypeId} {w w' : World} {ops : Array Oper} {rest : List Oper} {o : Oper} {a : Act} {Q : Exit → Act → World → Prop} (hgd : o.guard = none) (s x : Operand)
    (ho : o.op = .call { callee := .builtin .append, args := #[s, x], argTypes := #[t, tn] }) {u v r : Value} (hs : a.eval s = u) (hx : a.eval x = v)
    (hr : (Builtin.append_ #[t, tn] o.type #[u, v]).run P w = .ok r w') (h : wpList P ops Q rest (a.put o.dst r) w') : wpList P ops Q (o :: rest) a w := by
  refine wpList_plain hgd fun K hK => ?_
  unfold Oper.wp
  simp [execOp, ho, resolve, invoke, builtin, hs, hx, hr, Result.andThen]
  exact hK _ _ h

set_option maxRecDepth 100000 in
set_option maxHeartbeats 1000000 in
theorem growC_any (S : Nat → Prop) (n : Nat) (hn : n ≤ 10000000) (w : World) :
    Calls Try.prog 41 #[.slice none 0 0, .int .i64 n] w fun e w' => ∃ v, e = .returned v ∧ OwnC S w.heap.size 59 w' v [] ∧ Below w.heap.size w w' := by
  by_cases h0 : 0 < n
  · obtain ⟨i, j1, j2, j3, j4⟩ := info_parts (show (Try.prog.info? 59).map (fun i => (i.zero, i.size, i.bytes)) = some (some (.agg #[.int .i64 0, .int .i64 0, .int .i64 0, .int .i64 0, .int .i64 0, .slice none 0 0]), 6, 64) by kernel_rfl)
    have hr := Lib.run_append_nil_zeros (P := Try.prog) w 34 3 34 59 i _ .i64 .i64 (by kernel_rfl) (by kernel_rfl) j1 j2 n h0 (by omega) (by omega) (by rw [j4]; omega)
    have hge := grownCap_ge w n 0 59
    have hle := grownCap_le_maxLen w n 0 59 (by unfold maxLen; omega)
    have hcl : (Value.agg #[.int .i64 0, .int .i64 0, .int .i64 0, .int .i64 0, .int .i64 0, .slice none 0 0]).cells.size = 6 := rfl
    generalize (Value.agg #[.int .i64 0, .int .i64 0, .int .i64 0, .int .i64 0, .int .i64 0, .slice none 0 0]).cells = zc at *
    have hown : OwnC S w.heap.size 59 (w.drew.alloc (.cells (Builtin.zeroCells zc n ++ Builtin.zeroCells zc (grownCap w n 0 59 - n)) 59)) (.slice (some ⟨w.heap.size, 0, none⟩) 0 (grownCap w n 0 59)) [] := by
      refine ⟨[], ⟨rfl, .inr ⟨w.heap.size, _, _, rfl, Nat.le_refl _, heap_alloc_new w.drew _, by simp, hle, ?_, by simp [flatC]⟩⟩, rfl, fun j h => absurd h (by simp)⟩
      simp only [Array.size_append, size_zeroCells, hcl]
      rw [← Nat.add_mul]
      congr 1
      omega
    have hb : Below w.heap.size w (w.drew.alloc (.cells (Builtin.zeroCells zc n ++ Builtin.zeroCells zc (grownCap w n 0 59 - n)) 59)) := by
      have := (below_drewN (Below.refl w.heap.size w) 1).alloc (Nat.le_refl _) (.cells (Builtin.zeroCells zc n ++ Builtin.zeroCells zc (grownCap w n 0 59 - n)) 59)
      exact this
    generalize (Builtin.zeroCells zc n ++ Builtin.zeroCells zc (grownCap w n 0 59 - n)) = cs at *
    generalize grownCap w n 0 59 = c at *
    unfold maxLen at hle
    have HO := hid hown
    have HB := hid hb
    have HR := hid hr
    clear hown hb hr j1 j2 j3 j4 hcl
    have hn0 : (0 : Int) < n := by omega
    go_enter Try.func41, Try.ntmps41
    go_wp2_with (at_builtin; go_must (refine wpList_appRun rfl _ _ rfl rfl rfl HR.out ?_))
    go_wp2
    go_ret
    exact ⟨_, rfl, HO.out, HB.out⟩
  · obtain rfl : n = 0 := by omega
    go_enter Try.func41, Try.ntmps41
    go_wp2
    go_ret
    exact ⟨_, rfl, OwnC.nil _ _ _ _, Below.refl _ _⟩

theorem flat_snoc {α : Type} (L : List (List α)) (k : Nat) (h : k < L.length) : (L.take k).flatten ++ L[k] = (L.take (k + 1)).flatten := by
  rw [← take_snoc h, List.flatten_append]
  simp
theorem flat_take_le {α : Type} (L : List (List α)) (k : Nat) : (L.take k).flatten.length ≤ L.flatten.length := by
  have h := congrArg (fun l => (List.flatten l).length) (List.take_append_drop k L)
  simp only [List.flatten_append, List.length_append] at h
  omega
/-- The length of the first k lists. -/
def lenTo (L : List (List Chg)) (k : Nat) : Nat := (L.take k).flatten.length

set_option maxRecDepth 100000 in
set_option maxHeartbeats 2000000 in
theorem concatC_any (L : List (List Chg)) (hL : L.length ≤ 100) (ht : L.flatten.length ≤ 1000000) (u : Value) (S T : Nat → Prop) (w : World) (hu : SlV (ChV S) T w u L) :
    Calls Try.prog 24 #[u] w fun e w' => ∃ v, e = .returned v ∧ OwnC (fun b => S b ∧ b < w.heap.size) w.heap.size 59 w' v L.flatten ∧ Below w.heap.size w w' := by
  have hu0 := hu
  obtain ⟨a, cap, rfl, hok, hcap, hmax⟩ := hu.form
  clear hu
  go_enter Try.func24, Try.ntmps24
  go_wp2
  go_loopw [3, 11] (fun v i wr => ∃ k : Nat, k ≤ L.length ∧ i = .int .i64 k ∧ v = .int .i64 (lenTo L k) ∧ wr = w) (fun _ i _ => L.length - (intOf i).toNat)
  case atStart => exact ⟨0, by omega, rfl, rfl, rfl⟩
  case round =>
    obtain ⟨k, hk, rfl, rfl, rfl⟩ := hrel
    have hle : lenTo L k ≤ 1000000 := Nat.le_trans (flat_take_le L k) ht
    by_cases hlt : k < L.length
    · obtain ⟨c, hc, hbk, hy⟩ := hu0.at hlt
      obtain ⟨ac, cc, rfl, -, -, hmaxc⟩ := hy.form
      have hle2 : lenTo L (k + 1) ≤ 1000000 := Nat.le_trans (flat_take_le L (k + 1)) ht
      have hs2 : lenTo L k + L[k].length = lenTo L (k + 1) := by unfold lenTo; rw [← flat_snoc L k hlt, List.length_append]
      have hl2 : L[k].length ≤ 1000000 := by omega
      have HS := hid hs2
      clear hs2 hy
      generalize L[k] = xs at *
      generalize lenTo L k = n1 at *
      have hk0 : (0 : Int) ≤ k := by omega
      have hk1 : (k : Int) < L.length := by omega
      have hn : decide ((n1 : Int) + xs.length < 0) = false := decide_eq_false (by omega)
      go_wp2
      go_roundw
      case rel => exact ⟨k + 1, by omega, by go_num, by rw [← HS.out]; go_num, trivial⟩
      case measure => simp [intOf]; omega
    · obtain rfl : k = L.length := by omega
      go_wp2_with fail
      refine (growC_any (fun b => S b ∧ b < wr.heap.size) _ (by omega) wr).mono ?_
      rintro e w1 ⟨v1, rfl, hown, hb⟩
      have HO := hid hown
      have HB := hid hb
      clear hown hb
      go_wp2
      go_loopw [6, 27] (fun v i w2 => ∃ k : Nat, k ≤ L.length ∧ i = .int .i64 k ∧ OwnC (fun b => S b ∧ b < wr.heap.size) wr.heap.size 59 w2 v (L.take k).flatten ∧ Below wr.heap.size wr w2) (fun _ i _ => L.length - (intOf i).toNat)
      case atStart => exact ⟨0, by omega, rfl, by simpa using HO.out, HB.out⟩
      case round =>
        obtain ⟨k, hk, rfl, hown, hb⟩ := hrel
        by_cases hlt : k < L.length
        · have hu1 := SlV.keep hu0 (KeepS.below hb) (fun u x h => ChV.keep h (KeepS.below hb))
          obtain ⟨c, hc, hbk, hy⟩ := hu1.at hlt
          obtain ⟨c0, hc0, hbk0, hy0⟩ := hu0.at hlt
          have hcc : c = c0 := by
            have := (cell_later hb hc0).symm.trans hc
            exact (Option.some.inj this).symm
          subst hcc
          obtain ⟨ac, cc, rfl, hokc, -, hmaxc⟩ := hy.form
          have HS := hid (flat_snoc L k hlt)
          have hle2 := flat_take_le L (k + 1)
          have hs2 := congrArg List.length (flat_snoc L k hlt)
          rw [List.length_append] at hs2
          have hy1 := (ChV.mono (S' := fun b => S b ∧ b < _) hy0 (fun b hb h => ⟨h, hb⟩)).keep (KeepS.below hb)
          generalize L[k] = xs at *
          have hn2 := Nat.le_trans hle2 ht
          generalize (L.take k).flatten = n1 at *
          have hk0 : (0 : Int) ≤ k := by omega
          have hk1 : (k : Int) < L.length := by omega
          have hn1 : n1.length + xs.length ≤ 1000000000 := by omega
          obtain ⟨-, -, us, hul, hnews, hone, hus⟩ := hy1.news
          have HN := hid hnews
          have HON := hid hone
          have HUS := hid hus
          have hlo := hown.lt
          have HLO := hid hlo
          clear hs2 hu1 hy hy0 hy1 hnews hone hus hlo hc0 hbk0
          go_wp2_with (at_builtin; go_must (refine wpList_appC rfl _ _ rfl Try.app30 rfl hown rfl hokc xs us hul rfl HN.out HON.out (fun j h1 h2 => (HUS.out j h1 h2).mono (fun b _ h => ⟨h, fun e => by have := (HLO.out b e).1; have := h.2; omega⟩)) hn1 hb.size ?_))
          intro v' w3 hown3 ht3
          rw [HS.out] at hown3
          have hb3 := hb.trans (ht3.below hb.size (fun b hb' => (HLO.out b hb').1))
          clear hown hb HS hc HN HON HUS ht3 HLO
          go_wp2
          go_roundw
          case rel => exact ⟨k + 1, by omega, by go_num, hown3, hb3⟩
          case measure => simp [intOf]; omega
        · obtain rfl : k = L.length := by omega
          rw [List.take_length] at hown
          have HO2 := hid hown
          clear hown
          go_wp2
          go_ret
          exact ⟨_, rfl, HO2.out, hb⟩

end Go.Proofs.Yteepdnamkcgndaa
