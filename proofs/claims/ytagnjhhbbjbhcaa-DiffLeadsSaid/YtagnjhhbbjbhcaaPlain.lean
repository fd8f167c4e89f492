/- plain and own: the changes of the one package as those of the other. -/
import Derived.Test.YtagnjhhbbjbhcaaChg
namespace Go.Proofs.Ytagnjhhbbjbhcaa
open Go.RowKit

set_option maxHeartbeats 1000000 in
theorem plain_any (cs : List Chg) (hc : cs.length ≤ 100000) (u : Value) (S : Nat → Prop) (w : World) (hu : ChV S w u cs) :
    Calls Try.prog 15 #[u] w fun e w' => ∃ x, e = .returned x ∧ ChV AnyB w' x cs ∧ Below w.heap.size w w' := by
  have hu0 : ChV (· < w.heap.size) w u cs := hu.mono (fun b hb _ => hb)
  obtain ⟨a, cap, rfl, hok, hcap, hmax⟩ := hu.form
  clear hu
  go_enter Try.func15, Try.ntmps15
  go_wp2
  go_loopw [3, 4] (fun x i wr => ∃ k : Nat, k ≤ cs.length ∧ i = .int .i64 k ∧ OwnC (· < w.heap.size) w.heap.size 73 wr x (cs.take k) ∧ Below w.heap.size w wr) (fun _ i _ => cs.length - (intOf i).toNat)
  case atStart => exact ⟨0, by omega, rfl, OwnC.nil _ _ _ _, Below.refl _ _⟩
  case round =>
    obtain ⟨k, hk, rfl, hown, hb⟩ := hrel
    by_cases hlt : k < cs.length
    · have hu1 : ChV (· < w.heap.size) wr (.slice a cs.length cap) cs := hu0.keep (KeepS.below hb)
      obtain ⟨hbk, -, c0, c1, c2, c3, c4, ul, c5, hul⟩ := hu1.at hlt
      have HT := hid (take_snoc hlt)
      have hlen : (cs.take k).length ≤ k := by simp; omega
      generalize cs.take k = ck at *
      generalize cs[k] = c at *
      obtain ⟨k0, i0, f0, o0, n0, vs⟩ := c
      simp only at c0 c1 c2 c3 c4 hul
      obtain ⟨al, cl, rfl, -, -, -⟩ := hul.form
      have hk0 : (0 : Int) ≤ k := by omega
      have hk1 : (k : Int) < cs.length := by omega
      go_wp2
      have hg := Grew.cell (w := wr)
      refine wp_region_grew 32 1 (by kernel_rfl) (by kernel_rfl) ?_
      simp only [List.take_succ_cons, List.take_zero, List.drop_succ_cons, List.drop_zero, Nat.reduceAdd]
      repeat (go_big_quiet_step (fail))
      refine wpQuiet_nil ?_
      unfold wpChain
      go_wp2
      refine qn_mk ⟨InGrew.of ((below_drewN (Below.refl _ _) 1).alloc (Nat.le_refl _) _), ?_⟩
      unfold wpChain
      have hulB : IntsV (fun b => b < w.heap.size ∧ some b ≠ u3.ownBlock) (wr.drewN 1) (.slice al vs.length cl) vs :=
        IntsV.mono (IntsV.keep hul (KeepS.below (below_drewN (Below.refl _ _) 1))) (fun b _ hb' => ⟨hb', fun e => by have := (hown.lt b e).1; omega⟩)
      have hown1 : OwnC (· < w.heap.size) w.heap.size 73 (wr.drewN 1) u3 ck := hown.below (below_drewN (Below.refl _ _) 1)
      go_wp2_with (at_builtin; refine wpList_appC1 rfl _ _ rfl Try.app34 rfl hown1 rfl ⟨k0, i0, f0, o0, n0, vs⟩ (.slice al vs.length cl) rfl rfl hulB (by omega) (by simp; have := hb.size; omega) ?_)
      intro v' w1 hown2 ht
      rw [HT.out] at hown2
      have hb2 : Below w.heap.size w w1 := (below_drewN hb 1).trans (ht.below (by simp; exact hb.size) (fun b hb' => (hown.lt b hb').1))
      clear hown hown1 hul hulB ht hu1 c0 c1 c2 c3 c4 c5 hg hb
      go_wp2
      go_roundw
      case rel => exact ⟨k + 1, by omega, by go_num, hown2, hb2⟩
      case measure => simp [intOf]; omega
    · obtain rfl : k = cs.length := by omega
      rw [List.take_length] at hown
      have hres := ChV.mono (S' := AnyB) hown.sl (fun _ _ _ => trivial)
      clear hown
      go_wp2
      go_ret
      exact ⟨_, rfl, hres, hb⟩

end Go.Proofs.Ytagnjhhbbjbhcaa
