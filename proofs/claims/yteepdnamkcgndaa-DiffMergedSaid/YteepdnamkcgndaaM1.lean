/- The reference's After, Of. -/
import Derived.Test.YteepdnamkcgndaaA2
import Derived.Test.YteepdnamkcgndaaMer
namespace Go.Proofs.Yteepdnamkcgndaa
open Go.RowKit

set_option maxHeartbeats 1000000 in
theorem after_any (c d : Chg) (a a' : Option Addr) (n n' cap cap' : Nat) (w : World) :
    Calls Try.prog 52 #[c.val (.slice a n cap), d.val (.slice a' n' cap')] w fun e w' => e = .returned (.bool (Mer.afterB c d)) ∧ Below w.heap.size w w' := by
  obtain ⟨k, i, f, o, m, xs⟩ := c
  obtain ⟨k', i', f', o', m', ys⟩ := d
  simp only [Chg.val]
  have hA : Below w.heap.size w ((w.alloc (.cells #[.int .i64 k, .int .i64 i, .int .i64 f, .int .i64 o, .int .i64 m, .slice a n cap] 54)).alloc (.cells #[.int .i64 k', .int .i64 i', .int .i64 f', .int .i64 o', .int .i64 m', .slice a' n' cap'] 54)) :=
    ((Below.refl _ _).alloc (Nat.le_refl _) _).alloc (by simp) _
  have HA := hid hA
  clear hA
  by_cases h1 : i' < i
  · have HR : Hid (Mer.afterB ⟨k, i, f, o, m, xs⟩ ⟨k', i', f', o', m', ys⟩ = true) := hid (by unfold Mer.afterB; simp [h1])
    go_enter Try.func52, Try.ntmps52
    go_wp2
    go_ret
    exact ⟨ret_bool HR.out.symm, HA.out⟩
  · by_cases h2 : i = i'
    · have HR : Hid (Mer.afterB ⟨k, i, f, o, m, xs⟩ ⟨k', i', f', o', m', ys⟩ = decide (f' < f)) := hid (by unfold Mer.afterB; simp [h2])
      subst h2
      by_cases h3 : f' < f
      · have HD := hid (decide_eq_true h3)
        go_enter Try.func52, Try.ntmps52
        go_wp2
        go_ret
        exact ⟨ret_bool (HR.out.trans HD.out).symm, HA.out⟩
      · have HD := hid (decide_eq_false h3)
        go_enter Try.func52, Try.ntmps52
        go_wp2
        go_ret
        exact ⟨ret_bool (HR.out.trans HD.out).symm, HA.out⟩
    · have HR : Hid (Mer.afterB ⟨k, i, f, o, m, xs⟩ ⟨k', i', f', o', m', ys⟩ = false) := hid (by unfold Mer.afterB; simp [h1, h2])
      have h4 : (i == i') = false := beqF h2
      clear h2
      go_enter Try.func52, Try.ntmps52
      go_wp2
      go_ret
      exact ⟨ret_bool HR.out.symm, HA.out⟩

theorem ofR_snoc (l : List Chg) (c : Chg) (k : Int) (s : Bool) : Mer.ofR (l ++ [c]) k s = if c.kind = k ∧ Mer.isSet c = s then Mer.ofR l k s ++ [c] else Mer.ofR l k s := by
  have h : Mer.ofR [c] k s = if c.kind = k ∧ Mer.isSet c = s then [c] else [] := by rw [Mer.ofR_cons]; rfl
  have e : Mer.ofR (l ++ [c]) k s = Mer.ofR l k s ++ Mer.ofR [c] k s := by unfold Mer.ofR; rw [List.filter_append]
  rw [e, h]
  split <;> simp
theorem ofR_len (l : List Chg) (k : Int) (s : Bool) : (Mer.ofR l k s).length ≤ l.length := by
  unfold Mer.ofR
  exact List.length_filter_le _ _

set_option maxRecDepth 100000 in
set_option maxHeartbeats 2000000 in
theorem of_any (cs : List Chg) (hc : cs.length ≤ 100000) (kk : Int) (s : Bool) (u : Value) (S : Nat → Prop) (w : World) (hu : ChV S w u cs) :
    Calls Try.prog 31 #[u, .int .i64 kk, .bool s] w fun e w' => ∃ x, e = .returned x ∧ ChV AnyB w' x (Mer.ofR cs kk s) ∧ Below w.heap.size w w' := by
  have hu0 : ChV (· < w.heap.size) w u cs := hu.mono (fun b hb _ => hb)
  obtain ⟨a, cap, rfl, hok, hcap, hmax⟩ := hu.form
  clear hu
  go_enter Try.func31, Try.ntmps31
  go_wp2
  go_loopw [7, 8] (fun x i wr => ∃ k : Nat, k ≤ cs.length ∧ i = .int .i64 k ∧ OwnC (· < w.heap.size) w.heap.size 54 wr x (Mer.ofR (cs.take k) kk s) ∧ Below w.heap.size w wr) (fun _ i _ => cs.length - (intOf i).toNat)
  case atStart => exact ⟨0, by omega, rfl, OwnC.nil _ _ _ _, Below.refl _ _⟩
  case round =>
    obtain ⟨k, hk, rfl, hown, hb⟩ := hrel
    by_cases hlt : k < cs.length
    · have hu1 : ChV (· < w.heap.size) wr (.slice a cs.length cap) cs := hu0.keep (KeepS.below hb)
      obtain ⟨hbk, -, c0, c1, c2, c3, c4, ul, c5, hul⟩ := hu1.at hlt
      have HT : Hid (Mer.ofR (cs.take (k + 1)) kk s = if cs[k].kind = kk ∧ Mer.isSet cs[k] = s then Mer.ofR (cs.take k) kk s ++ [cs[k]] else Mer.ofR (cs.take k) kk s) := hid (by rw [← take_snoc hlt, ofR_snoc])
      have hlen : (Mer.ofR (cs.take k) kk s).length ≤ k := Nat.le_trans (ofR_len _ _ _) (by simp; omega)
      generalize Mer.ofR (cs.take k) kk s = ck at *
      generalize cs[k] = c at *
      obtain ⟨k0, i0, f0, o0, n0, vs⟩ := c
      simp only at c0 c1 c2 c3 c4 hul
      obtain ⟨al, cl, rfl, -, -, -⟩ := hul.form
      have hk0 : (0 : Int) ≤ k := by omega
      have hk1 : (k : Int) < cs.length := by omega
      by_cases hkk : k0 = kk
      · subst hkk
        by_cases h0 : 0 ≤ f0
        · cases s with
          | true =>
            have HE : Hid (Mer.ofR (cs.take (k + 1)) k0 true = ck ++ [⟨k0, i0, f0, o0, n0, vs⟩]) := hid (HT.out.trans (if_pos ⟨rfl, by unfold Mer.isSet; simp [h0]⟩))
            clear HT
            have hown1 := hown
            have hulB : IntsV (fun b => b < w.heap.size ∧ some b ≠ u7.ownBlock) wr (.slice al vs.length cl) vs :=
              IntsV.mono hul (fun b _ hb' => ⟨hb', fun e => by have := (hown1.lt b e).1; omega⟩)
            go_wp2_with (at_builtin; go_must (refine wpList_appC1 rfl _ _ rfl Try.app34 rfl hown1 rfl ⟨k0, i0, f0, o0, n0, vs⟩ (.slice al vs.length cl) rfl rfl hulB (by omega) (by have := hb.size; omega) ?_))
            intro v' w1 hown2 ht
            rw [← HE.out] at hown2
            have hb2 : Below w.heap.size w w1 := hb.trans (ht.below hb.size (fun b hb' => (hown1.lt b hb').1))
            clear hown hown1 hul hulB ht hu1 c0 c1 c2 c3 c4 c5 hb
            go_wp2
            go_roundw
            case rel => exact ⟨k + 1, by omega, by go_num, hown2, hb2⟩
            case measure => simp [intOf]; omega
          | false =>
            have HE : Hid (Mer.ofR (cs.take (k + 1)) k0 false = ck) := hid (HT.out.trans (if_neg (fun h => by have h2 := h.2; unfold Mer.isSet at h2; simp [h0] at h2)))
            clear HT
            go_wp2
            go_roundw
            case rel => exact ⟨k + 1, by omega, by go_num, (by rw [HE.out]; exact hown), hb⟩
            case measure => simp [intOf]; omega
        · have h00 : f0 < 0 := by omega
          cases s with
          | true =>
            have HE : Hid (Mer.ofR (cs.take (k + 1)) k0 true = ck) := hid (HT.out.trans (if_neg (fun h => by have h2 := h.2; unfold Mer.isSet at h2; simp [h0] at h2)))
            clear HT
            go_wp2
            go_roundw
            case rel => exact ⟨k + 1, by omega, by go_num, (by rw [HE.out]; exact hown), hb⟩
            case measure => simp [intOf]; omega
          | false =>
            have HE : Hid (Mer.ofR (cs.take (k + 1)) k0 false = ck ++ [⟨k0, i0, f0, o0, n0, vs⟩]) := hid (HT.out.trans (if_pos ⟨rfl, by unfold Mer.isSet; simp [h0]⟩))
            clear HT
            have hown1 := hown
            have hulB : IntsV (fun b => b < w.heap.size ∧ some b ≠ u7.ownBlock) wr (.slice al vs.length cl) vs :=
              IntsV.mono hul (fun b _ hb' => ⟨hb', fun e => by have := (hown1.lt b e).1; omega⟩)
            go_wp2_with (at_builtin; go_must (refine wpList_appC1 rfl _ _ rfl Try.app34 rfl hown1 rfl ⟨k0, i0, f0, o0, n0, vs⟩ (.slice al vs.length cl) rfl rfl hulB (by omega) (by have := hb.size; omega) ?_))
            intro v' w1 hown2 ht
            rw [← HE.out] at hown2
            have hb2 : Below w.heap.size w w1 := hb.trans (ht.below hb.size (fun b hb' => (hown1.lt b hb').1))
            clear hown hown1 hul hulB ht hu1 c0 c1 c2 c3 c4 c5 hb
            go_wp2
            go_roundw
            case rel => exact ⟨k + 1, by omega, by go_num, hown2, hb2⟩
            case measure => simp [intOf]; omega
      · have hkb : (k0 == kk) = false := beqF hkk
        have HE : Hid (Mer.ofR (cs.take (k + 1)) kk s = ck) := hid (HT.out.trans (if_neg (fun h => hkk h.1)))
        clear HT hkk
        go_wp2
        go_roundw
        case rel => exact ⟨k + 1, by omega, by go_num, (by rw [HE.out]; exact hown), hb⟩
        case measure => simp [intOf]; omega
    · obtain rfl : k = cs.length := by omega
      rw [List.take_length] at hown
      have hres := ChV.mono (S' := AnyB) hown.sl (fun _ _ _ => trivial)
      clear hown
      go_wp2
      go_ret
      exact ⟨_, rfl, hres, hb⟩

end Go.Proofs.Yteepdnamkcgndaa
