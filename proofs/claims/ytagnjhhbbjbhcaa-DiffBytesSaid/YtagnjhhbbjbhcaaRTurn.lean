/- Turn of the reference. -/
import Derived.Test.YtagnjhhbbjbhcaaA13
namespace Go.Proofs.Ytagnjhhbbjbhcaa
open Go.RowKit

theorem turnL_take {cs : List Chg} {p : Nat} (hp : p < cs.length) : (turnL cs).take (cs.length - (p + 1)) ++ [turnC cs[p]] = (turnL cs).take (cs.length - p) := by
  have hl := turnL_len cs
  have h1 : cs.length - (p + 1) < (turnL cs).length := by omega
  have h2 : (turnL cs)[cs.length - (p + 1)] = turnC cs[p] := by
    have h3 : (turnL cs)[cs.length - (p + 1)]? = some (turnC cs[p]) := by
      unfold turnL
      rw [List.getElem?_reverse (by simp; omega), List.getElem?_map, List.length_map, show cs.length - 1 - (cs.length - (p + 1)) = p by omega, List.getElem?_eq_getElem hp]
      rfl
    rw [List.getElem?_eq_getElem h1] at h3
    exact Option.some.inj h3
  have h3 := take_snoc h1
  rw [h2] at h3
  rw [h3]
  congr 1
  omega

set_option maxHeartbeats 4000000 in
theorem rturn_any (cs : List Chg) (hc : cs.length ≤ 100000) (u : Value) (S : Nat → Prop) (w : World) (hu : ChV S w u cs) :
    Calls Try.prog 22 #[u] w fun e w' => ∃ x, e = .returned x ∧ ChV AnyB w' x (turnL cs) ∧ Below w.heap.size w w' := by
  have hu0 : ChV (· < w.heap.size) w u cs := hu.mono (fun b hb _ => hb)
  obtain ⟨a, cap, rfl, hok, hcap, hmax⟩ := hu.form
  clear hu
  go_enter Try.func22, Try.ntmps22
  go_wp2
  go_loopw [3, 4] (fun x i wr => ∃ p : Nat, p ≤ cs.length ∧ i = .int .i64 ((p : Int) - 1) ∧ OwnC (· < w.heap.size) w.heap.size 73 wr x ((turnL cs).take (cs.length - p)) ∧ Below w.heap.size w wr) (fun _ i _ => (intOf i + 1).toNat)
  case atStart => exact ⟨cs.length, by omega, rfl, by simpa using OwnC.nil _ _ _ _, Below.refl _ _⟩
  case round =>
    obtain ⟨q, hq, rfl, hown, hb⟩ := hrel
    rcases Nat.eq_zero_or_pos q with rfl | hq0
    · have hown' : OwnC (· < w.heap.size) w.heap.size 73 wr u3 (turnL cs) := by
        rw [Nat.sub_zero, ← turnL_len cs, List.take_length] at hown
        exact hown
      have hres := ChV.mono (S' := AnyB) hown'.sl (fun _ _ _ => trivial)
      clear hown hown'
      go_wp2
      go_ret
      exact ⟨_, rfl, hres, hb⟩
    · obtain ⟨p, rfl⟩ : ∃ p, q = p + 1 := ⟨q - 1, by omega⟩
      have hlt : p < cs.length := by omega
      have hpi : ((p + 1 : Nat) : Int) - 1 = p := by omega
      rw [hpi]
      have hu1 : ChV (· < w.heap.size) wr (.slice a cs.length cap) cs := hu0.keep (KeepS.below hb)
      obtain ⟨hbk, -, c0, c1, c2, c3, c4, ul, c5, hul⟩ := hu1.at hlt
      have HT := hid (turnL_take hlt)
      have hlen : ((turnL cs).take (cs.length - (p + 1))).length ≤ cs.length := by simp [turnL_len]
      generalize (turnL cs).take (cs.length - (p + 1)) = ck at *
      generalize cs[p] = c at *
      obtain ⟨k0, i0, f0, o0, n0, vs⟩ := c
      simp only at c0 c1 c2 c3 c4 hul
      obtain ⟨al, cl, rfl, -, -, -⟩ := hul.form
      have hk0 : (0 : Int) ≤ p := by omega
      have hk1 : (p : Int) < cs.length := by omega
      have hb0 := hb.size
      have HO := hid hown
      have hulB : IntsV (fun b => b < w.heap.size ∧ some b ≠ u3.ownBlock) wr (.slice al vs.length cl) vs :=
        IntsV.mono hul (fun b _ hb' => ⟨hb', fun e => by have := (hown.lt b e).1; omega⟩)
      have HUB := hid hulB
      clear hown hulB hul hu1
      have three : f0 = -1 ∨ f0 = -2 ∨ (f0 ≠ -1 ∧ f0 ≠ -2) := by omega
      have hTC : (f0 = -1 → turnC ⟨k0, i0, f0, o0, n0, vs⟩ = ⟨k0, i0, -2, n0, o0, vs⟩) ∧ (f0 = -2 → turnC ⟨k0, i0, f0, o0, n0, vs⟩ = ⟨k0, i0, -1, n0, o0, vs⟩) ∧ (f0 ≠ -1 → f0 ≠ -2 → turnC ⟨k0, i0, f0, o0, n0, vs⟩ = ⟨k0, i0, f0, n0, o0, vs⟩) := by
        unfold turnC
        simp only
        refine ⟨fun h => ?_, fun h => ?_, fun h1 h2 => ?_⟩
        · rw [if_pos h]
        · rw [if_neg (by omega), if_pos h]
        · rw [if_neg h1, if_neg h2]
      have HTC := hid hTC
      clear hTC
      have ha : ∀ o : Obj, Below wr.heap.size wr (wr.alloc o) := fun o => (Below.refl _ _).alloc (Nat.le_refl _) _
      rcases three with rfl | rfl | ⟨hf1, hf2⟩
      · rw [HTC.out.1 rfl] at HT
        go_wp2_with (at_builtin; go_must (refine wpList_appC1 rfl _ _ rfl Try.app34 rfl (HO.out.below (ha _)) (by exact congrArg (fun b => Value.slice (some ⟨b, 0, none⟩) 1 1) (show wr.heap.size + 1 = (wr.alloc _).heap.size by simp)) ⟨k0, i0, -2, n0, o0, vs⟩ (.slice al vs.length cl) rfl rfl (HUB.out.keep (KeepS.below (ha _))) (by omega) (by simp; omega) ?_))
        intro v' w1 hown2 ht
        rw [HT.out] at hown2
        have hb2 : Below w.heap.size w w1 := (hb.trans ((ha _).mono hb0)).trans (ht.below (by simp; omega) (fun b hb' => (HO.out.lt b hb').1))
        clear HO HUB ht c0 c1 c2 c3 c4 c5 hb
        go_wp2
        go_roundw
        case rel => exact ⟨p, by omega, by go_num, hown2, hb2⟩
        case measure => simp [intOf]
      · rw [HTC.out.2.1 rfl] at HT
        go_wp2_with (at_builtin; go_must (refine wpList_appC1 rfl _ _ rfl Try.app34 rfl (HO.out.below (ha _)) (by exact congrArg (fun b => Value.slice (some ⟨b, 0, none⟩) 1 1) (show wr.heap.size + 1 = (wr.alloc _).heap.size by simp)) ⟨k0, i0, -1, n0, o0, vs⟩ (.slice al vs.length cl) rfl rfl (HUB.out.keep (KeepS.below (ha _))) (by omega) (by simp; omega) ?_))
        intro v' w1 hown2 ht
        rw [HT.out] at hown2
        have hb2 : Below w.heap.size w w1 := (hb.trans ((ha _).mono hb0)).trans (ht.below (by simp; omega) (fun b hb' => (HO.out.lt b hb').1))
        clear HO HUB ht c0 c1 c2 c3 c4 c5 hb
        go_wp2
        go_roundw
        case rel => exact ⟨p, by omega, by go_num, hown2, hb2⟩
        case measure => simp [intOf]
      · rw [HTC.out.2.2 hf1 hf2] at HT
        have hq1 : (f0 == -1) = false := beqF hf1
        have hq2 : (f0 == -2) = false := beqF hf2
        go_wp2_with (at_builtin; go_must (refine wpList_appC1 rfl _ _ rfl Try.app34 rfl (HO.out.below (ha _)) (by exact congrArg (fun b => Value.slice (some ⟨b, 0, none⟩) 1 1) (show wr.heap.size + 1 = (wr.alloc _).heap.size by simp)) ⟨k0, i0, f0, n0, o0, vs⟩ (.slice al vs.length cl) rfl rfl (HUB.out.keep (KeepS.below (ha _))) (by omega) (by simp; omega) ?_))
        intro v' w1 hown2 ht
        rw [HT.out] at hown2
        have hb2 : Below w.heap.size w w1 := (hb.trans ((ha _).mono hb0)).trans (ht.below (by simp; omega) (fun b hb' => (HO.out.lt b hb').1))
        clear HO HUB ht c0 c1 c2 c3 c4 c5 hb
        go_wp2
        go_roundw
        case rel => exact ⟨p, by omega, by go_num, hown2, hb2⟩
        case measure => simp [intOf]

end Go.Proofs.Ytagnjhhbbjbhcaa
