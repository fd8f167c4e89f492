/- Int of the reference of layer 1: the encoding of a number. -/
import Derived.Test.YtagnjhhbbjbhcaaWInt
namespace Go.Proofs.Ytagnjhhbbjbhcaa
open Go.RowKit

theorem digN_snoc (M i : Nat) : digN M i ++ [((M / 256 ^ i % 256 : Nat) : Int)] = digN M (i + 1) := by unfold digN; simp [List.range_succ]
theorem digN_len (M k : Nat) : (digN M k).length = k := by simp [digN]
theorem digN_at (M k p : Nat) (hp : p < k) : (digN M k)[p]'(by rw [digN_len]; exact hp) = ((M / 256 ^ p % 256 : Nat) : Int) := by simp [digN]
theorem div_step (M i : Nat) : M / 256 ^ i / 256 = M / 256 ^ (i + 1) := by rw [Nat.div_div_eq_div_mul, Nat.pow_succ]
theorem bytes_lt (M i : Nat) (hM : M < 18446744073709551616) (hi : i ≤ bytesN M) : 0 < M / 256 ^ i ↔ i < bytesN M := by
  have h8 := bytesN_le M
  have hp : 0 < 256 ^ i := Nat.pow_pos (by omega)
  have hd := Nat.div_pos_iff (a := M) (b := 256 ^ i)
  by_cases h : i < 8
  · have := bytes_le_iff M i h
    omega
  · obtain rfl : i = 8 := by omega
    rw [show (256 : Nat) ^ 8 = 18446744073709551616 from rfl] at hd ⊢
    omega

theorem OwnV.mono_base {α : Type} {RR : (Nat → Prop) → World → Value → α → Prop} (hR : Steady RR) {B B' : Nat} {e : TypeId} {w : World} {v : Value} {xs : List α} (h : OwnV RR B e w v xs) (hB : B' ≤ B) : OwnV RR B' e w v xs := by
  obtain ⟨us, ⟨h1, h2⟩, h3, h4⟩ := h
  refine ⟨us, ⟨h1, ?_⟩, h3, fun j g1 g2 => hR.mono (h4 j g1 g2) (fun b _ hb => ⟨by omega, hb.2⟩)⟩
  rcases h2 with h2 | ⟨g, cap, cur, k1, k2, k3⟩
  · exact .inl h2
  · exact .inr ⟨g, cap, cur, k1, by omega, k3⟩

set_option maxHeartbeats 2000000 in
theorem rint_pos (M : Nat) (h2 : M < 9223372036854775808) (w : World) :
    Calls Try.prog 46 #[.int .i64 (M : Int)] w fun e w' => ∃ v, e = .returned v ∧ OwnB w.heap.size w' v (encI (M : Int)) ∧ Below w.heap.size w w' := by
  have hn : decide ((M : Int) < 0) = false := decide_eq_false (by omega)
  have hn3 : decide (0 ≤ (M : Int)) = true := decide_eq_true (by omega)
  have hn4 : (0 : Int) ≤ M := by omega
  have hmag : magN (M : Int) = M := by unfold magN; rw [if_neg (by omega)]; simp
  have hfl : ∀ d, flipI (M : Int) d = d := fun d => by unfold flipI; rw [if_neg (by omega)]
  have HG := hid hmag
  have HF := hid hfl
  clear hmag hfl
  go_enter Try.func46, Try.ntmps46
  go_wp2
  go_loopw [3, 4] (fun m v wr => ∃ i q : Nat, i ≤ bytesN M ∧ Hid (q = M / 256 ^ i) ∧ q ≤ M ∧ m = .int .i64 q ∧ OwnB w.heap.size wr v (digN M i) ∧ Below w.heap.size w wr) (fun m _ _ => (intOf m).toNat)
  case atStart => exact ⟨0, M, by omega, hid (by simp), by omega, rfl, OwnV.nil _ _ _ _, Below.refl _ _⟩
  case round =>
    obtain ⟨i, q, hi, hq, hqM, rfl, hown, hb⟩ := hrel
    have hlt := bytes_lt M i (by omega) hi
    have h8 := bytesN_le M
    have hlen := digN_len M i
    by_cases hlt2 : i < bytesN M
    · have hq0 : 0 < q := by rw [hq.out]; exact hlt.2 hlt2
      have HS := hid (digN_snoc M i)
      have HQ : Hid (q / 256 = M / 256 ^ (i + 1)) := hid (by rw [hq.out]; exact div_step M i)
      have HW : Hid (IntKind.u8.wrap ((q : Int) % 256) = ((M / 256 ^ i % 256 : Nat) : Int)) := hid (by rw [IntKind.wrap_u8, ← hq.out]; omega)
      have hi8 : (digN M i).length ≤ 8 := by omega
      generalize digN M i = us at *
      generalize ((M / 256 ^ i % 256 : Nat) : Int) = x at *
      have hi1 : i + 1 ≤ bytesN M := hlt2
      clear hlen hlt hlt2
      go_wp2_with (at_builtin; go_must (refine wpList_app1 steady_byte rfl _ _ rfl Try.appB rfl hown rfl x (by exact congrArg (Value.int .u8) (by rw [← HW.out]; first | rfl | (rw [IntKind.wrap_u8]; omega))) rfl (by omega) (by have := hb.size; omega) hb (Nat.le_refl _) ?_))
      intro v' w1 hown1 hb1 _
      rw [HS.out] at hown1
      clear hown HS hb
      go_wp2
      go_roundw
      case rel => exact ⟨i + 1, q / 256, by omega, HQ, by omega, by go_num, hown1, hb1⟩
      case measure => simp [intOf]; omega
    · have hib : i = bytesN M := by omega
      have hq0 : q = 0 := by have h := hq.out; have := hlt.1; omega
      subst hq0
      have HI := hid hib
      clear hlt hlt2 hib hq
      have hi8 : i ≤ 8 := by omega
      have hv0 := hown.sl steady_byte
      obtain ⟨ad, cd, rfl, hokd, hcapd, hmaxd⟩ := hv0.form
      rw [hlen] at hokd hcapd
      rw [hlen]
      have hv : BytesV AnyB wr (.slice ad i cd) (digN M i) := by rw [hlen] at hv0; exact BytesV.mono hv0 (fun _ _ _ => trivial)
      have HV := hid hv
      have HB := hid hb
      have hz := hb.size
      clear hown hv0 hv hlen hb
      have HE : Hid ([128 + (i : Int)] = encTo (M : Int) M i i) := hid (by rw [encTo_top, HF.out])
      have h0 := OwnV.nil (fun _ _ u (x : Int) => u = .int .u8 x) wr.heap.size 5 wr
      have HN := hid h0
      clear h0
      go_wp2_with (at_builtin; go_must (refine wpList_app1 steady_byte rfl _ _ rfl Try.appB rfl HN.out rfl (128 + (i : Int)) rfl rfl (by simp) (Nat.le_refl _) (Below.refl _ _) (Nat.le_refl _) ?_))
      intro v1 w1 hown1 hb1 _
      rw [HE.out] at hown1
      have HO := hid hown1
      have HB1 := hid hb1
      clear hown1 hb1 HN HE
      go_wp2
      go_loopw [6, 7] (fun v j w2 => ∃ q : Nat, q ≤ i ∧ j = .int .i64 ((q : Int) - 1) ∧ OwnB wr.heap.size w2 v (encTo (M : Int) M i q) ∧ Below wr.heap.size wr w2) (fun _ j _ => (intOf j + 1).toNat)
      case atStart => exact ⟨i, by omega, rfl, HO.out, HB1.out⟩
      case round =>
        obtain ⟨q, hq, rfl, hown, hb⟩ := hrel
        rcases Nat.eq_zero_or_pos q with rfl | hq0
        · have e := encTo_zero (M : Int) i (by rw [HG.out]; exact HI.out.symm)
          rw [HG.out] at e
          rw [e] at hown
          have HO2 := hid (OwnV.mono_base steady_byte hown hz)
          clear hown e
          go_wp2
          go_ret
          exact ⟨_, rfl, HO2.out, HB.out.trans (hb.mono hz)⟩
        · obtain ⟨p, rfl⟩ : ∃ p, q = p + 1 := ⟨q - 1, by omega⟩
          have hpi : ((p + 1 : Nat) : Int) - 1 = p := by omega
          rw [hpi]
          have hv2 : BytesV AnyB _ _ _ := BytesV.keep HV.out (KeepS.below hb)
          have hlen := encTo_len (M : Int) M i (p + 1)
          have HS := hid (encTo_succ (M : Int) M i p (by omega))
          obtain ⟨u, hc, hbk, hu⟩ := hv2.at (j := p) (by rw [digN_len]; omega)
          rw [digN_at M i p (by omega)] at hu
          have hx := dig_lt M p
          have HX := HF.out ((M / 256 ^ p % 256 : Nat) : Int)
          rw [HX] at HS
          generalize M / 256 ^ p % 256 = x at *
          subst hu
          generalize encTo (M : Int) M i (p + 1) = us at *
          have hp0 : (0 : Int) ≤ p := by omega
          have hp1 : (p : Int) < i := by omega
          have hx0 : (0 : Int) ≤ x := by omega
          have hx1 : (x : Int) ≤ 255 := by omega
          clear hv2 HX
          go_wp2_with (at_builtin; go_must (refine wpList_app1 steady_byte rfl _ _ rfl Try.appB rfl hown rfl ((x : Int)) rfl rfl (by omega) (by have := hb.size; omega) hb (Nat.le_refl _) ?_))
          intro v' w3 hown1 hb2 _
          rw [HS.out] at hown1
          clear hown HS hb hc
          go_wp2
          go_roundw
          case rel => exact ⟨p, by omega, by go_num, hown1, hb2⟩
          case measure => simp [intOf]

set_option maxHeartbeats 2000000 in
theorem rint_neg (M : Nat) (h2 : M < 9223372036854775808) (w : World) :
    Calls Try.prog 46 #[.int .i64 (-1 - M : Int)] w fun e w' => ∃ v, e = .returned v ∧ OwnB w.heap.size w' v (encI (-1 - M : Int)) ∧ Below w.heap.size w w' := by
  have hn : decide ((-1 - M : Int) < 0) = true := decide_eq_true (by omega)
  have hn2 : (-1 - M : Int) < 0 := by omega
  have hn3 : decide (0 ≤ (-1 - M : Int)) = false := decide_eq_false (by omega)
  have hn4 : (-1 - (-1 - M : Int)) = M := by omega
  have hmag : magN (-1 - M : Int) = M := by unfold magN; rw [if_pos (by omega)]; omega
  have hfl : ∀ d, flipI (-1 - M : Int) d = 255 - d := fun d => by unfold flipI; rw [if_pos (by omega)]
  have HG := hid hmag
  have HF := hid hfl
  clear hmag hfl
  go_enter Try.func46, Try.ntmps46
  go_wp2
  go_loopw [3, 4] (fun m v wr => ∃ i q : Nat, i ≤ bytesN M ∧ Hid (q = M / 256 ^ i) ∧ q ≤ M ∧ m = .int .i64 q ∧ OwnB w.heap.size wr v (digN M i) ∧ Below w.heap.size w wr) (fun m _ _ => (intOf m).toNat)
  case atStart => exact ⟨0, M, by omega, hid (by simp), by omega, rfl, OwnV.nil _ _ _ _, Below.refl _ _⟩
  case round =>
    obtain ⟨i, q, hi, hq, hqM, rfl, hown, hb⟩ := hrel
    have hlt := bytes_lt M i (by omega) hi
    have h8 := bytesN_le M
    have hlen := digN_len M i
    by_cases hlt2 : i < bytesN M
    · have hq0 : 0 < q := by rw [hq.out]; exact hlt.2 hlt2
      have HS := hid (digN_snoc M i)
      have HQ : Hid (q / 256 = M / 256 ^ (i + 1)) := hid (by rw [hq.out]; exact div_step M i)
      have HW : Hid (IntKind.u8.wrap ((q : Int) % 256) = ((M / 256 ^ i % 256 : Nat) : Int)) := hid (by rw [IntKind.wrap_u8, ← hq.out]; omega)
      have hi8 : (digN M i).length ≤ 8 := by omega
      generalize digN M i = us at *
      generalize ((M / 256 ^ i % 256 : Nat) : Int) = x at *
      have hi1 : i + 1 ≤ bytesN M := hlt2
      clear hlen hlt hlt2
      go_wp2_with (at_builtin; go_must (refine wpList_app1 steady_byte rfl _ _ rfl Try.appB rfl hown rfl x (by exact congrArg (Value.int .u8) (by rw [← HW.out]; first | rfl | (rw [IntKind.wrap_u8]; omega))) rfl (by omega) (by have := hb.size; omega) hb (Nat.le_refl _) ?_))
      intro v' w1 hown1 hb1 _
      rw [HS.out] at hown1
      clear hown HS hb
      go_wp2
      go_roundw
      case rel => exact ⟨i + 1, q / 256, by omega, HQ, by omega, by go_num, hown1, hb1⟩
      case measure => simp [intOf]; omega
    · have hib : i = bytesN M := by omega
      have hq0 : q = 0 := by have h := hq.out; have := hlt.1; omega
      subst hq0
      have HI := hid hib
      clear hlt hlt2 hib hq
      have hi8 : i ≤ 8 := by omega
      have hv0 := hown.sl steady_byte
      obtain ⟨ad, cd, rfl, hokd, hcapd, hmaxd⟩ := hv0.form
      rw [hlen] at hokd hcapd
      rw [hlen]
      have hv : BytesV AnyB wr (.slice ad i cd) (digN M i) := by rw [hlen] at hv0; exact BytesV.mono hv0 (fun _ _ _ => trivial)
      have HV := hid hv
      have HB := hid hb
      have hz := hb.size
      clear hown hv0 hv hlen hb
      have HE : Hid ([127 - (i : Int)] = encTo (-1 - M : Int) M i i) := hid (by rw [encTo_top, HF.out, show (255 - (128 + (i : Int))) = 127 - (i : Int) by omega])
      have h0 := OwnV.nil (fun _ _ u (x : Int) => u = .int .u8 x) wr.heap.size 5 wr
      have HN := hid h0
      clear h0
      go_wp2_with (at_builtin; go_must (refine wpList_app1 steady_byte rfl _ _ rfl Try.appB rfl HN.out rfl (127 - (i : Int)) rfl rfl (by simp) (Nat.le_refl _) (Below.refl _ _) (Nat.le_refl _) ?_))
      intro v1 w1 hown1 hb1 _
      rw [HE.out] at hown1
      have HO := hid hown1
      have HB1 := hid hb1
      clear hown1 hb1 HN HE
      go_wp2
      go_loopw [6, 7] (fun v j w2 => ∃ q : Nat, q ≤ i ∧ j = .int .i64 ((q : Int) - 1) ∧ OwnB wr.heap.size w2 v (encTo (-1 - M : Int) M i q) ∧ Below wr.heap.size wr w2) (fun _ j _ => (intOf j + 1).toNat)
      case atStart => exact ⟨i, by omega, rfl, HO.out, HB1.out⟩
      case round =>
        obtain ⟨q, hq, rfl, hown, hb⟩ := hrel
        rcases Nat.eq_zero_or_pos q with rfl | hq0
        · have e := encTo_zero (-1 - M : Int) i (by rw [HG.out]; exact HI.out.symm)
          rw [HG.out] at e
          rw [e] at hown
          have HO2 := hid (OwnV.mono_base steady_byte hown hz)
          clear hown e
          go_wp2
          go_ret
          exact ⟨_, rfl, HO2.out, HB.out.trans (hb.mono hz)⟩
        · obtain ⟨p, rfl⟩ : ∃ p, q = p + 1 := ⟨q - 1, by omega⟩
          have hpi : ((p + 1 : Nat) : Int) - 1 = p := by omega
          rw [hpi]
          have hv2 : BytesV AnyB _ _ _ := BytesV.keep HV.out (KeepS.below hb)
          have hlen := encTo_len (-1 - M : Int) M i (p + 1)
          have HS := hid (encTo_succ (-1 - M : Int) M i p (by omega))
          obtain ⟨u, hc, hbk, hu⟩ := hv2.at (j := p) (by rw [digN_len]; omega)
          rw [digN_at M i p (by omega)] at hu
          have hx := dig_lt M p
          have HX := HF.out ((M / 256 ^ p % 256 : Nat) : Int)
          rw [HX] at HS
          generalize M / 256 ^ p % 256 = x at *
          subst hu
          generalize encTo (-1 - M : Int) M i (p + 1) = us at *
          have hp0 : (0 : Int) ≤ p := by omega
          have hp1 : (p : Int) < i := by omega
          have hx0 : (0 : Int) ≤ x := by omega
          have hx1 : (x : Int) ≤ 255 := by omega
          clear hv2 HX
          go_wp2_with (at_builtin; go_must (refine wpList_app1 steady_byte rfl _ _ rfl Try.appB rfl hown rfl (255 - (x : Int)) rfl rfl (by omega) (by have := hb.size; omega) hb (Nat.le_refl _) ?_))
          intro v' w3 hown1 hb2 _
          rw [HS.out] at hown1
          clear hown HS hb hc
          go_wp2
          go_roundw
          case rel => exact ⟨p, by omega, by go_num, hown1, hb2⟩
          case measure => simp [intOf]

theorem rint_any (n : Int) (h1 : -9223372036854775808 ≤ n) (h2 : n ≤ 9223372036854775807) (w : World) :
    Calls Try.prog 46 #[.int .i64 n] w fun e w' => ∃ v, e = .returned v ∧ OwnB w.heap.size w' v (encI n) ∧ Below w.heap.size w w' := by
  by_cases hn : n < 0
  · obtain ⟨M, rfl⟩ : ∃ M : Nat, n = -1 - M := ⟨(-1 - n).toNat, by omega⟩
    exact rint_neg M (by omega) w
  · obtain ⟨M, rfl⟩ := Int.eq_ofNat_of_zero_le (show 0 ≤ n by omega)
    exact rint_pos M (by omega) w

end Go.Proofs.Ytagnjhhbbjbhcaa
