/- wire.Int: the encoding of a number. -/
import Derived.Test.YtagnjhhbbjbhcaaEnc
import Derived.WalkMore
import Derived.Laws.BitsAllLaws
namespace Go.Proofs.Ytagnjhhbbjbhcaa
open Go.RowKit

theorem bytes_le_iff (M j : Nat) (hj : j < 8) : bytesN M ≤ j ↔ M < 256 ^ j := by
  have h8 : j = 0 ∨ j = 1 ∨ j = 2 ∨ j = 3 ∨ j = 4 ∨ j = 5 ∨ j = 6 ∨ j = 7 := by omega
  unfold bytesN
  rcases h8 with rfl | rfl | rfl | rfl | rfl | rfl | rfl | rfl <;> simp only [Nat.reducePow, Nat.pow_zero] <;> (repeat' split) <;> omega
theorem bytes_stop (M j : Nat) (h : bytesN M ≤ j + 1) (hj : j < 8) (hp : 256 ^ j ≤ M) : bytesN M = j + 1 := by
  have := (bytes_le_iff M j hj).1
  omega
theorem bytes_go (M j : Nat) (hj : j < 8) (hp : M < 256 ^ j) : bytesN M ≤ j := (bytes_le_iff M j hj).2 hp

theorem pow8 (j : Nat) : 2 ^ (8 * j) = 256 ^ j := by rw [Nat.pow_mul]
theorem div_pos_iff (M j : Nat) : (0 : Int) < (M : Int) / 2 ^ (8 * j) ↔ 256 ^ j ≤ M := by
  have e : ((M : Int) / 2 ^ (8 * j)) = ((M / 256 ^ j : Nat) : Int) := by rw [← pow8]; simp
  rw [e]
  have h := Nat.div_pos_iff (a := M) (b := 256 ^ j)
  have hp : 0 < 256 ^ j := Nat.pow_pos (by omega)
  omega
theorem dig_wrap (M p : Nat) : IntKind.u8.wrap ((M : Int) / 2 ^ (8 * p)) = ((M / 256 ^ p % 256 : Nat) : Int) := by
  have e : ((M : Int) / 2 ^ (8 * p)) = ((M / 256 ^ p : Nat) : Int) := by rw [← pow8]; simp
  rw [e, IntKind.wrap_u8]
  omega
theorem dig_lt (M p : Nat) : M / 256 ^ p % 256 < 256 := Nat.mod_lt _ (by omega)

theorem xor_0 (d : Nat) (h : d < 256) : bits .xor .u8 (d : Int) 0 = d := by
  have := u8_xor_nat d 0 h (by omega)
  simpa using this
set_option maxRecDepth 100000 in
theorem xor_255 (d : Nat) (h : d < 256) : bits .xor .u8 (d : Int) 255 = 255 - d := by
  have h2 := u8_xor_nat d 255 h (by omega)
  have h3 : ∀ d < 256, d ^^^ 255 = 255 - d := by decide
  rw [h3 d h] at h2
  rw [show ((255 : Nat) : Int) = 255 from rfl] at h2
  rw [h2]
  omega

theorem xor_all (x : Nat) (h : x < 2 ^ 64) : (2 ^ 64 - 1) ^^^ x = 2 ^ 64 - (x + 1) := by
  refine Nat.eq_of_testBit_eq fun i => ?_
  rw [Nat.testBit_xor, Nat.testBit_two_pow_sub_one, Nat.testBit_two_pow_sub_succ h]
  by_cases hi : i < 64
  · simp [hi]
  · have : x.testBit i = false := Nat.testBit_lt_two_pow (Nat.lt_of_lt_of_le h (Nat.pow_le_pow_right (by omega) (by omega)))
    simp [hi, this]
theorem xor_u64max (M : Nat) (h : M < 18446744073709551616) : bits .xor .u64 IntKind.u64.max (18446744073709551615 - (M : Int)) = M := by
  have h1 := u64_xor_nat 18446744073709551615 (18446744073709551615 - M) (by omega) (by omega)
  have h2 := xor_all (18446744073709551615 - M) (by omega)
  rw [show (2 ^ 64 - 1 : Nat) = 18446744073709551615 from rfl] at h2
  rw [h2] at h1
  rw [show IntKind.u64.max = ((18446744073709551615 : Nat) : Int) from rfl, show (18446744073709551615 - (M : Int)) = ((18446744073709551615 - M : Nat) : Int) by omega, h1]
  omega

theorem rev_take {α : Type} {xs : List α} {K p : Nat} (hl : xs.length = K) (hp : p < K) : xs.reverse.take (K - (p + 1)) ++ [xs[p]] = xs.reverse.take (K - p) := by
  subst hl
  have h1 : xs.length - (p + 1) < xs.reverse.length := by simp; omega
  have h2 : xs.reverse[xs.length - (p + 1)] = xs[p] := by
    rw [List.getElem_reverse]
    congr 1
    omega
  have h3 := take_snoc h1
  rw [h2] at h3
  rw [h3]
  congr 1
  omega

/-- What stands behind the head of an encoding when the digits from q on have been written. -/
def encTo (n : Int) (M K q : Nat) : List Int := flipI n (128 + K) :: ((digN M K).reverse.take (K - q)).map (flipI n)
theorem encTo_top (n : Int) (M K : Nat) : encTo n M K K = [flipI n (128 + K)] := by unfold encTo; simp
theorem encTo_zero (n : Int) (K : Nat) (hn : bytesN (magN n) = K) : encTo n (magN n) K 0 = encI n := by
  subst hn; unfold encTo encI; rw [List.take_of_length_le (by simp [digN])]
theorem encTo_succ (n : Int) (M K p : Nat) (hp : p < K) : encTo n M K (p + 1) ++ [flipI n ((M / 256 ^ p % 256 : Nat) : Int)] = encTo n M K p := by
  unfold encTo
  have hl : (digN M K).length = K := by simp [digN]
  have h := rev_take (xs := digN M K) hl hp
  rw [← h, List.map_append]
  simp [digN]
theorem encTo_len (n : Int) (M K q : Nat) : (encTo n M K q).length ≤ K + 1 := by unfold encTo; simp; omega

/-- A row of one byte that was just built. -/
theorem ownB1 {w : World} {B : Nat} (hB : B ≤ w.heap.size) (x : Int) (b : Nat) (hb : b = w.heap.size) :
    OwnB B (w.alloc (.cells #[.int .u8 x] 5)) (.slice (some ⟨b, 0, none⟩) 1 1) [x] := by
  subst hb
  refine ⟨[.int .u8 x], ⟨rfl, .inr ⟨w.heap.size, 1, #[.int .u8 x], rfl, hB, heap_alloc_new w _, Nat.le_refl _, by unfold maxLen; omega, rfl, rfl⟩⟩, rfl, fun j h1 h2 => ?_⟩
  obtain rfl : j = 0 := by simp at h1; omega
  rfl

set_option maxHeartbeats 1000000 in
theorem wint_pos (M : Nat) (h2 : M < 9223372036854775808) (w : World) :
    Calls Try.prog 43 #[.int .i64 M] w fun e w' => ∃ v, e = .returned v ∧ OwnB w.heap.size w' v (encI M) ∧ Below w.heap.size w w' := by
  have hn : decide ((M : Int) < 0) = false := decide_eq_false (by omega)
  have hmag : magN (M : Int) = M := by unfold magN; rw [if_neg (by omega)]; simp
  have HG := hid hmag
  have hfl : ∀ d, flipI (M : Int) d = d := fun d => by unfold flipI; rw [if_neg (by omega)]
  have HF := hid hfl
  clear hmag hfl
  have ha : ∀ o : Obj, Below w.heap.size w (w.alloc o) := fun o => (Below.refl _ _).alloc (Nat.le_refl _) _
  have HA := hid ha
  clear ha
  go_enter Try.func43, Try.ntmps43
  go_wp2
  go_step3
  go_wp2
  go_step3
  go_wp2
  go_loopw [5] (fun i wr => ∃ k : Nat, k ≤ 8 ∧ Hid (bytesN M ≤ k) ∧ i = .int .i64 k ∧ wr = w) (fun i _ => (intOf i).toNat)
  case atStart => exact ⟨8, by omega, hid (bytesN_le M), rfl, rfl⟩
  case round =>
    obtain ⟨k, hk, hM, rfl, rfl⟩ := hrel
    rcases Nat.eq_zero_or_pos k with rfl | hk0
    · have h0 : Hid (bytesN M = 0) := hid (by have := hM.out; omega)
      have hx : Hid (bits .xor .u8 (128 : Int) 0 = 128) := hid (xor_0 128 (by omega))
      go_wp2
      rw [hx.out]
      have hO := ownB1 (w := wr) (Nat.le_refl _) 128 _ rfl
      have HO := hid hO
      clear hO
      go_loopw [6, 7] (fun v i w2 => i = .int .i64 (-1) ∧ Hid (OwnB wr.heap.size w2 v [128]) ∧ Below wr.heap.size wr w2) (fun _ _ _ => 0)
      case atStart => exact ⟨rfl, HO, HA.out _⟩
      case round =>
        obtain ⟨rfl, HO2, hb⟩ := hrel
        go_wp2
        rw [Exit.noGoto_ret]
        go_ret
        refine ⟨_, rfl, ?_, hb⟩
        have e := encTo_zero (M : Int) 0 (by rw [HG.out]; exact h0.out)
        rw [HG.out, encTo_top, HF.out] at e
        rw [← e]
        simpa using HO2.out
    · obtain ⟨j, hj⟩ : ∃ j, k = j + 1 := ⟨k - 1, by omega⟩
      have hkj : (k : Int) - 1 = j := by omega
      have HJ := hid hj
      have hjk : j < k := by omega
      have hj8 : j < 8 := by omega
      clear hj
      by_cases hp : 256 ^ j ≤ M
      · have h0 : Hid (bytesN M = k) := hid (by have h := bytes_stop M j (by rw [← HJ.out]; exact hM.out) (by omega) hp; rw [HJ.out]; exact h)
        have hd : decide ((0 : Int) < (M : Int) / 2 ^ (8 * j)) = true := decide_eq_true ((div_pos_iff M j).2 hp)
        have hx : Hid (bits .xor .u8 (128 + (k : Int)) 0 = 128 + (k : Int)) := hid (by have := xor_0 (128 + k) (by omega); simpa using this)
        clear hp hM
        go_wp2
        rw [hx.out]
        have hO := ownB1 (w := wr) (Nat.le_refl _) (128 + (k : Int)) _ rfl
        have HO := hid hO
        have HE : Hid ([128 + (k : Int)] = encTo M M k k) := hid (by rw [encTo_top, HF.out])
        rw [HE.out] at HO
        clear hO hd
        go_loopw [6, 7] (fun v i w2 => ∃ q : Nat, q ≤ k ∧ i = .int .i64 ((q : Int) - 1) ∧ OwnB wr.heap.size w2 v (encTo M M k q) ∧ Below wr.heap.size wr w2) (fun _ i _ => (intOf i + 1).toNat)
        case atStart => exact ⟨k, by omega, by go_num, HO.out, HA.out _⟩
        case round =>
          obtain ⟨q, hq, rfl, hown, hb⟩ := hrel
          rcases Nat.eq_zero_or_pos q with rfl | hq0
          · have e := encTo_zero (M : Int) k (by rw [HG.out]; exact h0.out)
            rw [HG.out] at e
            rw [e] at hown
            have HO2 := hid hown
            clear hown e
            go_wp2
            rw [Exit.noGoto_ret]
            go_ret
            exact ⟨_, rfl, HO2.out, hb⟩
          · obtain ⟨p, rfl⟩ : ∃ p, q = p + 1 := ⟨q - 1, by omega⟩
            have hpi : ((p + 1 : Nat) : Int) - 1 = p := by omega
            rw [hpi]
            have hlen := encTo_len M M k (p + 1)
            have HS := hid (encTo_succ M M k p (by omega))
            have HX : Hid (bits .xor .u8 (IntKind.u8.wrap ((M : Int) / 2 ^ (8 * p))) 0 = flipI M ((M / 256 ^ p % 256 : Nat) : Int)) := hid (by rw [dig_wrap, xor_0 _ (dig_lt M p), HF.out])
            generalize encTo M M k (p + 1) = us at *
            generalize flipI (M : Int) ((M / 256 ^ p % 256 : Nat) : Int) = x at *
            go_wp2_with (at_builtin; go_must (refine wpList_app1 steady_byte rfl _ _ rfl Try.appB rfl hown rfl x (congrArg (Value.int .u8) HX.out) rfl (by omega) (by have := hb.size; omega) hb (Nat.le_refl _) ?_))
            intro v' w1 hown1 hb1 _
            rw [HS.out] at hown1
            clear hown HS hb
            go_wp2
            go_roundw
            case rel => exact ⟨p, by omega, by go_num, hown1, hb1⟩
            case measure => simp [intOf]
      · have hd : decide ((0 : Int) < (M : Int) / 2 ^ (8 * j)) = false := decide_eq_false (fun h => hp ((div_pos_iff M j).1 h))
        have h0 : Hid (bytesN M ≤ j) := hid (bytes_go M j (by omega) (by omega))
        clear hp
        go_wp2
        go_roundw
        case rel => exact ⟨j, by omega, h0, by go_num, trivial⟩
        case measure => simp [intOf]; omega

set_option maxHeartbeats 1000000 in
theorem wint_neg (M : Nat) (h2 : M < 9223372036854775808) (w : World) :
    Calls Try.prog 43 #[.int .i64 (-1 - M)] w fun e w' => ∃ v, e = .returned v ∧ OwnB w.heap.size w' v (encI (-1 - M)) ∧ Below w.heap.size w w' := by
  have hn : decide ((-1 - M : Int) < 0) = true := decide_eq_true (by omega)
  have hn2 : (-1 - M : Int) < 0 := by omega
  have hu : IntKind.u64.wrap (-1 - M : Int) = 18446744073709551615 - M := by rw [IntKind.wrap_u64]; omega
  have hu2 := xor_u64max M (by omega)
  have hmag : magN (-1 - M : Int) = M := by unfold magN; rw [if_pos (by omega)]; omega
  have HG := hid hmag
  have hfl : ∀ d, flipI (-1 - M : Int) d = 255 - d := fun d => by unfold flipI; rw [if_pos (by omega)]
  have HF := hid hfl
  clear hmag hfl
  have ha : ∀ o : Obj, Below w.heap.size w (w.alloc o) := fun o => (Below.refl _ _).alloc (Nat.le_refl _) _
  have HA := hid ha
  clear ha
  go_enter Try.func43, Try.ntmps43
  go_wp2
  go_step3
  go_wp2
  go_step3
  go_wp2
  go_loopw [5] (fun i wr => ∃ k : Nat, k ≤ 8 ∧ Hid (bytesN M ≤ k) ∧ i = .int .i64 k ∧ wr = w) (fun i _ => (intOf i).toNat)
  case atStart => exact ⟨8, by omega, hid (bytesN_le M), rfl, rfl⟩
  case round =>
    obtain ⟨k, hk, hM, rfl, rfl⟩ := hrel
    rcases Nat.eq_zero_or_pos k with rfl | hk0
    · have h0 : Hid (bytesN M = 0) := hid (by have := hM.out; omega)
      have hx : Hid (bits .xor .u8 (128 : Int) 255 = 127) := hid (xor_255 128 (by omega))
      go_wp2
      rw [hx.out]
      have hO := ownB1 (w := wr) (Nat.le_refl _) 127 _ rfl
      have HO := hid hO
      clear hO
      go_loopw [6, 7] (fun v i w2 => i = .int .i64 (-1) ∧ Hid (OwnB wr.heap.size w2 v [127]) ∧ Below wr.heap.size wr w2) (fun _ _ _ => 0)
      case atStart => exact ⟨rfl, HO, HA.out _⟩
      case round =>
        obtain ⟨rfl, HO2, hb⟩ := hrel
        go_wp2
        rw [Exit.noGoto_ret]
        go_ret
        refine ⟨_, rfl, ?_, hb⟩
        have e := encTo_zero (-1 - M : Int) 0 (by rw [HG.out]; exact h0.out)
        rw [HG.out, encTo_top, HF.out] at e
        rw [← e]
        simpa using HO2.out
    · obtain ⟨j, hj⟩ : ∃ j, k = j + 1 := ⟨k - 1, by omega⟩
      have hkj : (k : Int) - 1 = j := by omega
      have HJ := hid hj
      have hjk : j < k := by omega
      have hj8 : j < 8 := by omega
      clear hj
      by_cases hp : 256 ^ j ≤ M
      · have h0 : Hid (bytesN M = k) := hid (by have h := bytes_stop M j (by rw [← HJ.out]; exact hM.out) (by omega) hp; rw [HJ.out]; exact h)
        have hd : decide ((0 : Int) < (M : Int) / 2 ^ (8 * j)) = true := decide_eq_true ((div_pos_iff M j).2 hp)
        have hx : Hid (bits .xor .u8 (128 + (k : Int)) 255 = 255 - (128 + (k : Int))) := hid (by have := xor_255 (128 + k) (by omega); simpa using this)
        clear hp hM
        go_wp2
        rw [hx.out]
        have hO := ownB1 (w := wr) (Nat.le_refl _) (255 - (128 + (k : Int))) _ rfl
        have HO := hid hO
        have HE : Hid ([255 - (128 + (k : Int))] = encTo (-1 - M) M k k) := hid (by rw [encTo_top, HF.out])
        rw [HE.out] at HO
        clear hO hd hu hu2
        go_loopw [6, 7] (fun v i w2 => ∃ q : Nat, q ≤ k ∧ i = .int .i64 ((q : Int) - 1) ∧ OwnB wr.heap.size w2 v (encTo (-1 - M) M k q) ∧ Below wr.heap.size wr w2) (fun _ i _ => (intOf i + 1).toNat)
        case atStart => exact ⟨k, by omega, by go_num, HO.out, HA.out _⟩
        case round =>
          obtain ⟨q, hq, rfl, hown, hb⟩ := hrel
          rcases Nat.eq_zero_or_pos q with rfl | hq0
          · have e := encTo_zero (-1 - M : Int) k (by rw [HG.out]; exact h0.out)
            rw [HG.out] at e
            rw [e] at hown
            have HO2 := hid hown
            clear hown e
            go_wp2
            rw [Exit.noGoto_ret]
            go_ret
            exact ⟨_, rfl, HO2.out, hb⟩
          · obtain ⟨p, rfl⟩ : ∃ p, q = p + 1 := ⟨q - 1, by omega⟩
            have hpi : ((p + 1 : Nat) : Int) - 1 = p := by omega
            rw [hpi]
            have hlen := encTo_len (-1 - M) M k (p + 1)
            have HS := hid (encTo_succ (-1 - M) M k p (by omega))
            have HX : Hid (bits .xor .u8 (IntKind.u8.wrap ((M : Int) / 2 ^ (8 * p))) 255 = flipI (-1 - M : Int) ((M / 256 ^ p % 256 : Nat) : Int)) := hid (by rw [dig_wrap, xor_255 _ (dig_lt M p), HF.out])
            generalize encTo (-1 - M) M k (p + 1) = us at *
            generalize flipI (-1 - M : Int) ((M / 256 ^ p % 256 : Nat) : Int) = x at *
            go_wp2_with (at_builtin; go_must (refine wpList_app1 steady_byte rfl _ _ rfl Try.appB rfl hown rfl x (congrArg (Value.int .u8) HX.out) rfl (by omega) (by have := hb.size; omega) hb (Nat.le_refl _) ?_))
            intro v' w1 hown1 hb1 _
            rw [HS.out] at hown1
            clear hown HS hb
            go_wp2
            go_roundw
            case rel => exact ⟨p, by omega, by go_num, hown1, hb1⟩
            case measure => simp [intOf]
      · have hd : decide ((0 : Int) < (M : Int) / 2 ^ (8 * j)) = false := decide_eq_false (fun h => hp ((div_pos_iff M j).1 h))
        have h0 : Hid (bytesN M ≤ j) := hid (bytes_go M j (by omega) (by omega))
        clear hp
        go_wp2
        go_roundw
        case rel => exact ⟨j, by omega, h0, by go_num, trivial⟩
        case measure => simp [intOf]; omega

theorem wint_any (n : Int) (h1 : -9223372036854775808 ≤ n) (h2 : n ≤ 9223372036854775807) (w : World) :
    Calls Try.prog 43 #[.int .i64 n] w fun e w' => ∃ v, e = .returned v ∧ OwnB w.heap.size w' v (encI n) ∧ Below w.heap.size w w' := by
  by_cases hn : n < 0
  · obtain ⟨M, rfl⟩ : ∃ M : Nat, n = -1 - M := ⟨(-1 - n).toNat, by omega⟩
    exact wint_neg M (by omega) w
  · obtain ⟨M, rfl⟩ := Int.eq_ofNat_of_zero_le (show 0 ≤ n by omega)
    exact wint_pos M (by omega) w

end Go.Proofs.Ytagnjhhbbjbhcaa
