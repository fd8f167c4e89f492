/- wire.GetInt: a number is read back from its encoding. -/
import Derived.Test.YtagnjhhbbjbhcaaBytes
import Derived.Test.YtagnjhhbbjbhcaaEncode
namespace Go.Proofs.Ytagnjhhbbjbhcaa
open Go.RowKit

theorem flipI_flip (n d : Int) : flipI n (flipI n d) = d := by unfold flipI; split <;> omega
theorem digN_rev (M K j : Nat) (hj : j < K) : (digN M K).reverse[j]'(by simp [digN]; exact hj) = ((M / 256 ^ (K - 1 - j) % 256 : Nat) : Int) := by
  rw [List.getElem_reverse]
  simp [digN]
theorem encI_head (n : Int) (rest : List Int) : (encI n ++ rest)[0]'(by simp [encI]) = flipI n (128 + bytesN (magN n)) := by simp [encI]
theorem encI_at (n : Int) (rest : List Int) (j : Nat) (hj : j < bytesN (magN n)) :
    (encI n ++ rest)[1 + j]'(by rw [List.length_append, encI_len]; omega) = flipI n ((magN n / 256 ^ (bytesN (magN n) - 1 - j) % 256 : Nat) : Int) := by
  rw [List.getElem_append_left (by rw [encI_len]; omega)]
  unfold encI
  have e : ∀ (x : Int) (l : List Int) (h : 1 + j < (x :: l).length), (x :: l)[1 + j] = l[j]'(by simp at h; omega) := fun x l h => by
    simp only [Nat.add_comm 1 j, List.getElem_cons_succ]
  rw [e, List.getElem_map, digN_rev _ _ _ hj]
theorem top_ne (M : Nat) (hM : M < 18446744073709551616) (hk : 0 < bytesN M) : M / 256 ^ (bytesN M - 1) % 256 ≠ 0 := by
  have h8 := bytesN_le M
  have h1 := (bytes_lt M (bytesN M - 1) hM (by omega)).2 (by omega)
  have h2 : M / 256 ^ (bytesN M - 1) / 256 = M / 256 ^ (bytesN M) := by rw [div_step]; congr 2; omega
  have h3 := bytes_lt M (bytesN M) hM (Nat.le_refl _)
  have h4 : M / 256 ^ (bytesN M) = 0 := by omega
  omega
theorem div_all (M : Nat) (hM : M < 18446744073709551616) : M / 256 ^ bytesN M = 0 := by
  have h3 := bytes_lt M (bytesN M) hM (Nat.le_refl _)
  exact Nat.eq_zero_of_not_pos (fun h => by have := h3.1 h; omega)

set_option maxRecDepth 100000 in
theorem or_dig (q d : Nat) (hq : q * 256 + d < 18446744073709551616) (hd : d < 256) : bits .or .u64 ((q : Int) * 256) (d : Int) = ((q * 256 + d : Nat) : Int) := by
  have h1 := u64_or_nat (q * 256) d (by omega) (by omega)
  have h2 : q <<< 8 + d = q <<< 8 ||| d := Nat.shiftLeft_add_eq_or_of_lt (by omega) q
  rw [Nat.shiftLeft_eq] at h2
  rw [show (2 : Nat) ^ 8 = 256 from rfl] at h2
  rw [← h2] at h1
  rw [← h1]
  rfl

theorem xor_255b (d : Nat) (h : d < 256) : bits .xor .u8 (255 - (d : Int)) 255 = d := by
  have := xor_255 (255 - d) (by omega)
  rw [show ((255 - d : Nat) : Int) = 255 - (d : Int) by omega] at this
  rw [this]; omega
theorem xor_u64maxb (M : Nat) (h : M < 18446744073709551616) : bits .xor .u64 IntKind.u64.max (M : Int) = 18446744073709551615 - M := by
  have := xor_u64max (18446744073709551615 - M) (by omega)
  rw [show (18446744073709551615 - ((18446744073709551615 - M : Nat) : Int)) = M by omega] at this
  rw [this]; omega

set_option maxRecDepth 100000 in
set_option maxHeartbeats 1000000 in
theorem getint_pos (M : Nat) (hM : M < 9223372036854775808) (rest : List Int) (v : Value) (S : Nat → Prop) (w : World) (hu : BytesV S w v (encI M ++ rest)) :
    Calls Try.prog 27 #[v] w fun e w' => e = .returned (.tuple #[.int .i64 M, .int .i64 ((bytesN M + 1 : Nat) : Int), .int .i64 0]) ∧ w = w' := by
  have hmag : magN (M : Int) = M := by unfold magN; rw [if_neg (by omega)]; simp
  have hfl : ∀ d, flipI (M : Int) d = d := fun d => by unfold flipI; rw [if_neg (by omega)]
  have hlen : (encI M ++ rest).length = bytesN M + 1 + rest.length := by rw [List.length_append, encI_len, hmag]
  obtain ⟨a, cap, rfl, hok, hcap, hmax⟩ := hu.form
  obtain ⟨b, o, rfl⟩ := hok (by omega)
  obtain ⟨u0, hc0, hb0, hu0⟩ := hu.at (j := 0) (by omega)
  rw [encI_head, hfl, hmag] at hu0
  have hcells : ∀ j, j < bytesN M → w.cell? ⟨b, o + (1 + j), none⟩ = some (.int .u8 ((M / 256 ^ (bytesN M - 1 - j) % 256 : Nat) : Int)) := by
    intro j hj
    obtain ⟨u, hc, _, hu1⟩ := hu.at (j := 1 + j) (by omega)
    have e := encI_at M rest j (by rw [hmag]; exact hj)
    rw [hfl] at e
    simp only [hmag] at e
    rw [e] at hu1
    rw [← hu1]
    exact hc
  have htop := fun h => top_ne M (by omega) h
  have h8 := bytesN_le M
  have hz := div_all M (by omega)
  rw [hlen] at hcap ⊢
  simp only [slb_some, slo_some, Nat.add_zero] at hc0 hb0
  subst hu0
  clear hok hu hlen hmag hfl
  have HC := hid hcells
  have HT := hid htop
  have HZ := hid hz
  clear hcells htop hz
  generalize hK : bytesN M = K at *
  generalize rest.length = r at *
  have HK := hid hK
  clear hK
  have hx : bits .xor .u8 (128 + (K : Int)) 0 = 128 + K := by have := xor_0 (128 + K) (by omega); simpa using this
  have d0 : decide ((128 : Int) + K < 128) = false := decide_eq_false (by omega)
  have d1 : ((K : Int) + 1 + r == 0) = false := beqF (by omega)
  have h128 : (128 + (K : Int) - 128) = K := by omega
  rcases Nat.eq_zero_or_pos K with hK0 | hK0
  · have d3 : decide ((0 : Int) < K) = false := decide_eq_false (by omega)
    have hM0 : M = 0 := by have h := HZ.out; rw [hK0] at h; simpa using h
    have d63 : decide ((0 : Int) < (M : Int) / 9223372036854775808) = false := decide_eq_false (by omega)
    have HM0 := hid hM0
    have h8' : (K : Int) ≤ 8 := by omega
    have hkr : (K : Int) < K + 1 + r := by omega
    have hcap2 : cap = 1 ∨ 1 < cap := by omega
    have HK0 := hid hK0
    have hKi : (K : Int) ≤ 0 := by omega
    clear hM0 hK0 HT HC HZ
    rcases hcap2 with hc | hc
    · subst hc
      go_enter Try.func27, Try.ntmps27
      go_wp2
      go_loopw [7, 48] (fun m i wr => i = .int .i64 0 ∧ m = .int .u64 0 ∧ wr = w) (fun _ i _ => 0)
      case atStart => exact ⟨rfl, rfl, rfl⟩
      case round =>
        obtain ⟨rfl, rfl, rfl⟩ := hrel
        go_wp2
        go_ret3
        exact ⟨by rw [HM0.out]; rfl, rfl⟩
    · have hcc : (1 : Int) < cap := by omega
      go_enter Try.func27, Try.ntmps27
      go_wp2
      go_loopw [7, 48] (fun m i wr => i = .int .i64 0 ∧ m = .int .u64 0 ∧ wr = w) (fun _ i _ => 0)
      case atStart => exact ⟨rfl, rfl, rfl⟩
      case round =>
        obtain ⟨rfl, rfl, rfl⟩ := hrel
        go_wp2
        go_ret3
        exact ⟨by rw [HM0.out]; rfl, rfl⟩
  · have hc1 := HC.out 0 hK0
    have hne := HT.out hK0
    rw [Nat.sub_zero] at hc1
    have hlt := dig_lt M (K - 1)
    generalize M / 256 ^ (K - 1) % 256 = dt at *
    have hx1 := xor_0 dt hlt
    have hx2 : ((dt : Int) == 0) = false := beqF (by omega)
    have hki : (0 : Int) < K := by omega
    have hcc : (1 : Int) < cap := by omega
    clear hne HT
    go_enter Try.func27, Try.ntmps27
    go_wp2
    go_loopw [7, 48] (fun m i wr => ∃ j : Nat, j ≤ K ∧ i = .int .i64 j ∧ (∃ q : Nat, Hid (q = M / 256 ^ (K - j)) ∧ q ≤ M ∧ m = .int .u64 q) ∧ wr = w) (fun _ i _ => K - (intOf i).toNat)
    case atStart => exact ⟨0, by omega, rfl, ⟨0, hid HZ.out.symm, by omega, rfl⟩, rfl⟩
    case round =>
      obtain ⟨j, hj, rfl, ⟨q, hq, hqM, rfl⟩, rfl⟩ := hrel
      by_cases hlt2 : j < K
      · have hc2 := HC.out j hlt2
        rw [show o + (1 + j) = o + 1 + j by omega] at hc2
        have hj0 : (0 : Int) ≤ j := by omega
        have hj1 : (j : Int) < K := by omega
        have hsd : M / 256 ^ (K - 1 - j) / 256 = M / 256 ^ (K - j) := by rw [div_step]; congr 2; omega
        have hdd := dig_lt M (K - 1 - j)
        have hle : M / 256 ^ (K - 1 - j) ≤ M := Nat.div_le_self _ _
        have HJ : Hid (K - (j + 1) = K - 1 - j) := hid (by omega)
        have hqe := hq.out
        rw [← hsd] at hqe
        have hq2 : q * 256 + M / 256 ^ (K - 1 - j) % 256 = M / 256 ^ (K - 1 - j) := by omega
        have HQ := hid (show M / 256 ^ (K - 1 - j) = M / 256 ^ (K - (j + 1)) by rw [HJ.out])
        clear hqe hsd
        generalize M / 256 ^ (K - 1 - j) = X at *
        generalize X % 256 = d at *
        have hx3 := xor_0 d hdd
        go_wp2
        go_roundw
        case rel => exact ⟨j + 1, by omega, by go_num, ⟨X, HQ, hle, by rw [or_dig q d (by omega) hdd, hq2]⟩, trivial⟩
        case measure => simp [intOf]; omega
      · obtain rfl : j = K := by omega
        have hqm : q = M := by have h := hq.out; rw [Nat.sub_self, Nat.pow_zero, Nat.div_one] at h; exact h
        subst hqm
        have d63 : decide ((0 : Int) < (q : Int) / 9223372036854775808) = false := decide_eq_false (by omega)
        clear hq HC HZ hc1 hc0 hx hx1 hx2
        go_wp2
        go_ret3
        exact ⟨rfl, rfl⟩

set_option maxRecDepth 100000 in
set_option maxHeartbeats 1000000 in
theorem getint_neg (M : Nat) (hM : M < 9223372036854775808) (rest : List Int) (v : Value) (S : Nat → Prop) (w : World) (hu : BytesV S w v (encI (-1 - M) ++ rest)) :
    Calls Try.prog 27 #[v] w fun e w' => e = .returned (.tuple #[.int .i64 (-1 - M), .int .i64 ((bytesN M + 1 : Nat) : Int), .int .i64 0]) ∧ w = w' := by
  have hmag : magN (-1 - M : Int) = M := by unfold magN; rw [if_pos (by omega)]; omega
  have hfl : ∀ d, flipI (-1 - M : Int) d = 255 - d := fun d => by unfold flipI; rw [if_pos (by omega)]
  have hlen : (encI (-1 - M) ++ rest).length = bytesN M + 1 + rest.length := by rw [List.length_append, encI_len, hmag]
  obtain ⟨a, cap, rfl, hok, hcap, hmax⟩ := hu.form
  obtain ⟨b, o, rfl⟩ := hok (by omega)
  obtain ⟨u0, hc0, hb0, hu0⟩ := hu.at (j := 0) (by omega)
  rw [encI_head, hfl, hmag] at hu0
  have hcells : ∀ j, j < bytesN M → w.cell? ⟨b, o + (1 + j), none⟩ = some (.int .u8 (255 - ((M / 256 ^ (bytesN M - 1 - j) % 256 : Nat) : Int))) := by
    intro j hj
    obtain ⟨u, hc, _, hu1⟩ := hu.at (j := 1 + j) (by omega)
    have e := encI_at (-1 - M) rest j (by rw [hmag]; exact hj)
    rw [hfl] at e
    simp only [hmag] at e
    rw [e] at hu1
    rw [← hu1]
    exact hc
  have htop := fun h => top_ne M (by omega) h
  have h8 := bytesN_le M
  have hz := div_all M (by omega)
  rw [hlen] at hcap ⊢
  simp only [slb_some, slo_some, Nat.add_zero] at hc0 hb0
  subst hu0
  clear hok hu hlen hmag hfl
  have HC := hid hcells
  have HT := hid htop
  have HZ := hid hz
  clear hcells htop hz
  generalize hK : bytesN M = K at *
  generalize rest.length = r at *
  have HK := hid hK
  clear hK
  have hx : bits .xor .u8 (255 - (128 + (K : Int))) 255 = 128 + K := xor_255b (128 + K) (by omega)
  have d0 : decide (255 - ((128 : Int) + K) < 128) = true := decide_eq_true (by omega)
  have d1 : ((K : Int) + 1 + r == 0) = false := beqF (by omega)
  have h128 : (128 + (K : Int) - 128) = K := by omega
  rcases Nat.eq_zero_or_pos K with hK0 | hK0
  · have d3 : decide ((0 : Int) < K) = false := decide_eq_false (by omega)
    have hM0 : M = 0 := by have h := HZ.out; rw [hK0] at h; simpa using h
    have hxm : bits .xor .u64 IntKind.u64.max (0 : Int) = 18446744073709551615 := xor_u64maxb 0 (by omega)
    have hwm : wrap64 (18446744073709551615 : Int) = -1 := by unfold wrap64; omega
    have HM0 := hid hM0
    have h8' : (K : Int) ≤ 8 := by omega
    have hkr : (K : Int) < K + 1 + r := by omega
    have hcap2 : cap = 1 ∨ 1 < cap := by omega
    have HK0 := hid hK0
    have hKi : (K : Int) ≤ 0 := by omega
    clear hM0 hK0 HT HC HZ
    rcases hcap2 with hc | hc
    · subst hc
      go_enter Try.func27, Try.ntmps27
      go_wp2
      go_loopw [7, 48] (fun m i wr => i = .int .i64 0 ∧ m = .int .u64 0 ∧ wr = w) (fun _ i _ => 0)
      case atStart => exact ⟨rfl, rfl, rfl⟩
      case round =>
        obtain ⟨rfl, rfl, rfl⟩ := hrel
        go_wp2
        go_ret3
        exact ⟨by rw [HM0.out]; rfl, rfl⟩
    · have hcc : (1 : Int) < cap := by omega
      go_enter Try.func27, Try.ntmps27
      go_wp2
      go_loopw [7, 48] (fun m i wr => i = .int .i64 0 ∧ m = .int .u64 0 ∧ wr = w) (fun _ i _ => 0)
      case atStart => exact ⟨rfl, rfl, rfl⟩
      case round =>
        obtain ⟨rfl, rfl, rfl⟩ := hrel
        go_wp2
        go_ret3
        exact ⟨by rw [HM0.out]; rfl, rfl⟩
  · have hc1 := HC.out 0 hK0
    have hne := HT.out hK0
    rw [Nat.sub_zero] at hc1
    have hlt := dig_lt M (K - 1)
    generalize M / 256 ^ (K - 1) % 256 = dt at *
    have hx1 := xor_255b dt hlt
    have hx2 : ((dt : Int) == 0) = false := beqF (by omega)
    have hki : (0 : Int) < K := by omega
    have hcc : (1 : Int) < cap := by omega
    clear hne HT
    go_enter Try.func27, Try.ntmps27
    go_wp2
    go_loopw [7, 48] (fun m i wr => ∃ j : Nat, j ≤ K ∧ i = .int .i64 j ∧ (∃ q : Nat, Hid (q = M / 256 ^ (K - j)) ∧ q ≤ M ∧ m = .int .u64 q) ∧ wr = w) (fun _ i _ => K - (intOf i).toNat)
    case atStart => exact ⟨0, by omega, rfl, ⟨0, hid HZ.out.symm, by omega, rfl⟩, rfl⟩
    case round =>
      obtain ⟨j, hj, rfl, ⟨q, hq, hqM, rfl⟩, rfl⟩ := hrel
      by_cases hlt2 : j < K
      · have hc2 := HC.out j hlt2
        rw [show o + (1 + j) = o + 1 + j by omega] at hc2
        have hj0 : (0 : Int) ≤ j := by omega
        have hj1 : (j : Int) < K := by omega
        have hsd : M / 256 ^ (K - 1 - j) / 256 = M / 256 ^ (K - j) := by rw [div_step]; congr 2; omega
        have hdd := dig_lt M (K - 1 - j)
        have hle : M / 256 ^ (K - 1 - j) ≤ M := Nat.div_le_self _ _
        have HJ : Hid (K - (j + 1) = K - 1 - j) := hid (by omega)
        have hqe := hq.out
        rw [← hsd] at hqe
        have hq2 : q * 256 + M / 256 ^ (K - 1 - j) % 256 = M / 256 ^ (K - 1 - j) := by omega
        have HQ := hid (show M / 256 ^ (K - 1 - j) = M / 256 ^ (K - (j + 1)) by rw [HJ.out])
        clear hqe hsd
        generalize M / 256 ^ (K - 1 - j) = X at *
        generalize X % 256 = d at *
        have hx3 := xor_255b d hdd
        go_wp2
        go_roundw
        case rel => exact ⟨j + 1, by omega, by go_num, ⟨X, HQ, hle, by rw [or_dig q d (by omega) hdd, hq2]⟩, trivial⟩
        case measure => simp [intOf]; omega
      · obtain rfl : j = K := by omega
        have hqm : q = M := by have h := hq.out; rw [Nat.sub_self, Nat.pow_zero, Nat.div_one] at h; exact h
        subst hqm
        have d63 : decide ((0 : Int) < (q : Int) / 9223372036854775808) = false := decide_eq_false (by omega)
        have hxm : bits .xor .u64 IntKind.u64.max (q : Int) = 18446744073709551615 - q := xor_u64maxb q (by omega)
        have hwm : wrap64 (18446744073709551615 - (q : Int)) = -1 - q := by unfold wrap64; omega
        clear hq HC HZ hc1 hc0 hx hx1 hx2
        go_wp2
        go_ret3
        exact ⟨rfl, rfl⟩

theorem getint_any (n : Int) (h1 : -9223372036854775808 ≤ n) (h2 : n ≤ 9223372036854775807) (rest : List Int) (v : Value) (S : Nat → Prop) (w : World) (hu : BytesV S w v (encI n ++ rest)) :
    Calls Try.prog 27 #[v] w fun e w' => e = .returned (.tuple #[.int .i64 n, .int .i64 ((encI n).length : Nat), .int .i64 0]) ∧ w = w' := by
  rw [encI_len]
  by_cases hn : n < 0
  · obtain ⟨M, rfl⟩ : ∃ M : Nat, n = -1 - M := ⟨(-1 - n).toNat, by omega⟩
    have hmag : magN (-1 - M : Int) = M := by unfold magN; rw [if_pos (by omega)]; omega
    rw [hmag]
    exact getint_neg M (by omega) rest v S w hu
  · obtain ⟨M, rfl⟩ := Int.eq_ofNat_of_zero_le (show 0 ≤ n by omega)
    have hmag : magN (M : Int) = M := by unfold magN; rw [if_neg (by omega)]; simp
    rw [hmag]
    exact getint_pos M (by omega) rest v S w hu

end Go.Proofs.Ytagnjhhbbjbhcaa
