/- Lists of numbers as bytes: appends of bytes, Ints, Same, slices.Concat and slices.Grow at bytes. -/
import Derived.Test.YtagnjhhbbjbhcaaRInt
import Derived.Lib.AppendZeros
namespace Go.Proofs.Ytagnjhhbbjbhcaa
open Go.RowKit

theorem ownB_us {B : Nat} {w : World} {v : Value} {xs : List Int} (h : OwnB B w v xs) : w.ownsRow B 5 1 v xs.length (xs.map (Value.int .u8)) := by
  obtain ⟨us, h1, h2, h3⟩ := h
  have : us = xs.map (Value.int .u8) := List.ext_getElem (by simp [h2]) (fun i g1 g2 => by simpa using h3 i g1 (by simpa using g2))
  rw [← this]
  exact h1
theorem ownB_of {B : Nat} {w : World} {v : Value} {xs : List Int} (h : w.ownsRow B 5 1 v xs.length (xs.map (Value.int .u8))) : OwnB B w v xs :=
  ⟨_, h, by simp, fun j g1 g2 => by simp⟩

section
variable {P : Program} {t : TypeId} {bytes : Nat} {w : World} {ops : Array Oper} {rest : List Oper} {o : Oper} {a : Act} {Q : Exit → Act → World → Prop}

/-- 'append(s, x...)' of bytes. -/
theorem wpList_appB (hgd : o.guard = none) (s x : Operand)
    (ho : o.op = .call { callee := .builtin .append, args := #[s, x], argTypes := #[t, t] }) (hT : AppT P t 5 1 bytes)
    {B : Nat} {v : Value} {xs : List Int} (hs : a.eval s = v) (hown : OwnB B w v xs)
    {ao : Option Addr} {m c : Nat} (hx : a.eval x = .slice ao m c) {T : Nat → Prop} {ys : List Int} (hy : BytesV T w (.slice ao m c) ys)
    (hsmall : xs.length + ys.length ≤ 1000000000) (hbase : B ≤ w.heap.size) {B0 : Nat} {w0 : World} (hb : Below B0 w0 w) (hB : B0 ≤ B)
    (h : ∀ v' w', OwnB B w' v' (xs ++ ys) → Below B0 w0 w' → wpList P ops Q rest (a.put o.dst v') w') :
    wpList P ops Q (o :: rest) a w := by
  obtain ⟨rfl, hok, us, l1, l2, l3⟩ := SlV.news hy
  have hus : us = ys.map (Value.int .u8) := by
    refine List.ext_getElem (by simp [l1]) (fun i g1 g2 => ?_)
    simpa using l3 i g1 (by simpa using g2)
  have ho1 := ownB_us hown
  refine wpList_app hgd s x ho hT hs ho1 ao ys.length c hx hok us (by simpa using l1) l2 ?_ hsmall hbase (fun v' w' g1 g2 g3 => h v' w' ?_ ?_)
  · rw [hus]; intro u hu; obtain ⟨y, _, rfl⟩ := List.mem_map.1 hu; rfl
  · refine ownB_of ?_
    rw [List.length_append, List.map_append, ← hus]; exact g1
  · exact hb.grown g2 (by omega) (fun k hk => by have := (ho1.lt k hk).1; omega)
end

theorem ownB_below {B : Nat} {w w' : World} {v : Value} {xs : List Int} (h : OwnB B w v xs) (hb : Below w.heap.size w w') : OwnB B w' v xs := OwnV.below steady_byte h hb
theorem ownB_mono {B B' : Nat} {w : World} {v : Value} {xs : List Int} (h : OwnB B w v xs) (hB : B' ≤ B) : OwnB B' w v xs := OwnV.mono_base steady_byte h hB
theorem ownB_sl {B : Nat} {w : World} {v : Value} {xs : List Int} (h : OwnB B w v xs) : BytesV AnyB w v xs := BytesV.mono (OwnV.sl steady_byte h) (fun _ _ _ => trivial)

theorem encL_snoc (xs : List Int) (k : Nat) (h : k < xs.length) : (encI xs.length ++ (xs.take k).flatMap encI) ++ encI xs[k] = encI xs.length ++ (xs.take (k + 1)).flatMap encI := by
  rw [← take_snoc h, List.flatMap_append]
  simp

set_option maxHeartbeats 1000000 in
theorem wints_any (xs : List Int) (hf : Fit xs) (hl : xs.length ≤ 100000) (u : Value) (S : Nat → Prop) (w : World) (hu : IntsV S w u xs) :
    Calls Try.prog 45 #[u] w fun e w' => ∃ v, e = .returned v ∧ OwnB w.heap.size w' v (encL xs) ∧ Below w.heap.size w w' := by
  have hu0 := hu
  obtain ⟨a, cap, rfl, hok, hcap, hmax⟩ := hu.form
  clear hu
  go_enter Try.func45, Try.ntmps45
  go_wp2_with fail
  refine (wint_any xs.length (by omega) (by omega) w).mono ?_
  rintro e w1 ⟨v1, rfl, hown, hb⟩
  have HE : Hid (encI xs.length = encI xs.length ++ (xs.take 0).flatMap encI) := hid (by simp)
  rw [HE.out] at hown
  have HO := hid hown
  have HB := hid hb
  clear hown hb HE
  go_wp2
  go_loopw [3, 11] (fun v i wr => ∃ k : Nat, k ≤ xs.length ∧ i = .int .i64 k ∧ OwnB w.heap.size wr v (encI xs.length ++ (xs.take k).flatMap encI) ∧ Below w.heap.size w wr) (fun _ i _ => xs.length - (intOf i).toNat)
  case atStart => exact ⟨0, by omega, rfl, HO.out, HB.out⟩
  case round =>
    obtain ⟨k, hk, rfl, hown, hb⟩ := hrel
    by_cases hlt : k < xs.length
    · have hu1 : IntsV S wr (.slice a xs.length cap) xs := hu0.keep (KeepS.below hb)
      obtain ⟨c, hc, hbk, rfl⟩ := hu1.at hlt
      have HS := hid (encL_snoc xs k hlt)
      have hfx := hf _ (List.getElem_mem hlt)
      have hlen : (encI xs.length ++ (xs.take k).flatMap encI).length ≤ 1000000 := by
        have h1 := encI_len9 xs.length
        have h2 := flat_len encI 9 (xs.take k) (fun x _ => encI_len9 x)
        have h3 : (xs.take k).length ≤ 100000 := by simp; omega
        rw [List.length_append]; omega
      generalize encI xs.length ++ (xs.take k).flatMap encI = es at *
      generalize xs[k] = x at *
      have hk0 : (0 : Int) ≤ k := by omega
      have hk1 : (k : Int) < xs.length := by omega
      have h9 := encI_len9 x
      clear hu1
      go_wp2_with fail
      refine (wint_any x hfx.1 hfx.2 _).mono ?_
      rintro e w2 ⟨v2, rfl, hown2, hb2⟩
      have hsz := hb.size
      have hown' := ownB_below hown hb2
      have hb' := hb.trans (hb2.mono hsz)
      have hy := ownB_sl hown2
      obtain ⟨a2, c2, rfl, hok2, hcap2, hmax2⟩ := hy.form
      clear hown hown2 hb hb2 hc
      go_wp2_with (at_builtin; go_must (refine wpList_appB rfl _ _ rfl Try.appB rfl hown' rfl hy (by omega) hb'.size hb' (Nat.le_refl _) ?_))
      intro v' w3 hown3 hb3
      rw [HS.out] at hown3
      clear hown' hb' hy HS
      go_wp2
      go_roundw
      case rel => exact ⟨k + 1, by omega, by go_num, hown3, hb3⟩
      case measure => simp [intOf]; omega
    · obtain rfl : k = xs.length := by omega
      rw [List.take_length] at hown
      have HO2 := hid hown
      clear hown
      go_wp2
      go_ret
      exact ⟨_, rfl, HO2.out, hb⟩

set_option maxHeartbeats 1000000 in
theorem rints_any (xs : List Int) (hf : Fit xs) (hl : xs.length ≤ 100000) (u : Value) (S : Nat → Prop) (w : World) (hu : IntsV S w u xs) :
    Calls Try.prog 47 #[u] w fun e w' => ∃ v, e = .returned v ∧ OwnB w.heap.size w' v (encL xs) ∧ Below w.heap.size w w' := by
  have hu0 := hu
  obtain ⟨a, cap, rfl, hok, hcap, hmax⟩ := hu.form
  clear hu
  go_enter Try.func47, Try.ntmps47
  go_wp2_with fail
  refine (rint_any xs.length (by omega) (by omega) w).mono ?_
  rintro e w1 ⟨v1, rfl, hown, hb⟩
  have HE : Hid (encI xs.length = encI xs.length ++ (xs.take 0).flatMap encI) := hid (by simp)
  rw [HE.out] at hown
  have HO := hid hown
  have HB := hid hb
  clear hown hb HE
  go_wp2
  go_loopw [3, 4] (fun v i wr => ∃ k : Nat, k ≤ xs.length ∧ i = .int .i64 k ∧ OwnB w.heap.size wr v (encI xs.length ++ (xs.take k).flatMap encI) ∧ Below w.heap.size w wr) (fun _ i _ => xs.length - (intOf i).toNat)
  case atStart => exact ⟨0, by omega, rfl, HO.out, HB.out⟩
  case round =>
    obtain ⟨k, hk, rfl, hown, hb⟩ := hrel
    by_cases hlt : k < xs.length
    · have hu1 : IntsV S wr (.slice a xs.length cap) xs := hu0.keep (KeepS.below hb)
      obtain ⟨c, hc, hbk, rfl⟩ := hu1.at hlt
      have HS := hid (encL_snoc xs k hlt)
      have hfx := hf _ (List.getElem_mem hlt)
      have hlen : (encI xs.length ++ (xs.take k).flatMap encI).length ≤ 1000000 := by
        have h1 := encI_len9 xs.length
        have h2 := flat_len encI 9 (xs.take k) (fun x _ => encI_len9 x)
        have h3 : (xs.take k).length ≤ 100000 := by simp; omega
        rw [List.length_append]; omega
      generalize encI xs.length ++ (xs.take k).flatMap encI = es at *
      generalize xs[k] = x at *
      have hk0 : (0 : Int) ≤ k := by omega
      have hk1 : (k : Int) < xs.length := by omega
      have h9 := encI_len9 x
      clear hu1
      go_wp2_with fail
      refine (rint_any x hfx.1 hfx.2 _).mono ?_
      rintro e w2 ⟨v2, rfl, hown2, hb2⟩
      have hsz := hb.size
      have hown' := ownB_below hown hb2
      have hb' := hb.trans (hb2.mono hsz)
      have hy := ownB_sl hown2
      obtain ⟨a2, c2, rfl, hok2, hcap2, hmax2⟩ := hy.form
      clear hown hown2 hb hb2 hc
      go_wp2_with (at_builtin; go_must (refine wpList_appB rfl _ _ rfl Try.appB rfl hown' rfl hy (by omega) hb'.size hb' (Nat.le_refl _) ?_))
      intro v' w3 hown3 hb3
      rw [HS.out] at hown3
      clear hown' hb' hy HS
      go_wp2
      go_roundw
      case rel => exact ⟨k + 1, by omega, by go_num, hown3, hb3⟩
      case measure => simp [intOf]; omega
    · obtain rfl : k = xs.length := by omega
      rw [List.take_length] at hown
      have HO2 := hid hown
      clear hown
      go_wp2
      go_ret
      exact ⟨_, rfl, HO2.out, hb⟩

set_option maxHeartbeats 400000 in
theorem sameB_any (xs ys : List Int) (u v : Value) (S T : Nat → Prop) (w : World) (hu : BytesV S w u xs) (hv : BytesV T w v ys) :
    Calls Try.prog 24 #[u, v] w fun e w' => e = .returned (.bool (decide (xs = ys))) ∧ ∃ n, w' = w.drewN n := by
  obtain ⟨a, cap, rfl, hok, hcap, hmax, hS, hcell⟩ := hu
  obtain ⟨a', cap', rfl, hok', hcap', hmax', hS', hcell'⟩ := hv
  clear hS hS'
  unfold maxLen at hmax hmax'
  by_cases hl : xs.length = ys.length
  · have hl2 : ((xs.length : Int) != (ys.length : Int)) = false := by simp [hl]
    have hl3 : xs.length ≤ ys.length := by omega
    have HL := hid hl
    clear hl
    go_enter Try.func24, Try.ntmps24
    go_wp2
    go_loopw [5] (fun i wr => ∃ k : Nat, k ≤ xs.length ∧ i = .int .i64 k ∧ Hid (xs.take k = ys.take k) ∧ ∃ n, wr = w.drewN n) (fun i _ => xs.length - (intOf i).toNat)
    case atStart => exact ⟨0, Nat.zero_le _, rfl, hid rfl, 0, rfl⟩
    case round =>
      obtain ⟨k, hk, rfl, hpre, n, rfl⟩ := hrel
      by_cases hlt : k < xs.length
      · obtain ⟨x, hx, hx2⟩ := hcell k hlt
        obtain ⟨y, hy, hy2⟩ := hcell' k (by omega)
        obtain ⟨x0, hx0⟩ : ∃ x0, x0 = xs[k] := ⟨_, rfl⟩
        obtain ⟨y0, hy0⟩ : ∃ y0, y0 = ys[k] := ⟨_, rfl⟩
        rw [← hx0] at hx2
        rw [← hy0] at hy2
        subst hx2; subst hy2
        have hk0 : (0 : Int) ≤ (k : Int) := by omega
        have hk1 : (k : Int) < (xs.length : Int) := by omega
        have hk2 : (k : Int) < (ys.length : Int) := by omega
        have HX := hid hx0
        have HY := hid hy0
        clear hx0 hy0
        by_cases hxy : x0 = y0
        · subst hxy
          go_wp2
          go_quiet (fail)
          go_wp2
          go_roundw
          case rel => exact ⟨k + 1, by omega, by go_num, hid (take_eq_succ hlt (by omega) hpre.out (HX.out.symm.trans HY.out)), _, rfl⟩
          case measure => simp [intOf]; omega
        · have hb : (x0 != y0) = true := by simpa using hxy
          have hne : xs ≠ ys := by
            intro e
            subst e
            exact hxy (HX.out.trans HY.out.symm)
          have HN := hid hne
          clear hxy hne
          go_wp2
          go_quiet (fail)
          go_wp2
          go_ret
          exact ⟨ret_bool (decide_eq_false HN.out).symm, by rw [World.drewN_drewN]; exact ⟨_, rfl⟩⟩
      · go_wp2
        go_ret
        exact ⟨ret_bool (decide_eq_true (same_prefix HL.out (by omega) hpre.out)).symm, _, rfl⟩
  · have hl2 : ((xs.length : Int) != (ys.length : Int)) = true := by simpa using (by omega : (xs.length : Int) ≠ ys.length)
    rw [decide_eq_false (fun e => hl (by rw [e]))]
    clear hl
    go_enter Try.func24, Try.ntmps24
    go_wp2
    go_ret
    exact ⟨rfl, 0, rfl⟩

/-- A builtin append whose run is known. -/
theorem wpList_appRun {P : Program} {t tn : TypeId} {w w' : World} {ops : Array Oper} {rest : List Oper} {o : Oper} {a : Act} {Q : Exit → Act → World → Prop} (hgd : o.guard = none) (s x : Operand)
    (ho : o.op = .call { callee := .builtin .append, args := #[s, x], argTypes := #[t, tn] }) {u v r : Value} (hs : a.eval s = u) (hx : a.eval x = v)
    (hr : (Builtin.append_ #[t, tn] o.type #[u, v]).run P w = .ok r w') (h : wpList P ops Q rest (a.put o.dst r) w') : wpList P ops Q (o :: rest) a w := by
  refine wpList_plain hgd fun K hK => ?_
  unfold Oper.wp
  simp [execOp, ho, resolve, invoke, builtin, hs, hx, hr, Result.andThen]
  exact hK _ _ h

set_option maxHeartbeats 400000 in
theorem grow_any (n : Nat) (h0 : 0 < n) (hn : n ≤ 100000000) (w : World) :
    Calls Try.prog 58 #[.slice none 0 0, .int .i64 n] w fun e w' => ∃ v, e = .returned v ∧ OwnB w.heap.size w' v [] ∧ Below w.heap.size w w' := by
  obtain ⟨i, j1, j2, j3, j4⟩ := info_parts (show (Try.prog.info? 5).map (fun i => (i.zero, i.size, i.bytes)) = some (some (.int .u8 0), 1, 1) by kernel_rfl)
  have hr := Lib.run_append_nil_zeros (P := Try.prog) w 53 3 53 5 i _ .i64 .i64 (by kernel_rfl) (by kernel_rfl) j1 j2 n h0 (by omega) (by omega) (by rw [j4]; omega)
  have hge := grownCap_ge w n 0 5
  have hle := grownCap_le_maxLen w n 0 5 (by unfold maxLen; omega)
  have hown : OwnB w.heap.size (w.drew.alloc (.cells (Builtin.zeroCells (Value.int .u8 0).cells n ++ Builtin.zeroCells (Value.int .u8 0).cells (grownCap w n 0 5 - n)) 5)) (.slice (some ⟨w.heap.size, 0, none⟩) 0 (grownCap w n 0 5)) [] := by
    refine ⟨[], ⟨rfl, .inr ⟨w.heap.size, _, _, rfl, Nat.le_refl _, heap_alloc_new w.drew _, by simp, hle, ?_, by simp⟩⟩, rfl, fun j h => absurd h (by simp)⟩
    simp only [Array.size_append, size_zeroCells]
    simp [Value.cells]
    omega
  have hb : Below w.heap.size w (w.drew.alloc (.cells (Builtin.zeroCells (Value.int .u8 0).cells n ++ Builtin.zeroCells (Value.int .u8 0).cells (grownCap w n 0 5 - n)) 5)) := by
    have := (below_drewN (Below.refl w.heap.size w) 1).alloc (Nat.le_refl _) (.cells (Builtin.zeroCells (Value.int .u8 0).cells n ++ Builtin.zeroCells (Value.int .u8 0).cells (grownCap w n 0 5 - n)) 5)
    exact this
  generalize (Builtin.zeroCells (Value.int .u8 0).cells n ++ Builtin.zeroCells (Value.int .u8 0).cells (grownCap w n 0 5 - n)) = cs at *
  generalize grownCap w n 0 5 = c at *
  unfold maxLen at hle
  have HO := hid hown
  have HB := hid hb
  have HR := hid hr
  clear hown hb hr
  have hn0 : (0 : Int) < n := by omega
  go_enter Try.func58, Try.ntmps58
  go_wp2_with (at_builtin; go_must (refine wpList_appRun rfl _ _ rfl rfl rfl HR.out ?_))
  go_wp2
  go_ret
  exact ⟨_, rfl, HO.out, HB.out⟩

theorem flat_snoc {α : Type} (L : List (List α)) (k : Nat) (h : k < L.length) : (L.take k).flatten ++ L[k] = (L.take (k + 1)).flatten := by
  rw [← take_snoc h, List.flatten_append]
  simp
theorem flat_take_le {α : Type} (L : List (List α)) (k : Nat) : (L.take k).flatten.length ≤ L.flatten.length := by
  have h := congrArg (fun l => (List.flatten l).length) (List.take_append_drop k L)
  simp only [List.flatten_append, List.length_append] at h
  omega

/-- The length of the first k lists. -/
def lenTo (L : List (List Int)) (k : Nat) : Nat := (L.take k).flatten.length

set_option maxHeartbeats 1000000 in
theorem concat_any (L : List (List Int)) (hL : L.length ≤ 100) (ht : L.flatten.length ≤ 10000000) (h0 : 0 < L.flatten.length) (u : Value) (S T : Nat → Prop) (w : World) (hu : SlV (BytesV S) T w u L) :
    Calls Try.prog 44 #[u] w fun e w' => ∃ v, e = .returned v ∧ OwnB w.heap.size w' v L.flatten ∧ Below w.heap.size w w' := by
  have hu0 := hu
  obtain ⟨a, cap, rfl, hok, hcap, hmax⟩ := hu.form
  clear hu
  go_enter Try.func44, Try.ntmps44
  go_wp2
  go_loopw [3, 11] (fun v i wr => ∃ k : Nat, k ≤ L.length ∧ i = .int .i64 k ∧ v = .int .i64 (lenTo L k) ∧ wr = w) (fun _ i _ => L.length - (intOf i).toNat)
  case atStart => exact ⟨0, by omega, rfl, rfl, rfl⟩
  case round =>
    obtain ⟨k, hk, rfl, rfl, rfl⟩ := hrel
    have hle : lenTo L k ≤ 10000000 := Nat.le_trans (flat_take_le L k) ht
    by_cases hlt : k < L.length
    · obtain ⟨c, hc, hbk, hy⟩ := hu0.at hlt
      obtain ⟨ac, cc, rfl, -, -, hmaxc⟩ := hy.form
      have hle2 : lenTo L (k + 1) ≤ 10000000 := Nat.le_trans (flat_take_le L (k + 1)) ht
      have hs2 : lenTo L k + L[k].length = lenTo L (k + 1) := by unfold lenTo; rw [← flat_snoc L k hlt, List.length_append]
      have hl2 : L[k].length ≤ 10000000 := by omega
      have HS := hid hs2
      clear hs2
      generalize L[k] = xs at *
      generalize lenTo L k = n1 at *
      have hk0 : (0 : Int) ≤ k := by omega
      have hk1 : (k : Int) < L.length := by omega
      have hn : decide ((n1 : Int) + xs.length < 0) = false := decide_eq_false (by omega)
      go_wp2
      go_roundw
      case rel => exact ⟨k + 1, by omega, by go_num, by rw [← HS.out]; go_num, trivial⟩
      case measure => simp [intOf]; omega
    · obtain rfl : k = L.length := by omega
      have h0' : 0 < lenTo L L.length := by unfold lenTo; rw [List.take_length]; exact h0
      go_wp2_with fail
      refine (grow_any _ h0' (by omega) wr).mono ?_
      rintro e w1 ⟨v1, rfl, hown, hb⟩
      have HO := hid hown
      have HB := hid hb
      clear hown hb
      go_wp2
      go_loopw [6, 27] (fun v i w2 => ∃ k : Nat, k ≤ L.length ∧ i = .int .i64 k ∧ OwnB wr.heap.size w2 v (L.take k).flatten ∧ Below wr.heap.size wr w2) (fun _ i _ => L.length - (intOf i).toNat)
      case atStart => exact ⟨0, by omega, rfl, by simpa using HO.out, HB.out⟩
      case round =>
        obtain ⟨k, hk, rfl, hown, hb⟩ := hrel
        by_cases hlt : k < L.length
        · have hu1 := SlV.keep hu0 (KeepS.below hb) (fun u x h => BytesV.keep h (KeepS.below hb))
          obtain ⟨c, hc, hbk, hy⟩ := hu1.at hlt
          obtain ⟨ac, cc, rfl, -, -, hmaxc⟩ := hy.form
          have HS := hid (flat_snoc L k hlt)
          have hle2 := flat_take_le L (k + 1)
          have hs2 := congrArg List.length (flat_snoc L k hlt)
          rw [List.length_append] at hs2
          generalize L[k] = xs at *
          have hn2 := Nat.le_trans hle2 ht
          generalize (L.take k).flatten = n1 at *
          have hk0 : (0 : Int) ≤ k := by omega
          have hk1 : (k : Int) < L.length := by omega
          have hn1 : n1.length + xs.length ≤ 1000000000 := by omega
          have HY := hid hy
          clear hs2 hu1 hy
          go_wp2_with (at_builtin; go_must (refine wpList_appB rfl _ _ rfl Try.appB rfl hown rfl HY.out hn1 hb.size hb (Nat.le_refl _) ?_))
          intro v' w3 hown3 hb3
          rw [HS.out] at hown3
          clear hown hb HY HS hc
          go_wp2
          go_roundw
          case rel => exact ⟨k + 1, by omega, by go_num, hown3, hb3⟩
          case measure => simp [intOf]; omega
        · obtain rfl : k = L.length := by omega
          rw [List.take_length] at hown
          have HO2 := hid hown
          clear hown
          go_wp2
          go_ret
          exact ⟨_, rfl, HO2.out, hb⟩

end Go.Proofs.Ytagnjhhbbjbhcaa
