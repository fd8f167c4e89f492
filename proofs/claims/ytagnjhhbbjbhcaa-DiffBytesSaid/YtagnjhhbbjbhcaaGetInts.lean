/- wire.count, the reader, GetInts: a list of numbers is read back. -/
import Derived.Test.YtagnjhhbbjbhcaaGetInt
import Derived.Outline
namespace Go.Proofs.Ytagnjhhbbjbhcaa
open Go.RowKit

theorem encL_pos (l : List Int) : l.length ≤ (l.flatMap encI).length := by
  induction l with
  | nil => simp
  | cons x l ih => rw [List.flatMap_cons, List.length_append, List.length_cons]; have := encI_pos x; omega

/-- The rest of a slice. -/
theorem SlV.drop {α : Type} {R : World → Value → α → Prop} {S : Nat → Prop} {w : World} {b o cap : Nat} {xs : List α} (h : SlV R S w (.slice (some ⟨b, o, none⟩) xs.length cap) xs) (k : Nat) (hk : k < xs.length) :
    SlV R S w (.slice (some ⟨b, o + k, none⟩) (xs.length - k) (cap - k)) (xs.drop k) := by
  obtain ⟨a, cap', hv, h1, h2, h3, h4, h5⟩ := h
  cases hv
  refine ⟨some ⟨b, o + k, none⟩, cap - k, by rw [List.length_drop], fun _ => ⟨_, _, rfl⟩, by rw [List.length_drop]; omega, by omega, fun _ => h4 (by omega), fun j hj => ?_⟩
  rw [List.length_drop] at hj
  obtain ⟨u, hu, hr⟩ := h5 (k + j) (by omega)
  refine ⟨u, ?_, by rw [List.getElem_drop]; exact hr⟩
  simp only [slb_some, slo_some] at hu ⊢
  rw [show o + k + j = o + (k + j) by omega]
  exact hu

set_option maxHeartbeats 1000000 in
theorem count_any (n : Nat) (hn : n ≤ 1000000) (rest : List Int) (hr : n ≤ rest.length) (hl : rest.length ≤ 100000000) (v : Value) (S : Nat → Prop) (w : World) (hu : BytesV S w v (encI n ++ rest)) :
    Calls Try.prog 48 #[v, .int .i64 1] w fun e w' => e = .returned (.tuple #[.int .i64 n, .int .i64 ((encI n).length : Nat), .int .i64 0]) ∧ w = w' := by
  have hG := getint_any n (by omega) (by omega) rest v S w hu
  have hlen : (encI n ++ rest).length = (encI n).length + rest.length := by rw [List.length_append]
  obtain ⟨a, cap, rfl, hok, hcap, hmax⟩ := hu.form
  have h9 := encI_len9 n
  rw [hlen] at hcap hG ⊢
  have HG := hid hG
  clear hu hG hlen hok
  generalize (encI n).length = q at *
  generalize rest.length = r at *
  have hd : decide ((r : Int) < (n : Int)) = false := decide_eq_false (by omega)
  have hd2 : decide (r < n) = false := decide_eq_false (by omega)
  go_enter Try.func48, Try.ntmps48
  go_wp2_with fail
  refine HG.out.mono ?_
  rintro e w' ⟨rfl, rfl⟩
  go_wp2
  go_ret3
  exact ⟨rfl, rfl⟩

set_option maxHeartbeats 1000000 in
theorem next_any (n : Int) (h1 : -9223372036854775808 ≤ n) (h2 : n ≤ 9223372036854775807) (pre rest : List Int) (hl : (pre ++ (encI n ++ rest)).length ≤ 100000000) (v : Value) (S : Nat → Prop) (Bb Ba : Nat) (w : World)
    (hb : w.heap[Bb]? = some (.cells #[v] 53 (0, 0))) (ha : w.heap[Ba]? = some (.cells #[.int .i64 (pre.length : Nat)] 3 (0, 0))) (hu : BytesV S w v (pre ++ (encI n ++ rest))) :
    Calls Try.prog 59 #[.pointer (some ⟨Bb, 0, none⟩), .pointer (some ⟨Ba, 0, none⟩)] w fun e w' => e = .returned (.tuple #[.int .i64 n, .int .i64 ((pre ++ encI n).length : Nat), .int .i64 0]) ∧ ∃ m, w' = (w.setCell ⟨Ba, 0, none⟩ (.int .i64 ((pre ++ encI n).length : Nat))).drewN m := by
  obtain ⟨a, cap, rfl, hok, hcap, hmax⟩ := hu.form
  have hp := encI_pos n
  have hlen : (pre ++ (encI n ++ rest)).length = pre.length + ((encI n).length + rest.length) := by simp
  obtain ⟨b, o, rfl⟩ := hok (by omega)
  have hd := SlV.drop hu pre.length (by omega)
  rw [List.drop_left] at hd
  have HD := hid hd
  have HG := fun (v' : Value) (w' : World) => hid (getint_any n h1 h2 rest v' S w')
  have hsz : (pre ++ encI n).length = pre.length + (encI n).length := by simp
  obtain ⟨hbc, hbf⟩ := one_cell hb
  obtain ⟨hac, haf⟩ := one_cell ha
  have h9 := encI_len9 n
  rw [hlen] at hcap hl HD
  rw [Nat.add_sub_cancel_left] at HD
  rw [hsz, Int.natCast_add]
  have hlb : Bb < w.heap.size := (Array.getElem?_eq_some_iff.1 hb).1
  have hla : Ba < w.heap.size := (Array.getElem?_eq_some_iff.1 ha).1
  rw [hlen] at hbc
  clear hd hu hlen hok hb ha hsz
  generalize (encI n).length = q at *
  generalize rest.length = r at *
  generalize pre.length = p at *
  have hpc : p < cap := by omega
  go_enter Try.func59, Try.ntmps59
  go_wp2_with fail
  refine ((HG _ _).out HD.out).mono ?_
  rintro e w' ⟨rfl, rfl⟩
  go_wp2
  go_quiet (fail)
  go_wp2
  go_ret3
  exact ⟨rfl, _, rfl⟩

theorem encL_step (xs : List Int) (k : Nat) (h : k < xs.length) (rest : List Int) :
    encL xs ++ rest = (encI xs.length ++ (xs.take k).flatMap encI) ++ (encI xs[k] ++ ((xs.drop (k + 1)).flatMap encI ++ rest)) := by
  unfold encL
  have e : xs.flatMap encI = (xs.take k).flatMap encI ++ (encI xs[k] ++ (xs.drop (k + 1)).flatMap encI) := by
    have h1 := congrArg (fun l => List.flatMap encI l) (List.take_append_drop k xs)
    simp only [List.flatMap_append] at h1
    rw [← h1, List.drop_eq_getElem_cons h, List.flatMap_cons]
  rw [e]
  simp

theorem one_at {w : World} {b : Nat} {o : Obj} (h : w.heap[b]? = some o) : w.heap[b]? = some o := h

set_option maxHeartbeats 400000 in
theorem reader_any (a : Option Addr) (n cap : Nat) (i : Int) (w : World) :
    Calls Try.prog 49 #[.slice a n cap, .int .i64 i] w fun e w' => e = .returned (.func (.func 59) #[] #[.pointer (some ⟨w.heap.size, 0, none⟩), .pointer (some ⟨w.heap.size + 1, 0, none⟩)]) ∧
      w' = (w.alloc (.cells #[.slice a n cap] 53)).alloc (.cells #[.int .i64 i] 3) := by
  go_enter Try.func49, Try.ntmps49
  go_wp2
  go_ret
  exact ⟨rfl, rfl⟩

/-- Where the number k of a list begins. -/
def atK (xs : List Int) (k : Nat) : Nat := (encI xs.length ++ (xs.take k).flatMap encI).length
theorem atK_zero (xs : List Int) : (encI xs.length).length = atK xs 0 := by simp [atK]
theorem atK_all (xs : List Int) : atK xs xs.length = (encL xs).length := by unfold atK encL; rw [List.take_length]
theorem atK_le (xs : List Int) (k : Nat) : atK xs k ≤ (encL xs).length := by
  unfold atK encL
  have h1 := congrArg (fun l => (List.flatMap encI l).length) (List.take_append_drop k xs)
  simp only [List.flatMap_append, List.length_append] at h1 ⊢
  omega

set_option maxRecDepth 100000 in
set_option maxHeartbeats 2000000 in
theorem getints_any (xs : List Int) (hf : Fit xs) (hx : xs.length ≤ 100000) (rest : List Int) (hl : (encL xs ++ rest).length ≤ 10000000) (v : Value) (S : Nat → Prop) (w : World) (hu : BytesV S w v (encL xs ++ rest)) :
    Calls Try.prog 28 #[v] w fun e w' => ∃ x, e = .returned (.tuple #[x, .int .i64 ((encL xs).length : Nat), .int .i64 0]) ∧ IntsV AnyB w' x xs ∧ Below w.heap.size w w' := by
  have hu0 : BytesV (fun b => b < w.heap.size) w v (encL xs ++ rest) := BytesV.mono hu (fun b hb _ => hb)
  have hu1 : BytesV S w v (encI xs.length ++ (xs.flatMap encI ++ rest)) := by have h := hu; unfold encL at h; rw [List.append_assoc] at h; exact h
  have hge := encL_pos xs
  have hC := count_any xs.length (by omega) (xs.flatMap encI ++ rest) (by rw [List.length_append]; omega) (by have h := hl; unfold encL at h; simp at h ⊢; omega) v S w hu1
  rw [atK_zero] at hC
  have HC := hid hC
  have HL := hid hl
  have HAL := hid (atK_all xs)
  have hle := fun k => Nat.le_trans (atK_le xs k) (show (encL xs).length ≤ 10000000 by rw [List.length_append] at hl; omega)
  have HLE := hid hle
  obtain ⟨a, cap, rfl, hok, hcap, hmax⟩ := hu.form
  clear hu hu1 hC hge hok hl hle
  rw [← HAL.out]
  generalize hN : (encL xs ++ rest).length = N at *
  have HN := hid hN
  clear hN
  go_enter Try.func28, Try.ntmps28
  go_wp2_with fail
  refine HC.out.mono ?_
  rintro e w' ⟨rfl, rfl⟩
  go_wp2_with fail
  refine (reader_any a N cap (atK xs 0) w).mono ?_
  rintro e w' ⟨rfl, rfl⟩
  have hB0 := one_at (w := (w.alloc (.cells #[.slice a N cap] 53)).alloc (.cells #[.int .i64 (atK xs 0 : Nat)] 3)) (b := w.heap.size) (o := .cells #[.slice a N cap] 53 (0, 0)) (heap_step _ (heap_new _ _ rfl))
  have hA0 := one_at (w := (w.alloc (.cells #[.slice a N cap] 53)).alloc (.cells #[.int .i64 (atK xs 0 : Nat)] 3)) (b := w.heap.size + 1) (o := .cells #[.int .i64 (atK xs 0 : Nat)] 3 (0, 0)) (heap_new _ _ (by simp))
  have hb0 : Below w.heap.size w ((w.alloc (.cells #[.slice a N cap] 53)).alloc (.cells #[.int .i64 (atK xs 0 : Nat)] 3)) := ((Below.refl _ _).alloc (Nat.le_refl _) _).alloc (by simp) _
  have hsz0 : w.heap.size + 2 = ((w.alloc (.cells #[.slice a N cap] 53)).alloc (.cells #[.int .i64 (atK xs 0 : Nat)] 3)).heap.size := by simp
  generalize hW : (w.alloc (.cells #[.slice a N cap] 53)).alloc (.cells #[.int .i64 (atK xs 0 : Nat)] 3) = W at *
  clear hW
  have HB0 := hid hB0
  have HA0 := hid hA0
  have HBl := hid hb0
  have HSZ := hid hsz0
  have hszW : w.heap.size + 2 ≤ W.heap.size := by omega
  clear hB0 hA0 hb0 hsz0
  go_wp2
  go_loopw [6, 9, 26] (fun p v i wr => ∃ k : Nat, k ≤ xs.length ∧ i = .int .i64 k ∧ p = .int .i64 (atK xs k : Nat) ∧ OwnV (fun _ _ u (x : Int) => u = .int .i64 x) W.heap.size 3 wr v (xs.take k) ∧ Hid (wr.heap[w.heap.size]? = some (.cells #[.slice a N cap] 53 (0, 0))) ∧ Hid (wr.heap[w.heap.size + 1]? = some (.cells #[.int .i64 (atK xs k : Nat)] 3 (0, 0))) ∧ W.heap.size ≤ wr.heap.size ∧ Below w.heap.size w wr) (fun _ _ i _ => xs.length - (intOf i).toNat)
  case atStart => exact ⟨0, by omega, rfl, rfl, by simpa using OwnV.nil _ _ _ _, HB0, HA0, Nat.le_refl _, HBl.out⟩
  case round =>
    obtain ⟨k, hk, rfl, rfl, hown, hB, hA, hsz, hb⟩ := hrel
    by_cases hlt : k < xs.length
    · have hfx := hf _ (List.getElem_mem hlt)
      have hsp := encL_step xs k hlt rest
      have hu1 := BytesV.keep hu0 (KeepS.of_below hb (fun _ h => h))
      have HT := hid (take_snoc hlt)
      have hlen : (xs.take k).length ≤ 100000 := by simp; omega
      have hnx := fun hl' hu' => next_any (xs[k]'hlt) hfx.1 hfx.2 (encI xs.length ++ (xs.take k).flatMap encI) ((xs.drop (k + 1)).flatMap encI ++ rest) hl' (.slice a N cap) (fun b => b < w.heap.size) w.heap.size (w.heap.size + 1) wr hB.out hA.out hu'
      rw [← hsp] at hnx
      have hsucc : ((encI xs.length ++ (xs.take k).flatMap encI) ++ encI xs[k]).length = atK xs (k + 1) := by unfold atK; rw [encL_snoc xs k hlt]
      rw [hsucc] at hnx
      have HN2 := hid (hnx (by rw [HN.out]; have := HL.out; omega) hu1)
      have hAf := one_cell hA.out
      clear hnx hsp hsucc hu1
      generalize xs.take k = ys at *
      generalize xs[k] = x at *
      have hz1 : w.heap.size + 1 < wr.heap.size := by omega
      go_wp2_with fail
      refine HN2.out.mono ?_
      rintro e w' ⟨rfl, m, rfl⟩
      have hsc : ∀ b, b ≠ w.heap.size + 1 → ((wr.setCell ⟨w.heap.size + 1, 0, none⟩ (.int .i64 (atK xs (k + 1) : Nat))).drewN m).heap[b]? = wr.heap[b]? := fun b hb' => Below.heap_setCell wr ⟨w.heap.size + 1, 0, none⟩ _ b hb'
      have hA2 : ((wr.setCell ⟨w.heap.size + 1, 0, none⟩ (.int .i64 (atK xs (k + 1) : Nat))).drewN m).heap[w.heap.size + 1]? = some (.cells #[.int .i64 (atK xs (k + 1) : Nat)] 3 (0, 0)) := one_set _ hA.out
      have hB2 : ((wr.setCell ⟨w.heap.size + 1, 0, none⟩ (.int .i64 (atK xs (k + 1) : Nat))).drewN m).heap[w.heap.size]? = some (.cells #[.slice a N cap] 53 (0, 0)) := by rw [hsc _ (by omega)]; exact hB.out
      have hown2 := OwnV.kept steady_int hown (w' := (wr.setCell ⟨w.heap.size + 1, 0, none⟩ (.int .i64 (atK xs (k + 1) : Nat))).drewN m) (fun b hb' _ => hsc b (by omega))
      have hb2 : Below w.heap.size w ((wr.setCell ⟨w.heap.size + 1, 0, none⟩ (.int .i64 (atK xs (k + 1) : Nat))).drewN m) := below_drewN (hb.setCell (by simp) _) m
      have hs2 : W.heap.size ≤ ((wr.setCell ⟨w.heap.size + 1, 0, none⟩ (.int .i64 (atK xs (k + 1) : Nat))).drewN m).heap.size := by simp [World.setCell]; exact hsz
      generalize (wr.setCell ⟨w.heap.size + 1, 0, none⟩ (.int .i64 (atK xs (k + 1) : Nat))).drewN m = w3 at *
      have HA3 := hid hA2
      have HB3 := hid hB2
      have HBl3 := hid hb2
      clear hsc hA2 hB2 hb2 hown hB hA hAf HN2
      go_wp2_with (at_builtin; go_must (refine wpList_app1 steady_int rfl _ _ rfl Try.app22 rfl hown2 rfl x rfl rfl (by omega) hs2 (Below.refl W.heap.size w3) (Nat.le_refl _) ?_))
      intro v' w4 hown4 hb4 _
      rw [HT.out] at hown4
      have HA4 := hid ((hb4.block (w.heap.size + 1) (by omega)).trans HA3.out)
      have HB4 := hid ((hb4.block w.heap.size (by omega)).trans HB3.out)
      have hs4 : W.heap.size ≤ w4.heap.size := Nat.le_trans hs2 hb4.size
      have hb5 := HBl3.out.trans (hb4.mono (by omega))
      clear hown2 hb4 HA3 HB3 HBl3
      go_wp2
      go_roundw
      case rel => exact ⟨k + 1, by omega, by go_num, rfl, hown4, HB4, HA4, hs4, hb5⟩
      case measure => simp [intOf]; omega
    · obtain rfl : k = xs.length := by omega
      rw [List.take_length] at hown
      have HO := hid (IntsV.mono (S' := AnyB) (hown.sl steady_int) (fun _ _ _ => trivial))
      clear hown
      go_wp2
      go_ret3
      exact ⟨_, rfl, HO.out, hb⟩

end Go.Proofs.Ytagnjhhbbjbhcaa
