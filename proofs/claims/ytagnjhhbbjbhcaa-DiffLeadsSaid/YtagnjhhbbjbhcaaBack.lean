/- slices.Backward over changes: the iterator. -/
import Derived.Test.YtagnjhhbbjbhcaaSay
import Derived.Test.YtagnjhhbbjbhcaaPTool
namespace Go.Proofs.Ytagnjhhbbjbhcaa
open Go.RowKit

/-- What yield is handed: the index, and the change. -/
abbrev Bx := Int × Chg × Option Addr × Nat
abbrev Bx.sl (x : Bx) : Value := .slice x.2.2.1 x.2.1.values.length x.2.2.2
abbrev Bx.enc (x : Bx) : Array Value := #[.int .i64 x.1, x.2.1.val x.sl]
abbrev bxs (xs : List Bx) : List Chg := xs.map fun x => x.2.1
abbrev Bx.ok (n0 : Nat) (pre : List Bx) (x : Bx) (W : World) : Prop := pre.length < 100000 ∧ x.2.1.values.length ≤ 100000 ∧ IntsV (· < n0) W x.sl x.2.1.values

set_option maxRecDepth 100000 in
set_option maxHeartbeats 4000000 in
theorem back1_any (cs : List Chg) (hc : cs.length ≤ 100000) (hcv : ∀ c ∈ cs, c.values.length ≤ 100000) (n0 nB Ps l n : Nat) (v : Value) (bA : Nat → Obj → Prop) (hbA : ∀ c fr, ¬ bA Ps (.cells c 30 fr)) (J : List Bx → World → Prop) (w : World)
    (hsz : n0 ≤ w.heap.size) (hv : ChV (· < n0) w v cs) (bs : w.heap[Ps]? = some (.cells #[v] 30 (0, 0)))
    (hY : ∀ pre x W, J pre W → Bx.ok n0 pre x W → YieldAt Fence.wide n Try.prog l (Bx.enc x) W fun e W' => e = .returned (.bool true) ∧ J (pre ++ [x]) W' ∧ TurnT (fun b o => bA b o ∨ isBook nB b o) n0 W W') (h0 : J [] w) :
    Calls Try.prog 56 #[.func (.yield l) #[] #[], .pointer (some ⟨Ps, 0, none⟩)] w fun e w' =>
      (∃ v, e = .returned v) ∧ ∃ xs : List Bx, bxs xs = cs.reverse ∧ J xs w' := by
  obtain ⟨a, cap, rfl, hok, hcap, hmax⟩ := hv.form
  have HV := hid hv
  have HY := hid hY
  have HCV := hid hcv
  have HBS : Hid (∀ W1, TurnT (fun b o => bA b o ∨ isBook nB b o) n0 w W1 → W1.heap[Ps]? = some (.cells #[.slice a cs.length cap] 30 (0, 0))) := hid (fun W1 h => h.2 _ _ bs (by
    rintro (h | h)
    · exact hbA _ _ h
    · simp [isBook, book] at h))
  have hp0 := (one_cell bs).1
  clear hv hY hcv bs hbA
  rw [← callsIn_wide (n := n + 1)]
  refine callsIn_of_wp Try.func56 rfl trivial ?_ rfl
  simp only [Try.ntmps56, List.size_toArray, List.length_cons, List.length_nil, Nat.reduceAdd, Nat.reduceSub, Array.replicate_succ, Array.replicate_zero, List.push_toArray, List.append_toArray, List.nil_append, List.cons_append]
  gi_wp2
  gi_loopw [3] (fun i wr => ∃ j : Nat, j ≤ cs.length ∧ i = .int .i64 ((cs.length : Int) - 1 - j) ∧ ∃ xs, Hid (bxs xs = cs.reverse.take j) ∧ Hid (J xs wr ∧ TurnT (fun b o => bA b o ∨ isBook nB b o) n0 w wr)) (fun i _ => (intOf i + 1).toNat)
  case atStart => exact ⟨0, by omega, by simp, [], hid (by simp), hid ⟨h0, TurnT.refl _ _ _⟩⟩
  case round =>
    obtain ⟨j, hj, rfl, xs, hxs, HJ⟩ := hrel
    have bs1 := HBS.out _ HJ.out.2
    have hp1 := (one_cell bs1).1
    by_cases hlt : j < cs.length
    · obtain ⟨p, hp⟩ : ∃ p, p + 1 + j = cs.length := ⟨cs.length - 1 - j, by omega⟩
      have hpl : p < cs.length := by omega
      have hpz : (cs.length : Int) - 1 - j = p := by omega
      rw [hpz]
      have hv1 : ChV (· < n0) wr (.slice a cs.length cap) cs := HV.out.keep (KeepS.of_below HJ.out.2.1 (fun _ h => h))
      obtain ⟨hbk, -, c0, c1, c2, c3, c4, ul, c5, hul⟩ := hv1.at hpl
      have HT : Hid (cs.reverse.take j ++ [cs[p]] = cs.reverse.take (j + 1)) := hid (by
        rw [List.take_succ_eq_append_getElem (show j < cs.reverse.length by simpa using hlt), List.getElem_reverse]
        congr 3
        omega)
      have hvl := HCV.out _ (List.getElem_mem hpl)
      generalize cs[p] = c at *
      obtain ⟨k0, i0, f0, o0, n1, vs⟩ := c
      simp only at c0 c1 c2 c3 c4 hul hvl
      obtain ⟨al, cl, rfl, -, -, -⟩ := hul.form
      have hxl : xs.length ≤ j := by
        have h := congrArg List.length hxs.out
        simp only [bxs, List.length_map, List.length_take, List.length_reverse] at h
        omega
      obtain ⟨fn, tmps, assign, body, hyy, hR⟩ := YieldAt.anyDepth (m' := n + 1 - 1) rfl (HY.out xs ((p : Int), ⟨k0, i0, f0, o0, n1, vs⟩, al, cl) wr HJ.out.1 ⟨by omega, hvl, hul⟩)
      have HP := hid hp
      have HPZ := hid hpz
      have hp0' : (0 : Int) ≤ p := by omega
      have hpl' : (p : Int) < cs.length := by omega
      simp only [Bx.enc, Bx.sl, Chg.val] at hyy
      clear hul hv1 hp hpz hp0
      gi_wp2
      refine hR.mono ?_
      rintro e W2 ⟨rfl, hj2, ht2⟩
      have HJ2 : Hid (J (xs ++ [((p : Int), ⟨k0, i0, f0, o0, n1, vs⟩, al, cl)]) W2 ∧ TurnT (fun b o => bA b o ∨ isBook nB b o) n0 w W2) := hid ⟨hj2, HJ.out.2.trans ht2⟩
      have HX2 : Hid (bxs (xs ++ [((p : Int), ⟨k0, i0, f0, o0, n1, vs⟩, al, cl)]) = cs.reverse.take (j + 1)) := hid (by
        rw [← HT.out, ← hxs.out]; simp [bxs])
      clear hj2 ht2 HJ hR hyy c0 c1 c2 c3 c4 c5
      gi_wp2
      go_roundw
      case rel => exact ⟨j + 1, by omega, by have := HP.out; congr 1; omega, _, HX2, HJ2⟩
      case measure => simp [intOf]
    · have hneg : (cs.length : Int) - 1 - j < 0 := by omega
      obtain rfl : j = cs.length := by omega
      have HX2 : Hid (bxs xs = cs.reverse) := hid (by rw [hxs.out, List.take_of_length_le (by simp)])
      gi_wp2
      go_end0
      exact ⟨⟨_, rfl⟩, xs, HX2.out, HJ.out.1⟩

end Go.Proofs.Ytagnjhhbbjbhcaa
