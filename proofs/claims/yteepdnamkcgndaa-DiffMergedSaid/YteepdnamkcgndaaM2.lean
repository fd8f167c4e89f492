/- The reference's Tail. -/
import Derived.Test.YteepdnamkcgndaaM1
import Derived.Test.YteepdnamkcgndaaMer
namespace Go.Proofs.Yteepdnamkcgndaa
open Go.RowKit

theorem chain_all {R : Chg → Chg → Bool} : ∀ {l : List Chg}, Mer.chainB R l = true ↔ ∀ j (h : j + 1 < l.length), R l[j] l[j + 1] = true
  | [] => by simp [Mer.chainB]
  | [a] => by simp [Mer.chainB]
  | a :: b :: l => by
    have ih := chain_all (R := R) (l := b :: l)
    rw [Mer.chainB, Bool.and_eq_true, ih]
    constructor
    · rintro ⟨h1, h2⟩ j hj
      cases j with
      | zero => exact h1
      | succ j => exact h2 j (by simpa using hj)
    · intro h
      exact ⟨h 0 (by simp), fun j hj => h (j + 1) (by simpa using hj)⟩
/-- The neighbours ahead of k fit. -/
def ChainTo (R : Chg → Chg → Bool) (l : List Chg) (k : Nat) : Prop := ∀ j (h : j + 1 < l.length), j + 1 < k → R l[j] l[j + 1] = true
theorem ChainTo.next {R : Chg → Chg → Bool} {l : List Chg} {k : Nat} (h : ChainTo R l k) (h1 : 1 ≤ k) (hk : k < l.length) (hR : R (l[k - 1]'(by omega)) l[k] = true) : ChainTo R l (k + 1) := fun j hj hl => by
  by_cases e : j + 1 = k
  · subst e; exact hR
  · exact h j hj (by omega)
theorem ChainTo.last {R : Chg → Chg → Bool} {l : List Chg} {k : Nat} (h : ChainTo R l k) (hk : l.length ≤ k) : Mer.chainB R l = true := chain_all.2 fun j hj => h j hj (by omega)
theorem chain_bad {R : Chg → Chg → Bool} {l : List Chg} {k : Nat} (h1 : 1 ≤ k) (hk : k < l.length) (hR : R (l[k - 1]'(by omega)) l[k] = false) : Mer.chainB R l = false := by
  rw [Bool.eq_false_iff]
  intro h
  have := chain_all.1 h (k - 1) (by omega)
  have e : k - 1 + 1 = k := by omega
  simp only [e] at this
  rw [this] at hR
  cases hR

theorem idx_pred {a : Option Addr} {n cap k : Nat} (hok : Slok a n) (h1 : 1 ≤ k) (hk : k < n) (X : World) :
    (Instr.indexAt 27 (.slice a n cap) (.int .i64 ((k : Int) - 1))).run Try.prog X = .ok (.pointer (some ⟨slb a, slo a + (k - 1) * 6, none⟩)) X := by
  have htn : ((k : Int) - 1).toNat = k - 1 := by omega
  have h := run_indexAt_var (P := Try.prog) X 27 a n cap .i64 ((k : Int) - 1) (by kernel_rfl) hok (by omega) (by omega)
  have hs1 : (sizeOf (Try.prog.elem 27)).run Try.prog X = .ok 6 X := by kernel_rfl
  rw [h, hs1, htn]
  simp [Result.andThen]

set_option maxRecDepth 100000 in
set_option maxHeartbeats 4000000 in
theorem tail_any (cs : List Chg) (hc : cs.length ≤ 100000) (hs : ∀ c ∈ cs, -1000 ≤ c.index ∧ c.index ≤ 1000) (u : Value) (S : Nat → Prop) (w : World) (hu : ChV S w u cs) :
    Calls Try.prog 53 #[u] w fun e w' => e = .returned (.bool (Mer.chainB Mer.tailOk cs)) ∧ Below w.heap.size w w' := by
  have hu0 := hu
  obtain ⟨a, cap, rfl, hok, hcap, hmax⟩ := hu.form
  clear hu
  go_enter Try.func53, Try.ntmps53
  go_wp2
  go_loopw [3] (fun i wr => ∃ k : Nat, 1 ≤ k ∧ (k ≤ cs.length ∨ k = 1) ∧ i = .int .i64 k ∧ Hid (ChainTo Mer.tailOk cs k) ∧ Below w.heap.size w wr) (fun i _ => cs.length + 1 - (intOf i).toNat)
  case atStart => exact ⟨1, by omega, .inr rfl, rfl, hid (fun j h1 h2 => by omega), Below.refl _ _⟩
  case round =>
    obtain ⟨k, hk1, hk, rfl, hpre, hb⟩ := hrel
    by_cases hlt : k < cs.length
    · have hu1 : ChV S wr (.slice a cs.length cap) cs := hu0.keep (KeepS.below hb)
      have hlt' : k - 1 < cs.length := by omega
      obtain ⟨hbk, -, d0, d1, d2, d3, d4, vl, d5, hvl⟩ := hu1.at hlt
      obtain ⟨hbk', -, c0, c1, c2, c3, c4, ul, c5, hul⟩ := hu1.at hlt'
      have HY : Hid (Mer.tailOk cs[k - 1] cs[k] = true → Hid (ChainTo Mer.tailOk cs (k + 1))) := hid (fun h => hid (hpre.out.next hk1 hlt h))
      have HN : Hid (Mer.tailOk cs[k - 1] cs[k] = false → Hid (Mer.chainB Mer.tailOk cs = false)) := hid (fun h => hid (chain_bad hk1 hlt h))
      have hsc := hs cs[k - 1] (List.getElem_mem _)
      have hsd := hs cs[k] (List.getElem_mem _)
      have hix := idx_pred (cap := cap) hok hk1 hlt
      generalize cs[k - 1] = c at *
      generalize cs[k] = d at *
      obtain ⟨k0, i0, f0, o0, n0, vs⟩ := c
      obtain ⟨k1, i1, f1, o1, n1, ws⟩ := d
      simp only at c0 c1 c2 c3 c4 hul d0 d1 d2 d3 d4 hvl hsc hsd
      obtain ⟨al, cl, rfl, -, -, -⟩ := hul.form
      obtain ⟨bl, el, rfl, -, -, -⟩ := hvl.form
      obtain ⟨s1, s2⟩ := hsc
      obtain ⟨s3, s4⟩ := hsd
      clear hul hvl hu1
      have hk0 : (0 : Int) ≤ k := by omega
      have hk2 : (k : Int) < cs.length := by omega
      have HB : Hid (∀ x y : Obj, Below w.heap.size w ((wr.alloc x).alloc y)) :=
        hid (fun x y => (hb.alloc hb.size _).alloc (by simp; have := hb.size; omega) _)
      have HL := hid hb.size
      clear hb hk
      by_cases hl : vs.length = ws.length
      · have gl : ((vs.length : Int) != (ws.length : Int)) = false := by simp [hl]
        by_cases h1 : f1 = -2
        · have g1 : (f1 == -2) = true := by simp [h1]
          by_cases h0 : f0 = -2
          · have g0 : (f0 == -2) = true := by simp [h0]
            by_cases hi : i1 = i0 - 1
            · have gi : (i1 == i0 - 1) = true := by simp [hi]
              have HR := HY.out (by unfold Mer.tailOk; simp [hl, h1, h0, hi])
              clear HY HN
              go_wp2
              go_roundw
              case rel => exact ⟨k + 1, by omega, by omega, by go_num, HR, HB.out _ _⟩
              case measure => simp [intOf]; omega
            · have gi : (i1 == i0 - 1) = false := beqF hi
              have HR := HN.out (by unfold Mer.tailOk; simp [hl, h1, h0, hi])
              clear HY HN
              go_wp2
              go_ret
              exact ⟨ret_bool HR.out.symm, HB.out _ _⟩
          · have g0 : (f0 == -2) = false := beqF h0
            have HR := HN.out (by unfold Mer.tailOk; simp [hl, h1, h0])
            clear HY HN
            go_wp2
            go_ret
            exact ⟨ret_bool HR.out.symm, HB.out _ _⟩
        · have g1 : (f1 == -2) = false := beqF h1
          by_cases h0 : f0 = -2
          · have g0 : (f0 == -2) = true := by simp [h0]
            by_cases hi : i1 = i0
            · have gi : (i1 == i0) = true := by simp [hi]
              have HR := HY.out (by unfold Mer.tailOk; simp [hl, h1, h0, hi])
              clear HY HN
              go_wp2
              go_roundw
              case rel => exact ⟨k + 1, by omega, by omega, by go_num, HR, HB.out _ _⟩
              case measure => simp [intOf]; omega
            · have gi : (i1 == i0) = false := beqF hi
              have HR := HN.out (by unfold Mer.tailOk; simp [hl, h1, h0, hi])
              clear HY HN
              go_wp2
              go_ret
              exact ⟨ret_bool HR.out.symm, HB.out _ _⟩
          · have g0 : (f0 == -2) = false := beqF h0
            by_cases hi : i1 = i0 + 1
            · have gi : (i1 == i0 + 1) = true := by simp [hi]
              have HR := HY.out (by unfold Mer.tailOk; simp [hl, h1, h0, hi])
              clear HY HN
              go_wp2
              go_roundw
              case rel => exact ⟨k + 1, by omega, by omega, by go_num, HR, HB.out _ _⟩
              case measure => simp [intOf]; omega
            · have gi : (i1 == i0 + 1) = false := beqF hi
              have HR := HN.out (by unfold Mer.tailOk; simp [hl, h1, h0, hi])
              clear HY HN
              go_wp2
              go_ret
              exact ⟨ret_bool HR.out.symm, HB.out _ _⟩
      · have gl : ((vs.length : Int) != (ws.length : Int)) = true := bneT (by omega)
        have HR := HN.out (by unfold Mer.tailOk; simp [hl])
        clear HY HN
        go_wp2
        go_ret
        exact ⟨ret_bool HR.out.symm, HB.out _ _⟩
    · have HR := hid (hpre.out.last (by omega))
      have hk3 : ¬ (k : Int) < cs.length := by omega
      go_wp2
      go_ret
      exact ⟨ret_bool HR.out.symm, hb⟩

end Go.Proofs.Yteepdnamkcgndaa
