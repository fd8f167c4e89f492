/- The reference's Below; the program's least. -/
import Derived.Test.YteepdnamkcgndaaM3
namespace Go.Proofs.Yteepdnamkcgndaa
open Go.RowKit

/-- The least index of changes; the greatest number where there is none. -/
def leastL (l : List Chg) : Int := l.foldl (fun n c => min n c.index) 9223372036854775807

theorem leastL_snoc {l : List Chg} {k : Nat} (hk : k < l.length) : leastL (l.take (k + 1)) = min (leastL (l.take k)) l[k].index := by
  unfold leastL
  rw [List.take_succ_eq_append_getElem hk, List.foldl_append]
  rfl

/-- All of the first k stand below all of the second list. -/
def BelowTo (cs ds : List Chg) (k : Nat) : Prop := ∀ j (h : j < cs.length), j < k → ∀ i (h' : i < ds.length), cs[j].index < ds[i].index
def BelowRow (c : Chg) (ds : List Chg) (m : Nat) : Prop := ∀ i (h' : i < ds.length), i < m → c.index < ds[i].index
theorem BelowTo.next {cs ds : List Chg} {k m : Nat} (h : BelowTo cs ds k) (hk : k < cs.length) (hm : ds.length ≤ m) (hr : BelowRow cs[k] ds m) : BelowTo cs ds (k + 1) := fun j hj hl i hi => by
  by_cases e : j = k
  · subst e; exact hr i hi (by omega)
  · exact h j hj (by omega) i hi
theorem BelowRow.next {c : Chg} {ds : List Chg} {m : Nat} (h : BelowRow c ds m) (hm : m < ds.length) (hr : c.index < ds[m].index) : BelowRow c ds (m + 1) := fun i hi hl => by
  by_cases e : i = m
  · subst e; exact hr
  · exact h i hi (by omega)
theorem BelowTo.last {cs ds : List Chg} {k : Nat} (h : BelowTo cs ds k) (hk : cs.length ≤ k) : Mer.belowB cs ds = true := by
  unfold Mer.belowB
  rw [List.all_eq_true]
  intro c hc
  rw [List.all_eq_true]
  intro d hd
  obtain ⟨j, hj, rfl⟩ := List.getElem_of_mem hc
  obtain ⟨i, hi, rfl⟩ := List.getElem_of_mem hd
  exact decide_eq_true (h j hj (by omega) i hi)
theorem below_bad {cs ds : List Chg} {k m : Nat} (hk : k < cs.length) (hm : m < ds.length) (hr : ds[m].index ≤ cs[k].index) : Mer.belowB cs ds = false := by
  rw [Bool.eq_false_iff]
  intro h
  unfold Mer.belowB at h
  have := List.all_eq_true.1 (List.all_eq_true.1 h cs[k] (List.getElem_mem _)) ds[m] (List.getElem_mem _)
  rw [decide_eq_true_eq] at this
  omega

/-- The world has drawn, and no more. -/
def Drw (w W : World) : Prop := ∃ n, W = w.drewN n
theorem Drw.below {w W : World} (h : Drw w W) : Below w.heap.size w W := by
  obtain ⟨n, rfl⟩ := h
  exact below_drewN (Below.refl _ _) n
theorem Drw.next {w W : World} (h : Drw w W) (m : Nat) : Drw w (W.drewN m) := by
  obtain ⟨n, rfl⟩ := h
  exact ⟨_, World.drewN_drewN ..⟩

set_option maxHeartbeats 4000000 in
theorem below_any (cs ds : List Chg) (hc : cs.length ≤ 100000) (hd : ds.length ≤ 100000) (u v : Value) (S T : Nat → Prop) (w : World) (hu : ChV S w u cs) (hv : ChV T w v ds) :
    Calls Try.prog 54 #[u, v] w fun e w' => e = .returned (.bool (Mer.belowB cs ds)) ∧ ∃ n, w' = w.drewN n := by
  have hu0 := hu
  have hv0 := hv
  obtain ⟨a, cap, rfl, hok, hcap, hmax⟩ := hu.form
  obtain ⟨a', cap', rfl, hok', hcap', hmax'⟩ := hv.form
  clear hu hv
  have hu1 : ∀ W, Hid (Drw w W) → ChV S W (.slice a cs.length cap) cs := fun W h => hu0.keep (KeepS.below h.out.below)
  have hv1 : ∀ W, Hid (Drw w W) → ChV T W (.slice a' ds.length cap') ds := fun W h => hv0.keep (KeepS.below h.out.below)
  have HU := hid hu1
  have HV := hid hv1
  clear hu1 hv1 hu0 hv0
  go_enter Try.func54, Try.ntmps54
  go_wp2
  go_loopw [5] (fun i wr => ∃ k : Nat, k ≤ cs.length ∧ i = .int .i64 k ∧ Hid (BelowTo cs ds k) ∧ Hid (Drw w wr)) (fun i _ => cs.length - (intOf i).toNat)
  case atStart => exact ⟨0, by omega, rfl, hid (fun j _ h => by omega), hid ⟨0, rfl⟩⟩
  case round =>
    obtain ⟨k, hk, rfl, hpre, hw⟩ := hrel
    by_cases hlt : k < cs.length
    · have hk0 : (0 : Int) ≤ k := by omega
      have hk1 : (k : Int) < cs.length := by omega
      go_wp2
      go_loopw [6] (fun i wr => ∃ m : Nat, m ≤ ds.length ∧ i = .int .i64 m ∧ Hid (BelowRow cs[k] ds m) ∧ Hid (Drw w wr)) (fun i _ => ds.length - (intOf i).toNat)
      case atStart => exact ⟨0, by omega, rfl, hid (fun j _ h => by omega), hw⟩
      case round =>
        obtain ⟨m, hm, rfl, hrow, hw⟩ := hrel
        by_cases hlm : m < ds.length
        · obtain ⟨hbk, -, c0, c1, -⟩ := (HU.out _ hw).at hlt
          obtain ⟨hbm, -, d0, d1, -⟩ := (HV.out _ hw).at hlm
          have HY : Hid (cs[k].index < ds[m].index → Hid (BelowRow cs[k] ds (m + 1))) := hid (fun h => hid (hrow.out.next hlm h))
          have HN : Hid (ds[m].index ≤ cs[k].index → Hid (Mer.belowB cs ds = false)) := hid (fun h => hid (below_bad hlt hlm h))
          have hm0 : (0 : Int) ≤ m := by omega
          have hm1 : (m : Int) < ds.length := by omega
          generalize cs[k].index = x at *
          generalize ds[m].index = y at *
          by_cases hxy : y ≤ x
          · have HR := HN.out hxy
            clear HY HN
            go_wp2
            go_quiet (fail)
            go_wp2
            go_ret
            exact ⟨ret_bool HR.out.symm, hw.out.next _⟩
          · have HR := HY.out (by omega)
            clear HY HN
            go_wp2
            go_quiet (fail)
            go_wp2
            go_roundw
            case rel => exact ⟨m + 1, by omega, by go_num, HR, hid (hw.out.next _)⟩
            case measure => simp [intOf]; omega
        · have HR := hid (hpre.out.next hlt (by omega) hrow.out)
          have hm3 : ¬ (m : Int) < ds.length := by omega
          go_wp2
          go_roundw
          case rel => exact ⟨k + 1, by omega, by go_num, HR, hw⟩
          case measure => simp [intOf]; omega
    · have HR := hid (hpre.out.last (by omega))
      have hk3 : ¬ (k : Int) < cs.length := by omega
      go_wp2
      go_ret
      exact ⟨ret_bool HR.out.symm, hw.out⟩

set_option maxHeartbeats 2000000 in
theorem least_any (cs : List Chg) (hc : cs.length ≤ 100000) (sv u : Value) (hsv : ∃ a n c, sv = .slice a n c) (S : Nat → Prop) (w : World) (hu : ChV S w u cs) :
    Calls Try.prog 40 #[.agg #[sv, u]] w fun e w' => e = .returned (.int .i64 (leastL cs)) ∧ Below w.heap.size w w' := by
  obtain ⟨sa, sn, sc, rfl⟩ := hsv
  have hu0 := hu
  obtain ⟨a, cap, rfl, hok, hcap, hmax⟩ := hu.form
  clear hu
  have hb0 : Below w.heap.size w (w.alloc (.cells #[.slice sa sn sc, .slice a cs.length cap] 62)) := (Below.refl _ _).alloc (Nat.le_refl _) _
  have HB0 := hid hb0
  clear hb0
  go_enter Try.func40, Try.ntmps40
  go_wp2
  go_loopw [3, 9] (fun n i wr => ∃ k : Nat, k ≤ cs.length ∧ i = .int .i64 k ∧ n = .int .i64 (leastL (cs.take k)) ∧ Below w.heap.size w wr) (fun _ i _ => cs.length - (intOf i).toNat)
  case atStart => exact ⟨0, by omega, rfl, rfl, HB0.out⟩
  case round =>
    obtain ⟨k, hk, rfl, rfl, hb⟩ := hrel
    by_cases hlt : k < cs.length
    · have hu1 : ChV S wr (.slice a cs.length cap) cs := hu0.keep (KeepS.below hb)
      obtain ⟨hbk, -, c0, c1, c2, c3, c4, ul, c5, hul⟩ := hu1.at hlt
      have HL := hid (leastL_snoc hlt)
      generalize leastL (cs.take k) = x at *
      generalize cs[k] = c at *
      obtain ⟨k0, i0, f0, o0, n0, vs⟩ := c
      simp only at c0 c1 c2 c3 c4 hul HL
      obtain ⟨al, cl, rfl, -, -, -⟩ := hul.form
      have hk0 : (0 : Int) ≤ k := by omega
      have hk1 : (k : Int) < cs.length := by omega
      have HB : Hid (∀ o : Obj, Below w.heap.size w (wr.alloc o)) := hid (fun o => hb.alloc hb.size o)
      clear hul hu1
      go_wp2
      go_roundw
      case rel => exact ⟨k + 1, by omega, by go_num, by rw [HL.out]; congr 1; split <;> omega, HB.out _⟩
      case measure => simp [intOf]; omega
    · obtain rfl : k = cs.length := by omega
      rw [List.take_length]
      go_wp2
      go_ret
      exact ⟨rfl, hb⟩

end Go.Proofs.Yteepdnamkcgndaa
