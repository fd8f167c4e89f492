/- CoverForbidden: the walk. -/
import Derived.Test.YtjaejnacdanpkaaDoorC62
namespace Go.Proofs.YtjaejnacdanpkaaDoor
open Go.RowKit

attribute [local go_sem] Oper.semAt_some

theorem rowB_of : ∀ (ns : List Nat) (c : List Int), c.length = ns.length → (∀ i (h : i < c.length) (h' : i < ns.length), 0 ≤ c[i] ∧ c[i] < (ns[i] : Int)) → Cov.rowB ns c = true
  | [], [], _, _ => rfl
  | [], _ :: _, h, _ => by simp at h
  | _ :: _, [], h, _ => by simp at h
  | n :: ns, x :: c, h, hc => by
    have h0 := hc 0 (by simp) (by simp)
    simp only [List.getElem_cons_zero] at h0
    simp only [Cov.rowB, Bool.and_eq_true, decide_eq_true_eq]
    exact ⟨h0, rowB_of ns c (by simpa using h) (fun i h1 h2 => by
      have := hc (i + 1) (by simpa using h1) (by simpa using h2)
      simpa using this)⟩
theorem erase_snoc {α : Type} (y : List α) (j k : Nat) (h : j < y.length) : (y.take (j + 1)).eraseIdx k = (y.take j).eraseIdx k ++ (if j = k then [] else [y[j]]) := by
  rw [List.take_succ_eq_append_getElem h]
  have hl : (y.take j).length = j := by rw [List.length_take]; omega
  by_cases hk : k < j
  · rw [List.eraseIdx_append_of_lt_length (by omega), if_neg (by omega)]
  · rw [List.eraseIdx_append_of_length_le (by omega), hl]
    by_cases he : j = k
    · subst he
      have e1 : (y.take j).eraseIdx j = y.take j := List.eraseIdx_of_length_le (by omega)
      rw [if_pos rfl, Nat.sub_self, e1]
      simp
    · have e1 : (y.take j).eraseIdx k = y.take j := List.eraseIdx_of_length_le (by omega)
      have e2 : [y[j]].eraseIdx (k - j) = [y[j]] := List.eraseIdx_of_length_le (by simp; omega)
      rw [if_neg he, e1, e2]
theorem why_range (ns : List Nat) (F : List (List Int)) (c : List Int) : ∀ x ∈ Cov.whyL ns F c, 0 ≤ x ∧ x < F.length := by
  unfold Cov.whyL
  cases h : (Cov.sets F.length).find? (Cov.showsB ns F c) with
  | none => simp
  | some l => exact Cov.ris_range l (-1) (by omega) (Cov.mem_sets_ris.1 (List.mem_of_find?_eq_some h))
/-- The forbidden combinations of a list of indices. -/
def someF (F : List (List Int)) (y : List Int) : List (List Int) := y.map fun j => F.getD j.toNat []

set_option maxRecDepth 100000 in
set_option maxHeartbeats 8000000 in
theorem forb_any (l l2 : List Int) (hl : Fit l) (hl2 : Fit l2) (v v2 : Value) (S S2 : Nat → Prop) (w : World) (hv : IntsV S w v l) (hv2 : IntsV S2 w v2 l2) (hT : TabD w) :
    Calls Tryd.prog 7 #[v, v2] w fun e w' => e = .returned (.bool true) ∧ Below w.heap.size w w' := by
  obtain ⟨a, cap, rfl, hok, hcap, hmax⟩ := hv.form
  obtain ⟨a2, cap2, rfl, hok2, hcap2, hmax2⟩ := hv2.form
  have HV2 := hid hv2
  clear hv2
  go_enter Tryd.func7, Tryd.ntmps7
  go_wp2_with fail
  refine (made_any l hl _ S w hv).mono ?_
  rintro e w1 ⟨ns, F, tn, sv, fv, rfl, m1, m2, m3, m4, m5, m6, m7, m8, hs1, hf1, hb1⟩
  have hP1 : PV w1 sv fv (szI ns) F := ⟨hs1.mono (fun _ _ _ => trivial), RowsV.mono hf1 (fun _ _ _ => trivial), by simp [szI]; omega, by omega, comboB_short m3 m5⟩
  obtain ⟨sa, sc, rfl⟩ : ∃ a c, sv = .slice a ns.length c := by obtain ⟨a, c, h, -⟩ := hs1.form; rw [List.length_map] at h; exact ⟨_, _, h⟩
  obtain ⟨fa, fc, rfl⟩ : ∃ a c, fv = .slice a F.length c := by obtain ⟨a, c, h, -⟩ := hf1.form; exact ⟨_, _, h⟩
  have hb2 : Below w1.heap.size w1 (w1.alloc (.cells #[.slice sa ns.length sc, .slice fa F.length fc, .int .i64 tn] 25)) := (Below.refl _ _).alloc (Nat.le_refl _) _
  have hbx : (w1.alloc (.cells #[.slice sa ns.length sc, .slice fa F.length fc, .int .i64 tn] 25)).heap[w1.heap.size]? = some (.cells #[.slice sa ns.length sc, .slice fa F.length fc, .int .i64 tn] 25 (0, 0)) := heap_new _ _ rfl
  have hP2 := hP1.below hb2
  have hb02 := hb1.trans (hb2.mono hb1.size)
  have hT2 := hT.below hb02 hT.lt
  go_wp2_with fail
  generalize World.alloc w1 _ = W2 at *
  have hgw : w1.heap.size < W2.heap.size := (Array.getElem?_eq_some_iff.1 hbx).1
  have hVal := valid_small ns F tn m1 m2 m3 (by omega) m5 m6 m7 m8
  have x0 : ∀ x : Grew W2, x.1.cell? ⟨w1.heap.size, 0, none⟩ = some (.slice sa ns.length sc) := fun x => (x.cell _ _ hgw).trans (row3 hbx).1
  have x1 : ∀ x : Grew W2, x.1.cell? ⟨w1.heap.size, 1, none⟩ = some (.slice fa F.length fc) := fun x => (x.cell _ _ hgw).trans (row3 hbx).2.1
  have x2 : ∀ x : Grew W2, x.1.cell? ⟨w1.heap.size, 2, none⟩ = some (.int .i64 tn) := fun x => (x.cell _ _ hgw).trans (row3 hbx).2.2.1
  have hdr : Below W2.heap.size W2 (W2.drewN 1) := below_drewN (Below.refl _ _) 1
  have HBX := hid hbx
  have HP2 := hid hP2
  have HT2 := hid hT2
  have HB02 := hid hb02
  have HVal := hid hVal
  clear hP2 hT2 hb02 hP1 hT hs1 hf1 hb1 hb2 hv hbx hVal
  refine wp_region_grewS 16 [(true, 0), (true, 1), (true, 2), (true, 3), (true, 5), (true, 6), (false, 4), (false, 7), (true, 8), (true, 9), (true, 10), (true, 11), (true, 12), (true, 13), (true, 14), (true, 15)] (by kernel_rfl) (by kernel_rfl) ?_
  refine wpSteps_pre 4 (by decide) ?_
  simp only [List.take_succ_cons, List.take_zero]
  repeat (go_big_quiet_step (fail))
  refine wpQuiet_nil ?_
  iterate 2 (refine wpSteps_quiet rfl ?_; repeat (go_big_quiet_step (fail)); refine wpQuiet_nil ?_)
  refine wpSteps_one rfl ?_
  clear x0 x1 x2
  go_wp2_with fail
  refine (combos_any F (by omega) _ AnyB (W2.drewN 1) (RowsV.keep HP2.out.2.1 (KeepS.below hdr))).mono ?_
  rintro e w3 ⟨x3, rfl, ho3, hb3⟩
  have hb23 : Below W2.heap.size W2 w3 := hdr.trans (hb3.mono hdr.size)
  have HF3 := hid ho3.any
  obtain ⟨ca, cn, cc, rfl⟩ : ∃ a n c, x3 = .slice a n c := by obtain ⟨a, c, h, -⟩ := ho3.any.form; exact ⟨_, _, _, h⟩
  clear ho3 hb3
  go_wp2
  refine qn_mk ⟨InGrew.of hb23, ?_⟩
  refine wpSteps_one rfl ?_
  go_wp2_with fail
  refine (pcover_small ns F tn HVal.out m3 _ _ AnyB AnyB w3 (HP2.out.1.keep (KeepS.below hb23)) HF3.out (HT2.out.below hb23 HT2.out.lt)).mono ?_
  rintro e w4 ⟨x, y, z, rfl, hx, hy, hz, hb4⟩
  have hb24 : Below W2.heap.size W2 w4 := hb23.trans (hb4.mono hb23.size)
  obtain ⟨ra, rc, rfl, hrok, hrcap, hrmax⟩ := hx.form
  obtain ⟨la, lc, rfl, hlok, hlcap, hlmax⟩ := hy.form
  obtain ⟨wa, wc, ew, hwok, hwcap, hwmax⟩ := hz.form
  rw [List.length_map] at ew hwok hwcap
  subst ew
  have HR := hid hx
  have HL := hid hy
  have HW := hid hz
  clear hx hy hz hb4
  go_wp2
  refine qn_mk ⟨InGrew.of hb24, ?_⟩
  iterate 8 (refine wpSteps_quiet rfl ?_; repeat (go_big_quiet_step (fail)); refine wpQuiet_nil ?_)
  refine wpSteps_done ?_
  simp only [List.drop_succ_cons, List.drop_zero]
  have hgw4 : w1.heap.size < w4.heap.size := Nat.lt_of_lt_of_le hgw hb24.size
  have HBX4 := hid ((hb24.block _ hgw).trans HBX.out)
  have HP4 := hid (HP2.out.below hb24)
  have HT4 := hid (HT2.out.below hb24 HT2.out.lt)
  have HB4 := hid (HB02.out.trans (hb24.mono HB02.out.size))
  clear hb23 hb24 hdr HBX HP2 HT2 HB02 HF3
  have u0 := (row3 HBX4.out).1
  have u1 := (row3 HBX4.out).2.1
  have u2 := (row3 HBX4.out).2.2.1
  have hsok : Slok sa ns.length := by
    obtain ⟨a', c', e, h, -⟩ := HP4.out.1.form
    rw [List.length_map] at e h
    cases e; exact h
  have hfok : Slok fa F.length := by
    obtain ⟨a', c', e, h, -⟩ := HP4.out.2.1.form
    cases e; exact h
  have HVt := hid (HV2.out.keep (KeepS.below HB4.out))
  have hLl : (Cov.leftL ns F tn).length ≤ 6561 := Nat.le_trans (List.length_filter_le _ _) (asked_len m1 m3)
  have HLi := hid (fun c => Cov.left_iff (ns := ns) (F := F) (t := tn) (c := c))
  have HMin := hid (Cov.why_min ns F tn)
  generalize hLL : Cov.leftL ns F tn = L at *
  clear hLL
  go_wp2
  go_loopw [10, 11] (fun x i wr => ∃ c : List Int, i = .int .i64 c.length ∧ c.length ≤ ns.length ∧ Hid ((∀ i (h : i < c.length) (h' : i < ns.length), 0 ≤ c[i] ∧ c[i] < (ns[i] : Int)) ∧ IntsF (w4.heap.size ≤ ·) wr x c ∧ Below w4.heap.size w4 wr)) (fun _ i _ => ns.length - (intOf i).toNat)
  case atStart => exact ⟨[], rfl, by simp, hid ⟨fun i h => absurd h (by simp), IntsF.nil _ _, Below.refl _ _⟩⟩
  case round =>
    obtain ⟨c, rfl, hcl, HC⟩ := hrel
    obtain ⟨p1, p2, p3⟩ := HC.out
    obtain ⟨xa, xc, rfl, -, -, -⟩ := p2.sl.form
    have u0 := (p3.cell (p := ⟨w1.heap.size, 0, none⟩) hgw4).trans (row3 HBX4.out).1
    by_cases hlt : c.length < ns.length
    · have hk0 : (0 : Int) ≤ c.length := by omega
      have hk1 : (c.length : Int) < ns.length := by omega
      have hsl : c.length < (szI ns).length := by simpa [szI] using hlt
      have hszw := HP4.out.1.keep (KeepS.below p3)
      have hszw' : IntsV AnyB wr (.slice sa (szI ns).length sc) (szI ns) := by rw [List.length_map]; exact hszw
      obtain ⟨us, hcs, hbs, hus⟩ := hszw'.at hsl
      have hus2 : us = .int .i64 (ns[c.length] : Int) := by rw [hus]; simp [szI]
      subst hus2
      have hnj := m1 ns[c.length] (List.getElem_mem hlt)
      have HNj := hid (rfl : ns[c.length] = ns[c.length])
      obtain ⟨n, hn⟩ : ∃ n, n = ns[c.length] := ⟨_, rfl⟩
      rw [← hn] at hcs hnj
      have HNe := hid hn
      have HAt := hid (at_any l2 hl2 _ (c.length : Int) (n : Int) S2 wr (HVt.out.keep (KeepS.below p3)) (by omega) (by omega) (by omega))
      have HP := hid (And.intro p1 (And.intro p2 p3))
      clear p1 p2 hszw hszw' hus hsl hn HNj
      go_wp2_with fail
      refine HAt.out.mono ?_
      rintro e w' ⟨rfl, rfl⟩
      have hz := atI_lt l2 (Int.toNat (c.length : Int)) (n : Int) (by omega)
      generalize atI l2 (Int.toNat (c.length : Int)) (n : Int) = z at *
      have hal : Below wr.heap.size wr (wr.alloc (.cells #[.int .i64 z] 3)) := (Below.refl _ _).alloc (Nat.le_refl _) _
      have h1F := (int1F wr z).sl
      clear u0 hcs p3
      go_wp2_with (at_builtin; go_must (refine wpList_appI rfl _ _ rfl Tryd.app22 rfl HP.out.2.1 hal rfl h1F (by simp; omega) ?_))
      intro v8 w8 hI8 ht8
      have HN : Hid ((∀ i (h : i < (c ++ [z]).length) (h' : i < ns.length), 0 ≤ (c ++ [z])[i] ∧ (c ++ [z])[i] < (ns[i] : Int)) ∧ IntsF (w4.heap.size ≤ ·) w8 v8 (c ++ [z]) ∧ Below w4.heap.size w4 w8) := hid (by
        obtain ⟨p1, p2, p3⟩ := HP.out
        refine ⟨fun i h h' => ?_, steady_intsF.mono hI8 (fun b _ hb => grow_from p3.size b hb), (p3.trans (hal.mono p3.size)).trans (ht8.below (by have := p3.size; simp; omega) (fun b hb => p2.2 b hb.symm))⟩
        by_cases hi : i < c.length
        · rw [List.getElem_append_left hi]; exact p1 i hi h'
        · have he : i = c.length := by simp at h; omega
          subst he
          rw [List.getElem_append_right (Nat.le_refl _)]
          simp only [Nat.sub_self, List.getElem_cons_zero]
          rw [← HNe.out]
          exact hz)
      obtain ⟨va8, vl8, vc8, rfl⟩ : ∃ a l c, v8 = .slice a l c := by obtain ⟨a, c', h, -⟩ := hI8.sl.form; exact ⟨_, _, _, h⟩
      clear hI8 ht8 hal h1F HAt HP
      go_wp2
      go_roundw
      case rel => exact ⟨c ++ [z], by simp, by simp; omega, HN⟩
      case measure => simp [intOf]; omega
    · obtain hce : c.length = ns.length := by omega
      have HRow : Hid (Cov.rowB ns c = true) := hid (rowB_of ns c hce (fun i h h' => p1 i h h'))
      have HCl : Hid (c.length = ns.length) := hid hce
      have HXc := hid p2.sl
      have HB3 := hid p3
      clear p1 p2 p3 HC hce
      have hwx := HB3.out.size
      have HPx := hid (HP4.out.below HB3.out)
      have HFx := hid (RowsV.mono (S' := (· < wr.heap.size)) HPx.out.2.1 (fun b h _ => h))
      have HBXx := hid ((HB3.out.block _ hgw4).trans HBX4.out)
      have HLx := hid (HL.out.keep (KeepS.below HB3.out))
      have HWx := hid (HW.out.keep (KeepS.below HB3.out))
      have HBx := hid (HB4.out.trans (HB3.out.mono HB4.out.size))
      have HTx := hid (HT4.out.below HB3.out HT4.out.lt)
      have hgx : w1.heap.size < wr.heap.size := Nat.lt_of_lt_of_le hgw4 hwx
      clear HL HW HP4 HBX4 HB4 HT4 HV2 HVt HB3 hwx u0 u1 u2 hgw4 hgw HR
      generalize hWx : wr = wx at *
      clear hWx
      have u0 := (row3 HBXx.out).1
      go_wp2
      clear u0
      go_loopw [12] (fun i wr => ∃ k : Nat, i = .int .i64 k ∧ k ≤ L.length ∧ Hid (Below wx.heap.size wx wr)) (fun i _ => L.length - (intOf i).toNat)
      case atStart => exact ⟨0, rfl, by omega, hid (Below.refl _ _)⟩
      case round =>
        obtain ⟨i, rfl, hi, HBi⟩ := hrel
        by_cases hli : i < L.length
        · have hi0 : (0 : Int) ≤ i := by omega
          have hi1 : (i : Int) < L.length := by omega
          have hmem := List.getElem_mem hli
          obtain ⟨ub, hcb, hbb, hrb⟩ := HLx.out.at hli
          obtain ⟨ba, bc, rfl, -, -, -⟩ := hrb.form
          have hlm : i < (L.map (Cov.whyL ns F)).length := by rw [List.length_map]; exact hli
          have hWx' : RowsV AnyB wx (.slice wa (L.map (Cov.whyL ns F)).length wc) (L.map (Cov.whyL ns F)) := by rw [List.length_map]; exact HWx.out
          obtain ⟨uy, hcy, hby, hry⟩ := hWx'.at hlm
          rw [List.getElem_map] at hry
          have HMi := hid (HMin.out L[i] hmem)
          have HLm := hid ((HLi.out L[i]).1 hmem)
          have hyr := why_range ns F L[i]
          have hyl : (Cov.whyL ns F L[i]).length ≤ F.length := by
            unfold Cov.whyL
            cases h : (Cov.sets F.length).find? (Cov.showsB ns F L[i]) with
            | none => simp
            | some l =>
              obtain ⟨s, _, rfl⟩ := Cov.mem_sets.1 (List.mem_of_find?_eq_some h)
              rw [Option.getD_some, Cov.idx_len]
              exact Cov.pop_le _ _
          have HYr := hid hyr
          obtain ⟨ya, yc, rfl, hyok, -, -⟩ := hry.form
          have HRb := hid hrb
          have HRy := hid hry
          generalize Cov.whyL ns F L[i] = y at *
          generalize L[i] = cb at *
          have HCbl := hid (Cov.comboB_len ns cb HLm.out.1.1)
          clear hWx' hlm hrb hry hmem hyr
          have hgr := HBi.out.size
          have HPr := hid (HPx.out.below HBi.out)
          have HBXr := hid ((HBi.out.block _ hgx).trans HBXx.out)
          have hcbr := (HBi.out.cell (p := ⟨slb la, slo la + i, none⟩) hbb).trans hcb
          have HXr := hid (HXc.out.keep (KeepS.below HBi.out))
          have HRbr := hid (HRb.out.keep (KeepS.below HBi.out))
          have hgwr : w1.heap.size < wr.heap.size := Nat.lt_of_lt_of_le hgx hgr
          have hbbr : slb la < wr.heap.size := Nat.lt_of_lt_of_le hbb hgr
          have x0 : ∀ x : Grew wr, x.1.cell? ⟨w1.heap.size, 0, none⟩ = some (.slice sa ns.length sc) := fun x => (x.cell _ _ hgwr).trans (row3 HBXr.out).1
          have x1 : ∀ x : Grew wr, x.1.cell? ⟨w1.heap.size, 1, none⟩ = some (.slice fa F.length fc) := fun x => (x.cell _ _ hgwr).trans (row3 HBXr.out).2.1
          have x2 : ∀ x : Grew wr, x.1.cell? ⟨w1.heap.size, 2, none⟩ = some (.int .i64 tn) := fun x => (x.cell _ _ hgwr).trans (row3 HBXr.out).2.2.1
          have x3 : ∀ x : Grew wr, x.1.cell? ⟨slb la, slo la + i, none⟩ = some (.slice ba cb.length bc) := fun x => (x.cell _ _ hbbr).trans hcbr
          have HCo := hid (fun (x : Grew wr) => Calls.grew_of (x := x) ((combo_any ns cb (by omega) (fun n hn => by have := m1 n hn; omega) sa sc _ _ _ fa F.length fc tn rfl rfl AnyB AnyB x.1 (HPr.out.1.keep (KeepS.below x.2)) (HRbr.out.keep (KeepS.below x.2))).mono fun e w' h => (⟨by rw [h.1, HLm.out.1.1], h.2⟩ : e = .returned (.bool true) ∧ Below x.1.heap.size x.1 w')))
          have HAl := hid (fun (x : Grew wr) => Calls.grew_of (x := x) (allowed_any F c (fun f hf => by rw [HCl.out]; exact (Cov.comboB_len ns f (m5 f hf).1).symm) (by omega) _ sa ns.length sc rfl fa fc tn _ AnyB (w4.heap.size ≤ ·) x.1 (RowsV.keep HPr.out.2.1 (KeepS.below x.2)) (HXr.out.keep (KeepS.below x.2))))
          have HHas := hid (fun (x : Grew wr) => grew_drew (x := x) (has_any c cb (by rw [HCl.out, HCbl.out]) _ _ (w4.heap.size ≤ ·) AnyB x.1 (HXr.out.keep (KeepS.below x.2)) (HRbr.out.keep (KeepS.below x.2))))
          have hno : Hid (Cov.allowed F c = true → Cov.has c cb = false) := hid (fun h => HLm.out.2 c HRow.out h)
          generalize Cov.allowed F c = al at *
          generalize Cov.has c cb = hb at *
          go_wp2
          refine wp_region_quietG (by kernel_rfl) (by kernel_rfl) ?_
          cases al
          case' false =>
            iterate 6 (go_big_quiet_step ((exact HCo.out _)))
            iterate 5 (go_big_quiet_step ((exact HAl.out _)))
            iterate 9 (go_big_quiet_step ((exact HHas.out _)))
            refine wpQuiet_nil ?_
            intro w6 hx6
          case' true =>
            obtain rfl : hb = false := hno.out rfl
            iterate 6 (go_big_quiet_step ((exact HCo.out _)))
            iterate 5 (go_big_quiet_step ((exact HAl.out _)))
            iterate 9 (go_big_quiet_step ((exact HHas.out _)))
            refine wpQuiet_nil ?_
            intro w6 hx6
          all_goals
            have hb6 := HBi.out.trans ((grew_below hx6).mono hgr)
            clear hx6 x0 x1 x2 x3 HCo HAl HHas hno hcbr HBXr HPr HXr HRbr hgwr hbbr hgr HBi
            have HB6 := hid hb6
            clear hb6
            generalize hWo : wr = Wo at *
            clear hWo
            go_wp2
            go_loopw [13] (fun i' wr => ∃ k : Nat, i' = .int .i64 k ∧ k ≤ y.length ∧ Hid (Below wx.heap.size wx wr)) (fun i' _ => y.length - (intOf i').toNat)
            case atStart => exact ⟨0, rfl, by omega, HB6⟩
            case round =>
              obtain ⟨k, rfl, hk, HBk⟩ := hrel
              have hcyr := (HBk.out.cell (p := ⟨slb wa, slo wa + i, none⟩) hby).trans hcy
              by_cases hlk : k < y.length
              · have hk0 : (0 : Int) ≤ k := by omega
                have hk1 : (k : Int) < y.length := by omega
                generalize hWk : wr = wk at *
                clear hWk
                go_wp2
                go_loopw [14, 15] (fun sv jv wr => ∃ j : Nat, jv = .int .i64 j ∧ j ≤ y.length ∧ Hid (OwnO (fun S => IntsV S) wk.heap.size 53 wr sv (someF F ((y.take j).eraseIdx k)) ∧ Below wk.heap.size wk wr)) (fun _ jv _ => y.length - (intOf jv).toNat)
                case atStart => exact ⟨0, rfl, by omega, hid ⟨by simp only [List.take_zero, List.eraseIdx_nil]; exact OwnO.nil _ _ _ _, Below.refl _ _⟩⟩
                case round =>
                  obtain ⟨j, rfl, hj, HS⟩ := hrel
                  obtain ⟨hown, hbj⟩ := HS.out
                  have HBj := hid (HBk.out.trans (hbj.mono HBk.out.size))
                  have hcyj := (HBj.out.cell (p := ⟨slb wa, slo wa + i, none⟩) hby).trans hcy
                  obtain ⟨va, vc, hsv, hvok, hvcap, hvmax⟩ := (OwnO.any hown).form
                  by_cases hlj : j < y.length
                  · have hj0 : (0 : Int) ≤ j := by omega
                    have hj1 : (j : Int) < y.length := by omega
                    obtain ⟨un, hcn, hbn, hun⟩ := (HRy.out.keep (KeepS.below HBj.out)).at hlj
                    have hy0 := HYr.out y[j] (List.getElem_mem hlj)
                    obtain ⟨n, hn⟩ := Int.eq_ofNat_of_zero_le hy0.1
                    have hnF : n < F.length := by omega
                    have hun2 : un = .int .i64 (n : Int) := by rw [hun, hn]
                    subst hun2
                    have HEr := hid (erase_snoc y j k hlj)
                    have HFn := hid (getD_at (d := ([] : List Int)) hnF)
                    have HPj := hid (HPx.out.below HBj.out)
                    have hgj : w1.heap.size < wr.heap.size := Nat.lt_of_lt_of_le hgx HBj.out.size
                    have u1 := (row3 ((HBj.out.block _ hgx).trans HBXx.out)).2.1
                    have hn0 : (0 : Int) ≤ (n : Int) := by omega
                    have hn1 : (n : Int) < F.length := by omega
                    have HYj := hid hn
                    have hcn0 := hid hcn
                    clear hun hy0 hn hbj
                    subst hsv
                    go_wp2
                    go_quiet (fail)
                    have hdn : Below wr.heap.size wr (wr.drewN nq) := below_drewN (Below.refl _ _) nq
                    have hxq : Below wx.heap.size wx (wr.drewN nq) := HBj.out.trans (hdn.mono HBj.out.size)
                    have hkq : Below wk.heap.size wk (wr.drewN nq) := HS.out.2.trans (hdn.mono HS.out.2.size)
                    have hownq := OwnO.below steady_ints hown hdn
                    clear hcyj hcn u1
                    generalize wr.drewN nq = wq at *
                    have hcyj := (hxq.cell (p := ⟨slb wa, slo wa + i, none⟩) hby).trans hcy
                    have hcn := (hdn.cell (p := ⟨slb ya, slo ya + j, none⟩) hbn).trans hcn0.out
                    have u1 := (row3 ((hxq.block _ hgx).trans HBXx.out)).2.1
                    have HKq := hid hkq
                    have HOq := hid hownq
                    clear hdn hownq hown
                    by_cases hjk : j = k
                    · have hne : ((j : Int) != (k : Int)) = false := bneF (by omega)
                      have HN : Hid (OwnO (fun S => IntsV S) wk.heap.size 53 wq (.slice va (someF F ((y.take j).eraseIdx k)).length vc) (someF F ((y.take (j + 1)).eraseIdx k)) ∧ Below wk.heap.size wk wq) := hid (by
                        rw [HEr.out, if_pos hjk, List.append_nil]
                        exact ⟨HOq.out, HKq.out⟩)
                      clear hcyj hcn u1 hjk
                      go_wp2
                      go_roundw
                      case rel => exact ⟨j + 1, by go_num, by omega, HN⟩
                      case measure => simp [intOf]; omega
                    · have hne : ((j : Int) != (k : Int)) = true := bneT (by omega)
                      have HJK := hid hjk
                      obtain ⟨uf, hcf, hbf, huf⟩ := (RowsV.keep HFx.out (KeepS.below hxq)).at hnF
                      obtain ⟨ea, ec, rfl, -, -, -⟩ := huf.form
                      have HUf := hid (IntsV.mono (S' := (· < wk.heap.size)) huf (fun b _ h => Nat.lt_of_lt_of_le h HBk.out.size))
                      have hfnl : F.getD n [] = F[n] := HFn.out
                      generalize F[n] = fn at *
                      clear huf hjk
                      have xa1 : ∀ x : Grew wq, x.1.cell? ⟨w1.heap.size, 1, none⟩ = some (.slice fa F.length fc) := fun x => (x.cell _ _ (Nat.lt_of_lt_of_le hgx hxq.size)).trans u1
                      have xa2 : ∀ x : Grew wq, x.1.cell? ⟨slb wa, slo wa + i, none⟩ = some (.slice ya y.length yc) := fun x => (x.cell _ _ (Nat.lt_of_lt_of_le hby hxq.size)).trans hcyj
                      have xa3 : ∀ x : Grew wq, x.1.cell? ⟨slb ya, slo ya + j, none⟩ = some (.int .i64 (n : Int)) := fun x => (x.cell _ _ (World.block_lt_of_cell? wq ⟨slb ya, slo ya + j, none⟩ hcn)).trans hcn
                      have xa4 : ∀ x : Grew wq, x.1.cell? ⟨slb fa, slo fa + n, none⟩ = some (.slice ea fn.length ec) := fun x => (x.cell _ _ hbf).trans hcf
                      go_wp2
                      refine wp_region_grewS 13 [(true, 0), (true, 1), (true, 2), (true, 3), (true, 4), (true, 5), (true, 6), (true, 7), (true, 8), (true, 9), (true, 10), (true, 11), (false, 12)] (by kernel_rfl) (by kernel_rfl) ?_
                      refine wpSteps_pre 12 (by decide) ?_
                      simp only [List.take_succ_cons, List.take_zero]
                      repeat (go_big_quiet_step (fail))
                      refine wpQuiet_nil ?_
                      refine wpSteps_one rfl ?_
                      clear xa1 xa2 xa3 xa4
                      go_wp2
                      have hal9 : Below wq.heap.size wq ((wq.drewN 1).alloc (.cells #[.slice ea fn.length ec] 53)) := (below_drewN (Below.refl wq.heap.size wq) 1).alloc (Nat.le_refl _) _
                      refine qn_mk ⟨InGrew.of hal9, ?_⟩
                      refine wpSteps_done ?_
                      simp only [List.drop_succ_cons, List.drop_zero]
                      have hdq : Below wq.heap.size wq (wq.drewN 1) := below_drewN (Below.refl _ _) 1
                      have hownd := OwnO.below steady_ints HOq.out hdq
                      have hufd := HUf.out.keep (KeepS.below hdq)
                      have hkd := HKq.out.trans (hdq.mono HKq.out.size)
                      have hkz : wk.heap.size ≤ (wq.drewN 1).heap.size := hkd.size
                      have hsl9 : (someF F ((y.take j).eraseIdx k)).length + 1 ≤ 1000000000 := by
                        unfold someF
                        rw [List.length_map]
                        have := List.length_eraseIdx_le (y.take j) k
                        rw [List.length_take] at this
                        omega
                      clear hcyj hcn u1 hcf
                      go_wp2_with (at_builtin; go_must (refine wpList_appO1 steady_ints rfl _ _ rfl Tryd.app29b rfl hownd rfl fn hufd rfl hsl9 hkz ?_))
                      intro v8 w8 hown8 hb8
                      have HN : Hid (OwnO (fun S => IntsV S) wk.heap.size 53 w8 v8 (someF F ((y.take (j + 1)).eraseIdx k)) ∧ Below wk.heap.size wk w8) := hid (by
                        rw [HEr.out, if_neg HJK.out]
                        have e : someF F ((y.take j).eraseIdx k ++ [y[j]]) = someF F ((y.take j).eraseIdx k) ++ [fn] := by
                          unfold someF
                          rw [List.map_append]
                          simp only [List.map_cons, List.map_nil]
                          rw [HYj.out, Int.toNat_natCast, hfnl]
                        rw [e]
                        exact ⟨hown8, hkd.trans hb8⟩)
                      obtain ⟨va8, vl8, vc8, rfl⟩ : ∃ a l c, v8 = .slice a l c := by obtain ⟨a, c', h, -⟩ := (OwnO.any hown8).form; exact ⟨_, _, _, h⟩
                      clear hown8 hb8 hownd hufd hkd hkz hdq
                      go_wp2
                      go_roundw
                      case rel => exact ⟨j + 1, by go_num, by omega, HN⟩
                      case measure => simp [intOf]; omega
                  · obtain rfl : j = y.length := by omega
                    rw [List.take_length] at hown
                    subst hsv
                    have HOw := hid (OwnO.any hown)
                    rw [List.take_length] at HOw
                    have HVs : Hid (validE (szI ns) (someF F (y.eraseIdx k)) tn = 0) := hid (by
                      have hle : (someF F (y.eraseIdx k)).length ≤ F.length := by
                        unfold someF
                        rw [List.length_map]
                        have := List.length_eraseIdx_le y k
                        omega
                      refine valid_small ns _ tn m1 m2 m3 (by omega) (fun f hf => ?_) m6 m7 m8
                      obtain ⟨q, hq, rfl⟩ := List.mem_map.1 hf
                      have hq2 := HYr.out q (List.mem_of_mem_eraseIdx hq)
                      rw [getD_at (show q.toNat < F.length by omega)]
                      exact m5 _ (List.getElem_mem _))
                    have HNo : Hid (cb ∉ Cov.leftL ns (someF F (y.eraseIdx k)) tn) := hid (HMi.out k hlk)
                    have HPj := hid (HPx.out.below HBj.out)
                    have HTj := hid (HTx.out.below HBj.out HTx.out.lt)
                    have hbxj := row3 ((HBj.out.block _ hgx).trans HBXx.out)
                    have u0 := hbxj.1
                    have u2 := hbxj.2.2.1
                    clear hbxj hown HS hbj
                    go_wp2_with fail
                    refine (pcover_small ns (someF F (y.eraseIdx k)) tn HVs.out m3 _ _ AnyB AnyB wr HPj.out.1 HOw.out HTj.out).mono ?_
                    rintro e w9 ⟨g1, g2, g3, rfl, hx9, hy9, hz9, hb9⟩
                    obtain ⟨g1a, g1n, g1c, rfl⟩ : ∃ a n c, g1 = .slice a n c := by obtain ⟨a, c, h, -⟩ := hx9.form; exact ⟨_, _, _, h⟩
                    obtain ⟨g3a, g3n, g3c, rfl⟩ : ∃ a n c, g3 = .slice a n c := by obtain ⟨a, c, h, -⟩ := hz9.form; exact ⟨_, _, _, h⟩
                    have hLs : (Cov.leftL ns (someF F (y.eraseIdx k)) tn).length ≤ 6561 := Nat.le_trans (List.length_filter_le _ _) (asked_len m1 m3)
                    generalize Cov.leftL ns (someF F (y.eraseIdx k)) tn = L9 at *
                    obtain ⟨qa, qc, rfl, hqok, -, -⟩ := hy9.form
                    have HL9 := hid hy9
                    have HB9 := hid (HBj.out.trans (hb9.mono HBj.out.size))
                    clear hx9 hy9 hz9 hb9 u0 u2
                    go_wp2
                    go_loopw [20] (fun q wr => ∃ n : Nat, q = .int .i64 n ∧ n ≤ L9.length ∧ Hid (Below w9.heap.size w9 wr)) (fun q _ => L9.length - (intOf q).toNat)
                    case atStart => exact ⟨0, rfl, by omega, hid (Below.refl _ _)⟩
                    case round =>
                      obtain ⟨n, rfl, hn, HBn⟩ := hrel
                      have HBz := hid (HB9.out.trans (HBn.out.mono HB9.out.size))
                      by_cases hln : n < L9.length
                      · have hn0 : (0 : Int) ≤ n := by omega
                        have hn1 : (n : Int) < L9.length := by omega
                        obtain ⟨u9, hc9, hb9, hr9⟩ := (HL9.out.keep (KeepS.below HBn.out)).at hln
                        obtain ⟨oa, oc, rfl, -, -, -⟩ := hr9.form
                        have hnm : L9[n] ≠ cb := fun e => HNo.out (e ▸ List.getElem_mem hln)
                        have HR9 := hid hr9
                        generalize L9[n] = c9 at *
                        have hcbz := (HBz.out.cell (p := ⟨slb la, slo la + i, none⟩) hbb).trans hcb
                        have hbbz : slb la < wr.heap.size := Nat.lt_of_lt_of_le hbb HBz.out.size
                        have x3 : ∀ x : Grew wr, x.1.cell? ⟨slb la, slo la + i, none⟩ = some (.slice ba cb.length bc) := fun x => (x.cell _ _ hbbz).trans hcbz
                        have x4 : ∀ x : Grew wr, x.1.cell? ⟨slb qa, slo qa + n, none⟩ = some (.slice oa c9.length oc) := fun x => (x.cell _ _ hb9).trans hc9
                        have hRbz := hid (HRb.out.keep (KeepS.below HBz.out))
                        have HSa := hid (fun (x : Grew wr) => grew_drew (x := x) ((sameInts_any c9 cb _ _ AnyB AnyB x.1 (HR9.out.keep (KeepS.below x.2)) (hRbz.out.keep (KeepS.below x.2))).mono fun e w' h => (⟨by rw [h.1, decide_eq_false hnm], h.2⟩ : e = .returned (.bool false) ∧ ∃ n, w' = x.1.drewN n)))
                        clear hr9 hcbz hc9 hnm
                        go_wp2
                        refine wp_region_quietG (by kernel_rfl) (by kernel_rfl) ?_
                        iterate 9 (go_big_quiet_step ((exact HSa.out _)))
                        refine wpQuiet_nil ?_
                        intro wz hxz
                        have hbz := grew_below hxz
                        have HN := hid (HBn.out.trans (hbz.mono HBn.out.size))
                        clear hbz hxz x3 x4 HSa hRbz HBz
                        go_wp2
                        go_roundw
                        case rel => exact ⟨n + 1, by go_num, by omega, HN⟩
                        case measure => simp [intOf]; omega
                      · obtain rfl : n = L9.length := by omega
                        go_wp2
                        go_roundw
                        case rel => exact ⟨k + 1, by go_num, by omega, HBz⟩
                        case measure => simp [intOf]; omega
              · obtain rfl : k = y.length := by omega
                go_wp2
                go_roundw
                case rel => exact ⟨i + 1, by go_num, by omega, HBk⟩
                case measure => simp [intOf]; omega
        · obtain rfl : i = L.length := by omega
          go_wp2_with fail
          refine (lives_any wr (HTx.out.below HBi.out HTx.out.lt)).mono ?_
          rintro e w9 ⟨rfl, hb9⟩
          have hbz := HBi.out.trans (hb9.mono HBi.out.size)
          have HE := hid (HBx.out.trans (hbz.mono HBx.out.size))
          clear hb9 hbz
          go_wp2
          go_ret
          exact ⟨rfl, HE.out⟩

end Go.Proofs.YtjaejnacdanpkaaDoor
