/- The program's Merge. -/
import Derived.Test.YteepdnamkcgndaaM16
import Derived.Test.YteepdnamkcgndaaM19
import Derived.Test.YteepdnamkcgndaaM7
namespace Go.Proofs.Yteepdnamkcgndaa
open Go.RowKit

theorem nodup_len {α : Type} [DecidableEq α] : ∀ (l m : List α), l.Nodup → (∀ x ∈ l, x ∈ m) → l.length ≤ m.length
  | [], _, _, _ => Nat.zero_le _
  | x :: l, m, hl, h => by
    obtain ⟨hx, hl'⟩ := List.nodup_cons.1 hl
    have hxm := h x (List.mem_cons_self ..)
    have := nodup_len l (m.erase x) hl' (fun y hy => by
      have hne : y ≠ x := fun e => hx (e ▸ hy)
      exact (List.mem_erase_of_ne hne).2 (h y (List.mem_cons_of_mem _ hy)))
    rw [List.length_erase_of_mem hxm] at this
    have hp := List.length_pos_of_mem hxm
    simp only [List.length_cons]
    omega
theorem outs_len {a b : List Chg} (ha : Mer.plainP a = true) (hb : Mer.plainP b = true) {ks : List Int} {o : List Chg} (hk : ks.Pairwise (· < ·)) (ho : Mer.Outs a b ks o) : o.length ≤ a.length + b.length := by
  have h1 := Mer.outs_lt (Mer.plainP_lt ha) (Mer.plainP_lt hb) ks o hk ho
  have hnd : o.Nodup := h1.imp (fun h e => by subst e; exact Mer.ltC_irr _ h)
  have := nodup_len o (a ++ b) hnd (fun x hx => List.mem_append.2 ((Mer.outs_mem ks o ho x).1 hx).1)
  simpa using this
theorem joinP_len {a b : List Chg} {k : Int} {S : List Chg} (h : Mer.JoinP a b k S) : (S ++ Mer.restJ a b k).length ≤ 2 * a.length + 2 * b.length := by
  rw [List.length_append, h.sort.perm.length_eq]
  have h1 := ofR_len a k true
  have h2 := newS_len (Mer.ofR a k true) (Mer.ofR b k true)
  have h3 := ofR_len b k true
  have h4 := ofR_len a k false
  have h5 := ofR_len b k false
  have h6 : (Mer.restJ a b k).length ≤ a.length + b.length := by unfold Mer.restJ; split <;> omega
  unfold Mer.setsJ
  rw [List.length_append]
  omega
/-- The kinds of the changes, each once. -/
def kindsL (l : List Chg) : List Int := Lib.compact ((l.map (·.kind)).mergeSort fun x y => decide (x ≤ y))
theorem kindsL_ok (l : List Chg) : (kindsL l).Pairwise (· < ·) ∧ ∀ k, k ∈ kindsL l ↔ ∃ c ∈ l, c.kind = k := by
  obtain ⟨h1, h2⟩ := sortInt (l.map (·.kind))
  obtain ⟨h3, h4⟩ := compact_sorted _ h1
  refine ⟨h3, fun k => ?_⟩
  unfold kindsL
  rw [h4, h2, List.mem_map]

theorem two_lists {w : World} {u v : Value} {cs ds : List Chg} {S : Nat → Prop} (hu : ChV S w u cs) (hv : ChV S w v ds) (t : TypeId) :
    SlV (ChV S) AnyB (w.alloc (.cells #[u, v] t)) (.slice (some ⟨w.heap.size, 0, none⟩) 2 2) [cs, ds] := by
  have hb : Below w.heap.size w (w.alloc (.cells #[u, v] t)) := (Below.refl _ _).alloc (Nat.le_refl _) _
  refine sl_blk [u, v] [cs, ds] (heap_new _ _ rfl) rfl (by simp) (fun j g1 g2 => ?_)
  match j, g1 with
  | 0, _ => exact hu.keep (KeepS.below hb)
  | 1, _ => exact hv.keep (KeepS.below hb)

set_option maxRecDepth 100000 in
set_option maxHeartbeats 8000000 in
theorem pmerge_any (cs ds : List Chg) (hc : cs.length ≤ 100000) (hd : ds.length ≤ 100000) (hgc : GoodL cs) (hgd : GoodL ds) (u v : Value) (S T : Nat → Prop) (w : World) (hu : ChV S w u cs) (hv : ChV T w v ds) :
    Calls Try.prog 10 #[u, v] w fun e w' => ∃ x, e = .returned (.tuple #[x, .int .i64 (mergeE cs ds)]) ∧ ChV AnyB w' x (mergeL cs ds) ∧ Below w.heap.size w w' := by
  have HU0 := hid (ChV.mono (S' := AnyB) hu (fun _ _ _ => trivial))
  have HV0 := hid (ChV.mono (S' := AnyB) hv (fun _ _ _ => trivial))
  have HP1 := hid (plainW_any cs hc hgc u S w hu)
  have HP2 := hid (fun W (h : Below w.heap.size w W) => plainW_any ds hd hgd v T W (hv.keep (KeepS.below h)))
  obtain ⟨a, cap, rfl, hok, hcap, hmax⟩ := hu.form
  obtain ⟨a', cap', rfl, hok', hcap', hmax'⟩ := hv.form
  clear hu hv
  go_enter Try.func10, Try.ntmps10
  go_wp2_with fail
  refine HP1.out.mono ?_
  rintro e w1 ⟨m1, rfl, hm1, hb1⟩
  have HM1 := hid hm1
  have HB1 := hid hb1
  clear hb1 hm1
  go_wp2_with fail
  refine (HP2.out _ HB1.out).mono ?_
  rintro e w2 ⟨m2, rfl, hm2, hb2⟩
  have HM2 := hid hm2
  have HB2 : Hid (Below w.heap.size w w2) := hid (HB1.out.trans (hb2.mono HB1.out.size))
  have HB12 := hid hb2
  clear hb2 hm2 HP1 HP2
  cases hp1 : Mer.plainP cs with
  | false =>
    have HM := hid (merge_form (cs := cs) (ds := ds) (by rw [← Mer.plain_eq, hp1]; rfl))
    clear hp1
    go_wp2
    go_ret2
    exact ⟨_, by rw [HM.out.1]; rfl, by rw [HM.out.2]; exact ChV.nil _ _, HB2.out⟩
  | true =>
    cases hp2 : Mer.plainP ds with
    | false =>
      have HM := hid (merge_form (cs := cs) (ds := ds) (by rw [← Mer.plain_eq ds, hp2]; exact Bool.and_false _))
      clear hp1 hp2
      go_wp2
      go_ret2
      exact ⟨_, by rw [HM.out.1]; rfl, by rw [HM.out.2]; exact ChV.nil _ _, HB2.out⟩
    | true =>
      obtain ⟨b1, rfl, hpm1⟩ := HM1.out hp1
      obtain ⟨b2, rfl, hpm2⟩ := HM2.out hp2
      have HPM1 : Hid (PMap w2 b1 cs) := hid (hpm1.keep HB12.out)
      have HPM2 := hid hpm2
      have HP1 := hid hp1
      have HP2 := hid hp2
      have HR1 : Hid (Mer.plainR cs = true) := hid (by rw [← Mer.plain_eq, hp1])
      have HR2 : Hid (Mer.plainR ds = true) := hid (by rw [← Mer.plain_eq, hp2])
      clear hp1 hp2 hpm1 hpm2 HM1 HM2 HB12 HB1
      have HSL := hid (two_lists (HU0.out.keep (KeepS.below HB2.out)) (HV0.out.keep (KeepS.below HB2.out)) 34)
      have HCC := hid (concatC_any [cs, ds] (by simp) (by simp; omega) _ _ _ _ HSL.out)
      go_wp2_with fail
      refine HCC.out.mono ?_
      rintro e w3 ⟨lv, rfl, hlv, hb3⟩
      have hfl : [cs, ds].flatten = cs ++ ds := by simp
      rw [hfl] at hlv
      have HB3 : Hid (Below w2.heap.size w2 w3) := hid (((Below.refl _ _).alloc (Nat.le_refl _) _).trans (hb3.mono (by simp)))
      have HLV : Hid (ChV AnyB w3 lv (cs ++ ds)) := hid (hlv.sl.mono (fun _ _ _ => trivial))
      obtain ⟨la, lc, rfl, lok, lcap, lmax⟩ := HLV.out.form
      have HLL : Hid ((cs ++ ds).length ≤ 200000) := hid (by rw [List.length_append]; omega)
      clear hfl hlv hb3 HCC HSL
      generalize hL : cs ++ ds = L at *
      have HL := hid hL
      clear hL
      go_wp2
      go_loopw [10, 41] (fun x i wr => ∃ k : Nat, k ≤ L.length ∧ i = .int .i64 k ∧ Hid (OwnI w3.heap.size wr x ((L.take k).map (·.kind))) ∧ Hid (Below w3.heap.size w3 wr)) (fun _ i _ => L.length - (intOf i).toNat)
      case atStart => exact ⟨0, by omega, rfl, hid (by simp only [List.take_zero, List.map_nil]; exact OwnV.nil _ _ _ _), hid (Below.refl _ _)⟩
      case round =>
        obtain ⟨k, hk, rfl, HO, HB⟩ := hrel
        by_cases hlt : k < L.length
        · have hk0 : (0 : Int) ≤ k := by omega
          have hk1 : (k : Int) < L.length := by omega
          obtain ⟨hbk, -, y0, y1, y2, y3, y4, ul, y5, hul⟩ := (HLV.out.keep (KeepS.below HB.out)).at hlt
          have HT : Hid ((L.take (k + 1)).map (·.kind) = (L.take k).map (·.kind) ++ [L[k].kind]) := hid (by rw [← take_snoc hlt, List.map_append]; rfl)
          generalize L[k] = c at *
          obtain ⟨k0, i0, f0, o0, n0, vl⟩ := c
          simp only at y0 y1 y2 y3 y4 hul
          obtain ⟨al, cl, rfl, -, -, -⟩ := hul.form
          have HAL : Hid (∀ o : Obj, Below wr.heap.size wr (wr.alloc o)) := hid (fun o => (Below.refl _ _).alloc (Nat.le_refl _) _)
          have hlen : ((L.take k).map (·.kind)).length ≤ 200000 := by
            have := HLL.out
            rw [List.length_map, List.length_take]; omega
          generalize (L.take k).map (·.kind) = zs at *
          have hown : ∀ o : Obj, OwnI w3.heap.size (wr.alloc o) u10 zs := fun o => HO.out.below steady_int (HAL.out o)
          have HOWN := hid hown
          have HBo : Hid (∀ o : Obj, Below w3.heap.size w3 (wr.alloc o)) := hid (fun o => HB.out.trans ((HAL.out o).mono HB.out.size))
          clear hul hown
          go_wp2_with (at_builtin; go_must (refine wpList_app1 steady_int rfl _ _ rfl Try.app22 rfl (HOWN.out _) (by exact congrArg (fun b => Value.slice (some ⟨b, 0, none⟩) 1 1) (show wr.heap.size + 1 = (wr.alloc _).heap.size by simp)) k0 rfl rfl (by omega) (by simp; have := HB.out.size; omega) (HBo.out _) (Nat.le_refl _) ?_))
          intro v' w5 hown5 hb5 _
          have HO5 : Hid (OwnI w3.heap.size w5 v' ((L.take (k + 1)).map (·.kind))) := hid (by rw [HT.out]; exact hown5)
          have HB5 := hid hb5
          clear hown5 hb5 HOWN HBo HT HO
          go_wp2
          go_roundw
          case rel => exact ⟨k + 1, by omega, by go_num, HO5, HB5⟩
          case measure => simp [intOf]; omega
        · obtain rfl : k = L.length := by omega
          have hk3 : ¬ ((L.length : Nat) : Int) < L.length := by omega
          rw [List.take_length] at HO
          have HSO := hid (sortI_any w3.heap.size (L.map (·.kind)) (by rw [List.length_map]; have := HLL.out; omega) u10 wr HO.out)
          have HOB : Hid (∀ b, some b = u10.ownBlock → w3.heap.size ≤ b) := hid (fun b hb => (HO.out.row.lt b hb.symm).1)
          go_wp2_with fail
          refine HSO.out.mono ?_
          rintro e w5 ⟨rfl, ho5, ht5⟩
          have HB5 : Hid (Below w3.heap.size w3 w5) := hid (HB.out.trans (ht5.below HB.out.size (fun b hb => HOB.out b hb)))
          have HCO := hid (compactI_any w3.heap.size _ (by rw [List.length_mergeSort, List.length_map]; have := HLL.out; omega) u10 w5 ho5)
          clear ho5 ht5 HSO HO HB
          go_wp2_with fail
          refine HCO.out.mono ?_
          rintro e w6 ⟨kv, rfl, hkv, ht6⟩
          have HB6 : Hid (Below w3.heap.size w3 w6) := hid (HB5.out.trans (ht6.below HB5.out.size (fun b hb => HOB.out b hb)))
          have hkv : IntsV (w3.heap.size ≤ ·) w6 kv (kindsL L) := hkv
          have HKO := hid (kindsL_ok L)
          have HKB : Hid (∀ k ∈ kindsL L, WfI k) := hid (fun k hk => by
            obtain ⟨c, hcL, rfl⟩ := (HKO.out.2 k).1 hk
            have hgg : GoodC c := by
              rw [← HL.out] at hcL
              rcases List.mem_append.1 hcL with h | h
              · exact hgc c h
              · exact hgd c h
            have h := (lil5.1 hgg.ints).1
            unfold WfI; omega)
          have HKN : Hid ((kindsL L).length ≤ 200000) := hid (by
            have h1 := Lib.compact_length_le ((L.map (·.kind)).mergeSort fun x y => decide (x ≤ y))
            rw [List.length_mergeSort, List.length_map] at h1
            have := HLL.out
            unfold kindsL; omega)
          have HKV := hid hkv
          obtain ⟨ka, kc, rfl, kok, kcap, kmax⟩ := hkv.form
          have HB26 : Hid (Below w2.heap.size w2 w6) := hid (HB3.out.trans (HB6.out.mono HB3.out.size))
          have HPM16 : Hid (PMap w6 b1 cs) := hid (HPM1.out.keep HB26.out)
          have HPM26 : Hid (PMap w6 b2 ds) := hid (HPM2.out.keep HB26.out)
          have HB06 : Hid (Below w.heap.size w w6) := hid (HB2.out.trans (HB26.out.mono HB2.out.size))
          obtain ⟨pt1, n1, hn1, hm1, hc1, hbl1⟩ := HPM16.out
          obtain ⟨pt2, n2, hn2, hm2, hc2, hbl2⟩ := HPM26.out
          have HM1 := hid hm1
          have HM2 := hid hm2
          have HC1 := hid hc1
          have HC2 := hid hc2
          have HL1 := hid hbl1
          have HL2 := hid hbl2
          clear hkv ht6 HCO HB5 HB6 HB26 HPM1 HPM2 HB3 HLV HPM16 HPM26 hn1 hn2 hm1 hm2 hc1 hc2 hbl1 hbl2
          generalize kindsL L = ks at *
          go_wp2
          go_loopg [13, 56] ks.length (fun g o i wr => ∃ (k : Nat) (oa : Option Addr) (on oc : Nat) (out : List Chg), k ≤ ks.length ∧ g = ks.length - k ∧ i = .int .i64 k ∧ o = .slice oa on oc ∧ Hid (OwnC AnyB w6.heap.size 59 wr (.slice oa on oc) out) ∧ Hid (Mer.Outs cs ds (ks.take k) out) ∧ Hid (Below w6.heap.size w6 wr))
          case atStart => exact ⟨0, none, 0, 0, [], by omega, rfl, rfl, rfl, hid (OwnC.nil _ _ _ _), hid (by simp [Mer.Outs]), hid (Below.refl _ _)⟩
          case round =>
            obtain ⟨k, oa, on, oc, out, hk, hgk, rfl, rfl, HO, HOU, HB⟩ := hrel
            by_cases hlt : k < ks.length
            · have hk0 : (0 : Int) ≤ k := by omega
              have hk1 : (k : Int) < ks.length := by omega
              obtain ⟨kcell, y0, hbk, hkc⟩ := (HKV.out.keep (KeepS.below HB.out)).at hlt
              have HWK : Hid (WfI ks[k]) := hid (HKB.out _ (List.getElem_mem _))
              have HTK : Hid (ks.take (k + 1) = ks.take k ++ [ks[k]]) := hid (take_snoc hlt).symm
              have HG1 := hid (partF_get (k := cs.length) (by rw [List.take_length]; exact HL1.out) ks[k])
              have HG2 := hid (partF_get (k := ds.length) (by rw [List.take_length]; exact HL2.out) ks[k])
              have hkc : kcell = .int .i64 ks[k] := hkc
              subst hkc
              have HMC : Hid (Mer.JoinF cs ds ks[k] → Mer.clashR cs ds = true) := hid (fun h => Mer.merge_clash HP1.out HP2.out h)
              have HJP : Hid (∀ S, Mer.JoinP cs ds ks[k] S → Mer.Outs cs ds (ks.take (k + 1)) (out ++ (S ++ Mer.restJ cs ds ks[k]))) := hid (fun S h => by rw [HTK.out]; exact Mer.outs_snoc _ _ HOU.out h)
              have HLO : Hid (out.length ≤ 200000) := hid (by
                have := outs_len HP1.out HP2.out (List.Pairwise.sublist (List.take_sublist _ _) HKO.out.1) HOU.out
                omega)
              have HZ1 : ∀ s, ChV (· < w6.heap.size) wr (pt1 ks[k] s) (Mer.ofR cs ks[k] s) := fun s => ((HC1.out ks[k] s).mono (fun b hb _ => hb)).keep (KeepS.below HB.out)
              have HZ2 : ∀ s, ChV (· < w6.heap.size) wr (pt2 ks[k] s) (Mer.ofR ds ks[k] s) := fun s => ((HC2.out ks[k] s).mono (fun b hb _ => hb)).keep (KeepS.below HB.out)
              have HM1r : Hid (MapI wr b1 n1 (partF cs cs.length pt1)) := hid (HM1.out.keep (HB.out.block _ HM1.out.lt))
              have HM2r : Hid (MapI wr b2 n2 (partF ds ds.length pt2)) := hid (HM2.out.keep (HB.out.block _ HM2.out.lt))
              generalize ks[k] = kk at *
              have HJ := hid (join_any (· < w6.heap.size) (Mer.ofR cs kk true) (Mer.ofR cs kk false) (Mer.ofR ds kk true) (Mer.ofR ds kk false) (Nat.le_trans (ofR_len _ _ _) hc) (Nat.le_trans (ofR_len _ _ _) hc) (Nat.le_trans (ofR_len _ _ _) hd) (Nat.le_trans (ofR_len _ _ _) hd)
                (fun c h => hgc c (Mer.ofR_mem.1 h).1) (fun c h => hgd c (Mer.ofR_mem.1 h).1) (pt1 kk true) (pt1 kk false) (pt2 kk true) (pt2 kk false) wr (HZ1 true) (HZ1 false) (HZ2 true) (HZ2 false))
              clear HZ1 HZ2
              generalize pt1 kk true = us at *
              generalize pt1 kk false = ur at *
              generalize pt2 kk true = vs at *
              generalize pt2 kk false = vr at *
              go_wp2_with (first | (at_lookup; refine wpList_lookI rfl _ _ rfl underPart zeroPart rfl rfl HWK.out HM1r.out HG1.out ?_) | (at_lookup; refine wpList_lookI rfl _ _ rfl underPart zeroPart rfl rfl HWK.out HM2r.out HG2.out ?_))
              refine HJ.out.mono ?_
              rintro e w7 ⟨_, _, ok, rfl, hje, hb7, ⟨sa, sn, sc, rfl⟩, ⟨ra, rn, rc, rfl⟩⟩
              have HB7 := hid hb7
              have HB67 : Hid (Below w6.heap.size w6 w7) := hid (HB.out.trans (hb7.mono HB.out.size))
              have HJE := hid hje
              clear hje hb7 HJ HM1r HM2r HG1 HG2
              cases ok with
              | false =>
                have HM := hid (merge_bad HR1.out HR2.out (HMC.out (HJE.out.2 rfl)))
                clear HJE
                go_wp2
                go_ret2
                exact ⟨_, by rw [HM.out.1]; rfl, by rw [HM.out.2]; exact ChV.nil _ _, HB06.out.trans ((HB67.out.alloc HB67.out.size _).mono HB06.out.size)⟩
              | true =>
                obtain ⟨s', r', hsr, q1, q2, SS, q3, q4, hs, hr⟩ := HJE.out.1 rfl
                have hsr1 : s' = .slice sa sn sc ∧ r' = .slice ra rn rc := by simpa [eq_comm] using hsr
                obtain ⟨rfl, rfl⟩ := hsr1
                have HJ1 : Hid (Mer.JoinP cs ds kk SS) := hid ⟨q1, q2, q3, q4⟩
                have hr : ChV (fun b => b < w6.heap.size ∨ wr.heap.size ≤ b) w7 (.slice ra rn rc) (Mer.restJ cs ds kk) := hr
                have HS7 := hid hs
                have HR7 := hid hr
                obtain ⟨sa', sc', he1, -, -, -⟩ := hs.form
                obtain ⟨ra', rc', he2, -, -, -⟩ := hr.form
                cases he1
                cases he2
                have HLS : Hid ((SS ++ Mer.restJ cs ds kk).length ≤ 400000) := hid (by have := joinP_len HJ1.out; omega)
                have HG3 : Hid (GoodL (SS ++ Mer.restJ cs ds kk)) := hid (fun c hc' => by
                  rcases ((Mer.join_mem HJ1.out c).1 hc').1 with h | h
                  · exact hgc c h
                  · exact hgd c h)
                have HOU2 := hid (HJP.out SS HJ1.out)
                clear hs hr q1 q2 q3 q4 HJE HMC HJP
                generalize Mer.restJ cs ds kk = RR at *
                go_upto_region 19 with fail
                obtain ⟨W8, hW8⟩ : ∃ W8, W8 = w7.alloc (.cells #[.slice sa SS.length sc, .slice ra RR.length rc] 62) := ⟨_, rfl⟩
                rw [← hW8]
                have HB78 : Hid (Below w7.heap.size w7 W8) := hid (by rw [hW8]; exact (Below.refl _ _).alloc (Nat.le_refl _) _)
                have HT8 : Hid (W8.heap[w7.heap.size]? = some (.cells #[.slice sa SS.length sc, .slice ra RR.length rc] 62 (0, 0))) := hid (by rw [hW8]; exact heap_new w7 _ rfl)
                clear hW8
                have e0 : W8.cell? ⟨w7.heap.size, 0, none⟩ = some (.slice sa SS.length sc) := by rw [cell_of_row _ _ 0 _ _ (0, 0) HT8.out]; rfl
                have e1 : W8.cell? ⟨w7.heap.size, 1, none⟩ = some (.slice ra RR.length rc) := by rw [cell_of_row _ _ 1 _ _ (0, 0) HT8.out]; rfl
                have ez : w7.heap.size < W8.heap.size := (Array.getElem?_eq_some_iff.1 HT8.out).1
                have HSL := hid (two_lists (HS7.out.keep (KeepS.below HB78.out)) (HR7.out.keep (KeepS.below HB78.out)) 34)
                have HCC := hid (concatC_any [SS, RR] (by simp) (by simp; have := HLS.out; rw [List.length_append] at this; omega) _ _ _ _ HSL.out)
                go_wp2_with fail
                refine HCC.out.mono ?_
                rintro e w9 ⟨lv, rfl, hlv, hb9⟩
                have hfl : [SS, RR].flatten = SS ++ RR := by simp
                rw [hfl] at hlv
                have hb89 : Below W8.heap.size W8 w9 := ((Below.refl _ _).alloc (Nat.le_refl _) _).trans (hb9.mono (by simp))
                have HB79 : Hid (Below w7.heap.size w7 w9) := hid (HB78.out.trans (hb89.mono HB78.out.size))
                have HB9 : Hid (Below wr.heap.size wr w9) := hid (HB7.out.trans (HB79.out.mono HB7.out.size))
                clear hb89
                have HL3 : Hid (ChV (fun b => b < w6.heap.size ∨ wr.heap.size ≤ b) w9 lv (SS ++ RR)) := hid (hlv.sl.mono (fun b _ hb => by
                  rcases hb with hb | hb
                  · exact hb.1
                  · refine Or.inr ?_
                    have h1 := HB7.out.size
                    have h2 := HB78.out.size
                    simp at hb
                    omega))
                obtain ⟨l3a, l3c, rfl, l3ok, l3cap, l3max⟩ := HL3.out.form
                clear hfl hlv hb9 HCC HSL e0 e1 ez HT8
                generalize SS ++ RR = L3 at *
                have HO9 := hid (HO.out.below HB9.out)
                have HB69 : Hid (Below w6.heap.size w6 w9) := hid (HB.out.trans (HB9.out.mono HB.out.size))
                have HOL : Hid (∀ b, some b = (Value.slice oa on oc).ownBlock → w6.heap.size ≤ b ∧ b < wr.heap.size) := hid (fun b hb => HO.out.lt b hb)
                go_wp2
                obtain ⟨nr, hnr⟩ : ∃ nr, nr = wr.heap.size := ⟨_, rfl⟩
                rw [← hnr] at HL3 HOL
                clear hnr HB9 HB79 HB78 HB7 HB67 HS7 HR7 HO HB
                go_loopg [13, 79] L3.length (fun g o i wx => ∃ (q : Nat) (oa : Option Addr) (on oc : Nat), q ≤ L3.length ∧ g = L3.length - q ∧ i = .int .i64 q ∧ o = .slice oa on oc ∧ Hid (OwnC AnyB w6.heap.size 59 wx (.slice oa on oc) (out ++ L3.take q)) ∧ Hid (Below w6.heap.size w6 wx) ∧ Hid (∀ b, (b < w6.heap.size ∨ nr ≤ b) → b < w9.heap.size → wx.heap[b]? = w9.heap[b]?) ∧ Hid (w9.heap.size ≤ wx.heap.size) ∧ Hid (∀ b, some b = (Value.slice oa on oc).ownBlock → (w6.heap.size ≤ b ∧ b < nr) ∨ w9.heap.size ≤ b))
                case atStart => exact ⟨0, oa, on, oc, by omega, rfl, rfl, rfl, hid (by simpa using HO9.out), HB69, hid (fun _ _ _ => rfl), hid (Nat.le_refl _), hid (fun b hb => .inl (HOL.out b hb))⟩
                case round =>
                  clear HO9 HOL
                  obtain ⟨q, oa, on, oc, hq, hgq, rfl, rfl, HO, HB, HKZ, HSZ, HOB⟩ := hrel
                  by_cases hlq : q < L3.length
                  · have hq0 : (0 : Int) ≤ q := by omega
                    have hq1 : (q : Int) < L3.length := by omega
                    obtain ⟨hbk3, -, y0, y1, y2, y3, y4, ul, y5, hul⟩ := (HL3.out.keep (w' := wr) (fun b hb hlt => HKZ.out b hb hlt)).at hlq
                    have HTQ : Hid (out ++ L3.take (q + 1) = out ++ L3.take q ++ [L3[q]]) := hid (by rw [← take_snoc hlq, List.append_assoc])
                    have HGQ : Hid (GoodC L3[q]) := hid (HG3.out _ (List.getElem_mem _))
                    have HLQ : Hid ((out ++ L3.take q).length ≤ 600000) := hid (by
                      have h1 := HLO.out
                      have h2 := HLS.out
                      rw [List.length_append, List.length_take]
                      omega)
                    generalize L3[q] = c at *
                    obtain ⟨k0, i0, f0, o0, n0, vl⟩ := c
                    simp only at y0 y1 y2 y3 y4 hul
                    obtain ⟨al, cl, rfl, -, -, -⟩ := hul.form
                    have HUL := hid hul
                    clear hul
                    go_upto_region 22 with fail
                    obtain ⟨W1, hW1⟩ : ∃ W1, W1 = wr.alloc (.cells #[.int .i64 k0, .int .i64 i0, .int .i64 f0, .int .i64 o0, .int .i64 n0, .slice al vl.length cl] 59) := ⟨_, rfl⟩
                    rw [← hW1]
                    have HB1 : Hid (Below wr.heap.size wr W1) := hid (by rw [hW1]; exact (Below.refl _ _).alloc (Nat.le_refl _) _)
                    have HT1 : Hid (W1.heap[wr.heap.size]? = some (.cells #[.int .i64 k0, .int .i64 i0, .int .i64 f0, .int .i64 o0, .int .i64 n0, .slice al vl.length cl] 59 (0, 0))) := hid (by rw [hW1]; exact heap_new wr _ rfl)
                    have HS1 : Hid (W1.heap.size = wr.heap.size + 1) := hid (by rw [hW1]; simp)
                    have x5 : W1.cell? ⟨wr.heap.size, 5, none⟩ = some (.slice al vl.length cl) := by rw [cell_of_row _ _ 5 _ _ (0, 0) HT1.out]; rfl
                    have xz : wr.heap.size < W1.heap.size := (Array.getElem?_eq_some_iff.1 HT1.out).1
                    have HCL := hid (clone_any vl (by have := HGQ.out.len; simp only at this; omega) (.slice al vl.length cl) _ W1 (HUL.out.keep (KeepS.below HB1.out)))
                    clear hW1 y0 y1 y2 y3 y4 y5 hbk3
                    go_wp2_with fail
                    refine HCL.out.mono ?_
                    rintro e w5 ⟨xv, rfl, hxv, hb5⟩
                    have HXV : Hid (IntsV (W1.heap.size ≤ ·) w5 xv vl) := hid hxv.sl
                    obtain ⟨xa, xc, rfl, -, -, -⟩ := HXV.out.form
                    have HB5 : Hid (Below wr.heap.size wr w5) := hid (HB1.out.trans (hb5.mono HB1.out.size))
                    have HT5 : Hid (w5.heap[wr.heap.size]? = some (.cells #[.int .i64 k0, .int .i64 i0, .int .i64 f0, .int .i64 o0, .int .i64 n0, .slice al vl.length cl] 59 (0, 0))) := hid ((hb5.block _ (by rw [HS1.out]; omega)).trans HT1.out)
                    have x5 : w5.cell? ⟨wr.heap.size, 5, none⟩ = some (.slice al vl.length cl) := by rw [cell_of_row _ _ 5 _ _ (0, 0) HT5.out]; rfl
                    have xf : w5.frozen? ⟨wr.heap.size, 5, none⟩ = false := by simp [World.frozen?, HT5.out]
                    have xz : wr.heap.size < w5.heap.size := (Array.getElem?_eq_some_iff.1 HT5.out).1
                    clear hxv hb5 HCL HT1
                    go_upto_region 23 with fail
                    obtain ⟨W6, hW6⟩ : ∃ W6, W6 = w5.setCell ⟨wr.heap.size, 5, none⟩ (.slice xa vl.length xc) := ⟨_, rfl⟩
                    rw [← hW6]
                    have HT6 : Hid (W6.heap[wr.heap.size]? = some (.cells #[.int .i64 k0, .int .i64 i0, .int .i64 f0, .int .i64 o0, .int .i64 n0, .slice xa vl.length xc] 59 (0, 0))) := hid (by rw [hW6]; exact heap_setCell_same w5 wr.heap.size 5 _ _ _ HT5.out)
                    have HTT : Hid (Turns (fun b => b = wr.heap.size) w5 W6) := hid (by rw [hW6]; exact (Turns.refl _ _).setCell _ _ rfl)
                    clear hW6 x5 xf xz
                    have HKK : Hid (∀ b, b < wr.heap.size → W6.heap[b]? = wr.heap[b]?) := hid (fun b hb => (HTT.out.block b (by omega) (Nat.lt_of_lt_of_le hb HB5.out.size)).trans (HB5.out.block b hb))
                    have HSW : Hid (wr.heap.size ≤ W6.heap.size) := hid (Nat.le_trans HB5.out.size HTT.out.size)
                    have HOW : Hid (OwnC AnyB w6.heap.size 59 W6 (.slice oa on oc) (out ++ L3.take q)) := hid (HO.out.keepOwn (fun b _ hl => HKK.out b hl))
                    have HOLT : Hid (∀ b, some b = (Value.slice oa on oc).ownBlock → b < wr.heap.size) := hid (fun b hb => (HO.out.lt b hb).2)
                    have HXU : Hid (IntsV (fun b => AnyB b ∧ some b ≠ (Value.slice oa on oc).ownBlock) W6 (.slice xa vl.length xc) vl) := hid ((HXV.out.keep (w' := W6) (fun b hb hlt => HTT.out.block b (by rw [HS1.out] at hb; omega) hlt)).mono (fun b _ hb => ⟨trivial, fun e => by have h1 := HOLT.out b e; have h2 : W1.heap.size ≤ b := hb; rw [HS1.out] at h2; omega⟩))
                    have z0 : W6.cell? ⟨wr.heap.size, 0, none⟩ = some (.int .i64 k0) := by rw [cell_of_row _ _ 0 _ _ (0, 0) HT6.out]; rfl
                    have z1 : W6.cell? ⟨wr.heap.size, 1, none⟩ = some (.int .i64 i0) := by rw [cell_of_row _ _ 1 _ _ (0, 0) HT6.out]; rfl
                    have z2 : W6.cell? ⟨wr.heap.size, 2, none⟩ = some (.int .i64 f0) := by rw [cell_of_row _ _ 2 _ _ (0, 0) HT6.out]; rfl
                    have z3 : W6.cell? ⟨wr.heap.size, 3, none⟩ = some (.int .i64 o0) := by rw [cell_of_row _ _ 3 _ _ (0, 0) HT6.out]; rfl
                    have z4 : W6.cell? ⟨wr.heap.size, 4, none⟩ = some (.int .i64 n0) := by rw [cell_of_row _ _ 4 _ _ (0, 0) HT6.out]; rfl
                    have z5 : W6.cell? ⟨wr.heap.size, 5, none⟩ = some (.slice xa vl.length xc) := by rw [cell_of_row _ _ 5 _ _ (0, 0) HT6.out]; rfl
                    have zz : wr.heap.size < W6.heap.size := (Array.getElem?_eq_some_iff.1 HT6.out).1
                    go_wp2_with (at_builtin; go_must (refine wpList_appC1N (v := .slice oa on oc) rfl _ _ rfl Try.app30 rfl HOW.out rfl ⟨k0, i0, f0, o0, n0, vl⟩ (.slice xa vl.length xc) rfl rfl HXU.out (by have := HLQ.out; omega) (by have h1 := HB.out.size; have h2 := HSW.out; omega) ?_))
                    intro v' w7 hown7 ht7 hfr7
                    obtain ⟨va, vn, vc, rfl⟩ : ∃ a n c, v' = .slice a n c := by obtain ⟨a, c, h, -⟩ := hown7.sl.form; exact ⟨_, _, _, h⟩
                    have HOF : Hid (OwnC AnyB w6.heap.size 59 w7 (.slice va vn vc) (out ++ L3.take (q + 1))) := hid (by rw [HTQ.out, List.append_assoc]; exact hown7)
                    have HT7 := hid ht7
                    have HF7 := hid hfr7
                    clear hown7 ht7 hfr7 z0 z1 z2 z3 z4 z5 zz HOW HXU HTQ
                    go_wp2
                    go_roundg (L3.length - (q + 1))
                    case measure => omega
                    case rel =>
                      have hws : w6.heap.size ≤ wr.heap.size := HB.out.size
                      refine ⟨q + 1, va, vn, vc, by omega, rfl, by go_num, rfl, HOF, hid ?_, hid (fun b hb hl => ?_), hid ?_, hid (fun b hb => ?_)⟩
                      · have t1 : Turns (fun b => w6.heap.size ≤ b) wr w7 := ((Turns.of_below HB5.out).trans (HTT.out.mono (fun b _ e => by omega))).trans (HT7.out.mono (fun b _ e => by rcases HOB.out b e with h | h; exact h.1; have := HB69.out.size; omega))
                        exact HB.out.trans (t1.below HB.out.size (fun b hb => hb))
                      · have hlt : b < wr.heap.size := Nat.lt_of_lt_of_le hl HSZ.out
                        rw [HT7.out.block b (fun e => by rcases HOB.out b e with h | h <;> omega) (Nat.lt_of_lt_of_le hlt HSW.out), HKK.out b hlt]
                        exact HKZ.out b hb hl
                      · have h1 := HT7.out.size
                        have h2 := HSW.out
                        have h3 := HSZ.out
                        omega
                      · rcases HF7.out with h | h
                        · exact HOB.out b (hb.trans h)
                        · have h1 := h b hb.symm
                          have h2 := HSW.out
                          have h3 := HSZ.out
                          exact .inr (by omega)
                  · obtain rfl : q = L3.length := by omega
                    have hq3 : ¬ ((L3.length : Nat) : Int) < L3.length := by omega
                    have HOF : Hid (OwnC AnyB w6.heap.size 59 wr (.slice oa on oc) (out ++ L3)) := hid (by have := HO.out; rw [List.take_length] at this; exact this)
                    clear HO HKZ HSZ HOB
                    go_wp2
                    go_roundg (ks.length - (k + 1))
                    case measure => omega
                    case rel => exact ⟨k + 1, oa, on, oc, out ++ L3, by omega, rfl, by go_num, rfl, HOF, HOU2, HB⟩
            · obtain rfl : k = ks.length := by omega
              have hk3 : ¬ ((ks.length : Nat) : Int) < ks.length := by omega
              rw [List.take_length] at HOU
              have HMO := hid (Mer.merge_ok HP1.out HP2.out HKO.out.1 (fun k => by
                rw [HKO.out.2, ← HL.out]
                constructor
                · rintro ⟨c, hc1, hc2⟩; exact ⟨c, List.mem_append.1 hc1, hc2⟩
                · rintro ⟨c, hc1, hc2⟩; exact ⟨c, List.mem_append.2 hc1, hc2⟩) HOU.out)
              have HM := hid (merge_good HR1.out HR2.out HMO.out.1)
              have HRES : Hid (ChV AnyB wr (.slice oa on oc) (mergeL cs ds)) := hid (by rw [HM.out.2, ← HMO.out.2]; exact (HO.out.sl).mono (fun _ _ _ => trivial))
              have HBR : Hid (Below w.heap.size w wr) := hid (HB06.out.trans (HB.out.mono HB06.out.size))
              clear HO HB
              go_wp2
              go_ret2
              exact ⟨_, by rw [HM.out.1]; rfl, HRES.out, HBR.out⟩

end Go.Proofs.Yteepdnamkcgndaa
