/- first of the reference of layer 28. -/
import Derived.Test.YtjaejnacdanpkaaDoorB7
namespace Go.Proofs.YtjaejnacdanpkaaDoor
open Go.RowKit

/-- The first set of so many further ones that shows something together with others. -/
def firstO (R F : List (List Int)) (c set : List Int) (k many : Nat) : Option (List Int) := ((Cov.comb k (F.length - k) many).map (set ++ ·)).find? (showsR R F c)
theorem firstO_zero (R F : List (List Int)) (c set : List Int) (k : Nat) : firstO R F c set k 0 = if showsR R F c set = true then some set else none := by
  have e : Cov.comb k (F.length - k) 0 = [[]] := by cases F.length - k <;> rfl
  unfold firstO
  rw [e]
  simp only [List.map_cons, List.map_nil, List.append_nil, List.find?_cons, List.find?_nil]
  cases showsR R F c set <;> rfl
theorem firstO_end (R F : List (List Int)) (c set : List Int) (j : Nat) : firstO R F c set F.length (j + 1) = none := by
  unfold firstO
  rw [Nat.sub_self]
  rfl
theorem firstO_step (R F : List (List Int)) (c set : List Int) (k j : Nat) (h : k < F.length) : firstO R F c set k (j + 1) = (firstO R F c (set ++ [(k : Int)]) (k + 1) j).or (firstO R F c set (k + 1) (j + 1)) := by
  unfold firstO
  have e : F.length - k = (F.length - (k + 1)) + 1 := by omega
  rw [e]
  simp only [Cov.comb, List.map_append, List.find?_append, List.map_map]
  congr 2
  refine List.map_congr_left (fun x _ => ?_)
  simp

/-- What first leaves. -/
def FirstP (B : Nat) (R F : List (List Int)) (c set : List Int) (k many : Nat) (w : World) (e : Ending) (w' : World) : Prop :=
  ∃ a l cc, e = .returned (.tuple #[.slice a l cc, .bool (firstO R F c set k many).isSome]) ∧ (∀ L, firstO R F c set k many = some L → IntsV (B ≤ ·) w' (.slice a l cc) L) ∧ Below w.heap.size w w'
theorem grow_from2 {B N : Nat} {S : Nat → Prop} (hS : ∀ b, S b → B ≤ b) (h : B ≤ N) : ∀ b, Grow S N b → B ≤ b := by
  rintro b (⟨h1, _⟩ | h1)
  · exact hS b h1
  · exact Nat.le_trans h h1

set_option maxRecDepth 100000 in
set_option maxHeartbeats 4000000 in
theorem first_base (B m : Nat) (R F : List (List Int)) (c : List Int) (hR : ∀ r ∈ R, r.length = m) (hF : ∀ f ∈ F, f.length = m) (hc : c.length = m) (sa : Option Addr) (sl sc : Nat) (fa : Option Addr) (fc : Nat) (t : Int) (vr vc : Value) (S1 S2 S3 : Nat → Prop)
    (set : List Int) (hset : ∀ k ∈ set, 0 ≤ k ∧ k < F.length) (k : Nat) (vs : Value) (w : World)
    (hf : RowsV S1 w (.slice fa F.length fc) F) (hr : RowsV S2 w vr R) (hcv : IntsV S3 w vc c) (hs : IntsV (B ≤ ·) w vs set) :
    Calls Tryd.prog 68 #[.agg #[.slice sa sl sc, .slice fa F.length fc, .int .i64 t], vr, vc, vs, .int .i64 k, .int .i64 (0 : Nat)] w (FirstP B R F c set k 0 w) := by
  have hA0 : Below w.heap.size w (w.alloc (.cells #[.slice sa sl sc, .slice fa F.length fc, .int .i64 t] 25)) := (Below.refl _ _).alloc (Nat.le_refl _) _
  have HS := hid (shows_any m R F c set hR hF hc hset (.slice sa sl sc) sa sl sc rfl fa fc t vr vc vs S1 S2 S3 (B ≤ ·) _ (RowsV.keep hf (KeepS.below hA0)) (RowsV.keep hr (KeepS.below hA0)) (IntsV.keep hcv (KeepS.below hA0)) (IntsV.keep hs (KeepS.below hA0)))
  have hs0 := hs
  obtain ⟨as_, cs_, rfl, hoks, hcaps, hmaxs⟩ := hs.form
  have HSV := hid hs0
  have HA0 := hid hA0
  clear hA0 hf hr hcv hs hs0
  have HD := hid (firstO_zero R F c set k)
  unfold FirstP
  generalize firstO R F c set k 0 = fo at *
  generalize showsR R F c set = bb at *
  go_enter Tryd.func68, Tryd.ntmps68
  go_wp2_with fail
  refine HS.out.mono ?_
  rintro e w1 ⟨rfl, hb1⟩
  have HB := hid (HA0.out.trans (hb1.mono (by simp)))
  clear hb1
  go_wp2
  go_ret2
  refine ⟨as_, set.length, cs_, ?_, fun L hL => ?_, HB.out⟩
  · rw [HD.out]; cases bb <;> rfl
  · rw [HD.out] at hL
    cases bb with
    | true => obtain rfl : set = L := by simpa using hL
              exact IntsV.keep HSV.out (KeepS.below HB.out)
    | false => simp at hL


set_option maxRecDepth 100000 in
set_option maxHeartbeats 4000000 in
theorem first_step (B : Nat) (R F : List (List Int)) (c : List Int) (sa : Option Addr) (sl sc : Nat) (fa : Option Addr) (fc : Nat) (t : Int) (vr vc : Value) (S1 S2 S3 : Nat → Prop)
    (set : List Int) (hset : ∀ k ∈ set, 0 ≤ k ∧ k < F.length) (hsl : set.length ≤ 1000) (from_ : Nat) (hfr : from_ ≤ F.length) (j : Nat) (hj12 : j ≤ 1000) (jn : Int) (hjn : jn = j + 1) (vs : Value) (w : World)
    (hf : RowsV S1 w (.slice fa F.length fc) F) (hr : RowsV S2 w vr R) (hcv : IntsV S3 w vc c) (hBw : B ≤ w.heap.size) (hs : IntsV (B ≤ ·) w vs set)
    (ih : ∀ (set' : List Int) (k : Nat) (kv jv : Int) (vs' : Value) (W : World), kv = k → jv = j → k ≤ F.length → ((∀ x ∈ set', 0 ≤ x ∧ x < F.length) ∧ set'.length ≤ set.length + 1) → RowsV S1 W (.slice fa F.length fc) F → RowsV S2 W vr R → IntsV S3 W vc c → (B ≤ W.heap.size ∧ IntsV (B ≤ ·) W vs' set') →
      Calls Tryd.prog 68 #[.agg #[.slice sa sl sc, .slice fa F.length fc, .int .i64 t], vr, vc, vs', .int .i64 kv, .int .i64 jv] W (FirstP B R F c set' k j W)) :
    Calls Tryd.prog 68 #[.agg #[.slice sa sl sc, .slice fa F.length fc, .int .i64 t], vr, vc, vs, .int .i64 from_, .int .i64 jn] w (FirstP B R F c set from_ (j + 1) w) := by
  have hA0 : Below w.heap.size w (w.alloc (.cells #[.slice sa sl sc, .slice fa F.length fc, .int .i64 t] 25)) := (Below.refl _ _).alloc (Nat.le_refl _) _
  have hr0 := hr
  have hc0 := hcv
  have hs0 := hs
  obtain ⟨ar, cr, rfl, hokr, hcapr, hmaxr⟩ := hr.form
  obtain ⟨ac, cc, rfl, hokc, hcapc, hmaxc⟩ := hcv.form
  obtain ⟨as_, cs_, rfl, hoks, hcaps, hmaxs⟩ := hs.form
  obtain ⟨fa', fc', ef, hokf, hcapf, hmaxf⟩ := hf.form
  cases ef
  have hne : (jn == 0) = false := beqF (by omega)
  have hjn1 : jn ≤ 1001 := by omega
  have hjn0 : 1 ≤ jn := by omega
  have HJN := hid hjn
  clear hjn
  have bx : ∀ q (h : q < 3) W, Below (w.heap.size + 1) (w.alloc (.cells #[.slice sa sl sc, .slice fa F.length fc, .int .i64 t] 25)) W → W.cell? ⟨w.heap.size, q, none⟩ = (#[.slice sa sl sc, .slice fa F.length fc, .int .i64 t] : Array Value)[q]? := fun q h W hW => by
    have hb0 : (w.alloc (.cells #[.slice sa sl sc, .slice fa F.length fc, .int .i64 t] 25)).heap[w.heap.size]? = some (.cells #[.slice sa sl sc, .slice fa F.length fc, .int .i64 t] 25 (0, 0)) := World.alloc_heap_new w _
    exact cell_of_row _ _ q _ _ (0, 0) ((hW.block w.heap.size (by omega)).trans hb0)
  have HBX := hid bx
  have hF0 := RowsV.keep hf (KeepS.below hA0)
  have hR0 := RowsV.keep hr0 (KeepS.below hA0)
  have hC0 := IntsV.keep hc0 (KeepS.below hA0)
  have hS0 := IntsV.keep hs0 (KeepS.below hA0)
  have hsz1 : (w.alloc (.cells #[.slice sa sl sc, .slice fa F.length fc, .int .i64 t] 25)).heap.size = w.heap.size + 1 := by simp
  have HA0 := hid hA0
  have HSET := hid hset
  have HIH := hid ih
  clear hA0 hf hr hr0 hcv hc0 hs hs0 ih bx hset
  unfold FirstP
  go_enter Tryd.func68, Tryd.ntmps68
  go_wp2
  generalize hW : w.alloc (.cells #[.slice sa sl sc, .slice fa F.length fc, .int .i64 t] 25) = W at *
  clear hW
  have HF1 := hid hF0
  have HR1 := hid hR0
  have HC1 := hid hC0
  have HS1 := hid hS0
  clear hF0 hR0 hC0 hS0
  go_loopw [14] (fun i wr => ∃ k : Nat, k ≤ F.length ∧ i = .int .i64 k ∧ Hid (firstO R F c set k (j + 1) = firstO R F c set from_ (j + 1)) ∧ Below (w.heap.size + 1) W wr) (fun i _ => F.length - (intOf i).toNat)
  case atStart => exact ⟨from_, hfr, rfl, hid rfl, Below.refl _ _⟩
  case round =>
    obtain ⟨k, hk, rfl, hpre, hb⟩ := hrel
    have bx0 := HBX.out 0 (by omega) wr hb
    have bx1 := HBX.out 1 (by omega) wr hb
    have bx2 := HBX.out 2 (by omega) wr hb
    simp only [List.getElem?_toArray, List.getElem?_cons_zero, List.getElem?_cons_succ] at bx0 bx1 bx2
    have hzb : w.heap.size < wr.heap.size := by have := hb.size; omega
    by_cases hlt : k < F.length
    · have HT := hid (firstO_step R F c set k j hlt)
      have hk1 : (k : Int) < F.length := by omega
      have hnset : (∀ x ∈ set ++ [(k : Int)], 0 ≤ x ∧ x < F.length) ∧ (set ++ [(k : Int)]).length ≤ set.length + 1 := ⟨fun x hx => by
        rcases List.mem_append.1 hx with h | h
        · exact HSET.out x h
        · rw [List.mem_singleton.1 h]; omega, by simp⟩
      have HNS := hid hnset
      clear hnset
      have HB := hid hb
      have hbW : Below W.heap.size W wr := by rw [hsz1]; exact hb
      have HF0 := hid (RowsV.keep HF1.out (KeepS.below hbW))
      have HR0 := hid (RowsV.keep HR1.out (KeepS.below hbW))
      have HC0 := hid (IntsV.keep HC1.out (KeepS.below hbW))
      have HS0 := hid (IntsV.keep HS1.out (KeepS.below hbW))
      clear hb hbW
      have hx0 : ∀ x : Grew wr, x.1.cell? ⟨w.heap.size, 0, none⟩ = some (.slice sa sl sc) := fun x => (x.cell _ _ hzb).trans bx0
      have hx1 : ∀ x : Grew wr, x.1.cell? ⟨w.heap.size, 1, none⟩ = some (.slice fa F.length fc) := fun x => (x.cell _ _ hzb).trans bx1
      have hx2 : ∀ x : Grew wr, x.1.cell? ⟨w.heap.size, 2, none⟩ = some (.int .i64 t) := fun x => (x.cell _ _ hzb).trans bx2
      have hdr : Below wr.heap.size wr (wr.drewN 1) := below_drewN (Below.refl _ _) 1
      go_wp2
      refine wp_region_grewP 18 (Plan.quiets [0, 1, 2, 4, 6, 9, 10, 11, 12] (.two 3 7 (.two 5 7 (.one 7 (.one 8 (.one 13 (Plan.quiets [14, 15, 16, 17] .done)))) (.one 5 (.one 8 (.one 13 (Plan.quiets [14, 15, 16, 17] .done))))) (.one 3 (.one 5 (.one 8 (.one 13 (Plan.quiets [14, 15, 16, 17] .done))))))) (by kernel_rfl) (by kernel_rfl) ?_
      iterate 9 (refine wpPlan_quiet rfl ?_; repeat (go_big_quiet_step (fail)); refine wpQuiet_nil ?_)
      have hI : ∀ u : World, IntsF (u.heap.size ≤ ·) (u.alloc (.cells #[] 3)) (.slice (some ⟨u.heap.size, 0, none⟩) 0 0) [] := fun u =>
        ⟨World.ownsRow_made u #[] 0 (Nat.zero_le _) (Nat.zero_le _) (by simp), fun b hb => by simp [Value.ownBlock] at hb; omega⟩
      have hnb : ∀ (u : World) (b : Nat), some b = (Value.slice (some ⟨u.heap.size, 0, none⟩) 0 0).ownBlock → u.heap.size ≤ b := fun u b hb => (hI u).2 b hb.symm
      have hal : ∀ (u : World) o, Below u.heap.size u (u.alloc o) := fun u o => (Below.refl _ _).alloc (Nat.le_refl _) _
      have h1F : ∀ u : World, IntsF (u.heap.size ≤ ·) (u.alloc (.cells #[.int .i64 (k : Int)] 3)) (.slice (some ⟨u.heap.size, 0, none⟩) 1 1) [(k : Int)] := fun u => int1F u _
      have hs1000 : set.length + 1 ≤ 1000000000 := by omega
      refine wpPlan_two rfl rfl ?_ ?_
      · have hI1 := hI (wr.drewN 1)
        have hn1 := hnb (wr.drewN 1)
        have hb1 := hdr.trans (hal (wr.drewN 1) (.cells #[] 3))
        go_wp2
        generalize hw1 : (wr.drewN 1).alloc (.cells #[] 3) = w1 at *
        refine qn_mk ⟨InGrew.of hb1, ?_⟩
        refine wpPlan_two rfl rfl ?_ ?_
        · go_wp2_with (at_builtin; go_must (refine wpList_appI rfl _ _ rfl Tryd.app22 rfl hI1 (Below.refl _ _) rfl (IntsV.keep HS0.out (KeepS.below hb1)) (by simp; omega) ?_))
          intro v1 w3 hI3 ht3
          have hb3 : Below wr.heap.size wr w3 := hb1.trans (ht3.below hb1.size (fun b hb => hn1 b hb))
          obtain ⟨av, cv, rfl, -⟩ := hI3.sl.form
          clear ht3
          go_wp2
          refine qn_mk ⟨InGrew.of hb3, ?_⟩
          refine wpPlan_one rfl ?_
          have h1 := h1F w3
          have hb4 := hb3.trans ((hal w3 (.cells #[.int .i64 (k : Int)] 3)).mono hb3.size)
          have hal3 := hal w3 (.cells #[.int .i64 (k : Int)] 3)
          go_wp2
          refine qn_mk ⟨InGrew.of hb4, ?_⟩
          refine wpPlan_one rfl ?_
          go_wp2_with (at_builtin; go_must (refine wpList_appI rfl _ _ rfl Tryd.app22 rfl hI3 hal3 rfl h1.sl (by simpa using hs1000) ?_))
          intro v5 w5 hI5 ht5
          have hbb : Below wr.heap.size wr w5 := hb4.trans (ht5.below hb4.size (fun b hb => grow_from hb1.size b (hI3.2 b hb.symm)))
          have hs5 := grow_from2 (grow_from hb1.size) hb3.size
          clear ht5 hI3 h1 hal3 hb4 hb3 hI1 hn1 hb1 hw1
          obtain ⟨a5, c5, hv5, -⟩ := hI5.sl.form
          rw [List.length_append, List.length_singleton] at hv5
          subst hv5
          have HI4 := hid (IntsV.mono hI5.sl (S' := (B ≤ ·)) (fun b _ h => Nat.le_trans (show B ≤ wr.heap.size by omega) (hs5 b h)))
          have HBB := hid hbb
          clear hI5 hbb hs5
          go_wp2
          refine qn_mk ⟨InGrew.of HBB.out, ?_⟩
          refine wpPlan_one rfl ?_
          go_wp2_with fail
          refine (HIH.out (set ++ [(k : Int)]) (k + 1) _ _ _ _ (by omega) (by have := HJN.out; omega) (by omega) (HNS.out) (RowsV.keep HF0.out (KeepS.below HBB.out)) (RowsV.keep HR0.out (KeepS.below HBB.out)) (IntsV.keep HC0.out (KeepS.below HBB.out)) ⟨by have := HBB.out.size; omega, HI4.out⟩).mono ?_
          rintro e w9 ⟨a9, l9, c9, rfl, h9, hb9⟩
          have HBG := hid (HBB.out.trans (hb9.mono HBB.out.size))
          have hb10 := HB.out.trans (HBG.out.mono hzb)
          generalize hfo : firstO R F c (set ++ [(k : Int)]) (k + 1) j = fo at *
          cases fo with
          | some L =>
            have HL : Hid (firstO R F c set from_ (j + 1) = some L) := hid (by rw [← hpre.out, HT.out]; rfl)
            have H9 := hid (h9 L rfl)
            have HB10 := hid (HA0.out.trans (hb10.mono (Nat.le_succ _)))
            clear hb9 hb10 h9 hfo hpre HT HI4 HBB
            go_wp2
            refine qn_mk ⟨InGrew.of HBG.out, ?_⟩
            iterate 4 (refine wpPlan_quiet rfl ?_; repeat (go_big_quiet_step (fail)); refine wpQuiet_nil ?_)
            refine wpPlan_done ?_
            go_wp2
            go_ret2
            refine ⟨a9, l9, c9, by rw [HL.out]; rfl, fun L' hL' => ?_, HB10.out⟩
            rw [HL.out] at hL'
            obtain rfl : L = L' := by simpa using hL'
            exact H9.out
          | none =>
            have HP : Hid (firstO R F c set (k + 1) (j + 1) = firstO R F c set from_ (j + 1)) := hid (by rw [← hpre.out, HT.out]; rfl)
            have HB10 := hid hb10
            clear hb9 hb10 h9 hfo hpre HT HI4 HBB
            go_wp2
            refine qn_mk ⟨InGrew.of HBG.out, ?_⟩
            iterate 4 (refine wpPlan_quiet rfl ?_; repeat (go_big_quiet_step (fail)); refine wpQuiet_nil ?_)
            refine wpPlan_done ?_
            go_wp2
            go_roundw
            case rel => exact ⟨k + 1, by omega, by go_num, HP, HB10.out⟩
            case measure => simp [intOf]; omega
        · have h1 := h1F w1
          have hal1 := hal w1 (.cells #[.int .i64 (k : Int)] 3)
          have hb2 := hb1.trans (hal1.mono hb1.size)
          go_wp2
          generalize hw2 : w1.alloc (.cells #[.int .i64 (k : Int)] 3) = w2 at *
          refine qn_mk ⟨InGrew.of hb2, ?_⟩
          refine wpPlan_one rfl ?_
          go_wp2_with (at_builtin; go_must (refine wpList_appI rfl _ _ rfl Tryd.app22 rfl hI1 hal1 rfl (IntsV.keep HS0.out (KeepS.below hb2)) (by simp; omega) ?_))
          intro v1 w3 hI3 ht3
          have hb3 : Below wr.heap.size wr w3 := hb2.trans (ht3.below hb2.size (fun b hb => hn1 b hb))
          have hk3 := IntsV.keep h1.sl (ht3.keep (fun b (hb : w1.heap.size ≤ b) hb' => by have := (hI1.1.lt b hb'.symm).2; omega))
          obtain ⟨av, cv, rfl, -⟩ := hI3.sl.form
          clear ht3 h1
          go_wp2
          refine qn_mk ⟨InGrew.of hb3, ?_⟩
          refine wpPlan_one rfl ?_
          go_wp2_with (at_builtin; go_must (refine wpList_appI rfl _ _ rfl Tryd.app22 rfl hI3 (Below.refl _ _) rfl hk3 (by simpa using hs1000) ?_))
          intro v5 w5 hI5 ht5
          have hbb : Below wr.heap.size wr w5 := hb3.trans (ht5.below hb3.size (fun b hb => grow_from hb1.size b (hI3.2 b hb.symm)))
          have hs5 := grow_from2 (grow_from hb1.size) hb3.size
          clear ht5 hI3 hk3 hal1 hb2 hb3 hI1 hn1 hb1 hw1 hw2
          obtain ⟨a5, c5, hv5, -⟩ := hI5.sl.form
          rw [List.length_append, List.length_singleton] at hv5
          subst hv5
          have HI4 := hid (IntsV.mono hI5.sl (S' := (B ≤ ·)) (fun b _ h => Nat.le_trans (show B ≤ wr.heap.size by omega) (hs5 b h)))
          have HBB := hid hbb
          clear hI5 hbb hs5
          go_wp2
          refine qn_mk ⟨InGrew.of HBB.out, ?_⟩
          refine wpPlan_one rfl ?_
          go_wp2_with fail
          refine (HIH.out (set ++ [(k : Int)]) (k + 1) _ _ _ _ (by omega) (by have := HJN.out; omega) (by omega) (HNS.out) (RowsV.keep HF0.out (KeepS.below HBB.out)) (RowsV.keep HR0.out (KeepS.below HBB.out)) (IntsV.keep HC0.out (KeepS.below HBB.out)) ⟨by have := HBB.out.size; omega, HI4.out⟩).mono ?_
          rintro e w9 ⟨a9, l9, c9, rfl, h9, hb9⟩
          have HBG := hid (HBB.out.trans (hb9.mono HBB.out.size))
          have hb10 := HB.out.trans (HBG.out.mono hzb)
          generalize hfo : firstO R F c (set ++ [(k : Int)]) (k + 1) j = fo at *
          cases fo with
          | some L =>
            have HL : Hid (firstO R F c set from_ (j + 1) = some L) := hid (by rw [← hpre.out, HT.out]; rfl)
            have H9 := hid (h9 L rfl)
            have HB10 := hid (HA0.out.trans (hb10.mono (Nat.le_succ _)))
            clear hb9 hb10 h9 hfo hpre HT HI4 HBB
            go_wp2
            refine qn_mk ⟨InGrew.of HBG.out, ?_⟩
            iterate 4 (refine wpPlan_quiet rfl ?_; repeat (go_big_quiet_step (fail)); refine wpQuiet_nil ?_)
            refine wpPlan_done ?_
            go_wp2
            go_ret2
            refine ⟨a9, l9, c9, by rw [HL.out]; rfl, fun L' hL' => ?_, HB10.out⟩
            rw [HL.out] at hL'
            obtain rfl : L = L' := by simpa using hL'
            exact H9.out
          | none =>
            have HP : Hid (firstO R F c set (k + 1) (j + 1) = firstO R F c set from_ (j + 1)) := hid (by rw [← hpre.out, HT.out]; rfl)
            have HB10 := hid hb10
            clear hb9 hb10 h9 hfo hpre HT HI4 HBB
            go_wp2
            refine qn_mk ⟨InGrew.of HBG.out, ?_⟩
            iterate 4 (refine wpPlan_quiet rfl ?_; repeat (go_big_quiet_step (fail)); refine wpQuiet_nil ?_)
            refine wpPlan_done ?_
            go_wp2
            go_roundw
            case rel => exact ⟨k + 1, by omega, by go_num, HP, HB10.out⟩
            case measure => simp [intOf]; omega
      · have h1 := h1F (wr.drewN 1)
        have hb1 := hdr.trans (hal (wr.drewN 1) (.cells #[.int .i64 (k : Int)] 3))
        go_wp2
        generalize hw1 : (wr.drewN 1).alloc (.cells #[.int .i64 (k : Int)] 3) = w1 at *
        refine qn_mk ⟨InGrew.of hb1, ?_⟩
        refine wpPlan_one rfl ?_
        have hI1 := hI w1
        have hn1 := hnb w1
        have hal1 := hal w1 (.cells #[] 3)
        have hb2 := hb1.trans (hal1.mono hb1.size)
        go_wp2
        generalize hw2 : w1.alloc (.cells #[] 3) = w2 at *
        refine qn_mk ⟨InGrew.of hb2, ?_⟩
        refine wpPlan_one rfl ?_
        go_wp2_with (at_builtin; go_must (refine wpList_appI rfl _ _ rfl Tryd.app22 rfl hI1 (Below.refl _ _) rfl (IntsV.keep HS0.out (KeepS.below hb2)) (by simp; omega) ?_))
        intro v1 w3 hI3 ht3
        have hb3 : Below wr.heap.size wr w3 := hb2.trans (ht3.below hb2.size (fun b hb => Nat.le_trans hb1.size (hn1 b hb)))
        have hk3 := IntsV.keep (IntsV.keep (IntsV.mono (S' := (· < w1.heap.size)) h1.sl (fun b hb _ => hb)) (KeepS.below hal1)) (ht3.keep (fun b (hb : b < w1.heap.size) hb' => by have := hn1 b hb'; omega))
        obtain ⟨av, cv, rfl, -⟩ := hI3.sl.form
        clear ht3 h1
        go_wp2
        refine qn_mk ⟨InGrew.of hb3, ?_⟩
        refine wpPlan_one rfl ?_
        go_wp2_with (at_builtin; go_must (refine wpList_appI rfl _ _ rfl Tryd.app22 rfl hI3 (Below.refl _ _) rfl hk3 (by simpa using hs1000) ?_))
        intro v5 w5 hI5 ht5
        have hbb : Below wr.heap.size wr w5 := hb3.trans (ht5.below hb3.size (fun b hb => Nat.le_trans hb1.size (grow_from hal1.size b (hI3.2 b hb.symm))))
        have hs5 := grow_from2 (fun b h => Nat.le_trans hb1.size (grow_from hal1.size b h)) hb3.size
        clear ht5 hI3 hk3 hal1 hb2 hb3 hI1 hn1 hb1 hw1 hw2
        obtain ⟨a5, c5, hv5, -⟩ := hI5.sl.form
        rw [List.length_append, List.length_singleton] at hv5
        subst hv5
        have HI4 := hid (IntsV.mono hI5.sl (S' := (B ≤ ·)) (fun b _ h => Nat.le_trans (show B ≤ wr.heap.size by omega) (hs5 b h)))
        have HBB := hid hbb
        clear hI5 hbb hs5
        go_wp2
        refine qn_mk ⟨InGrew.of HBB.out, ?_⟩
        refine wpPlan_one rfl ?_
        go_wp2_with fail
        refine (HIH.out (set ++ [(k : Int)]) (k + 1) _ _ _ _ (by omega) (by have := HJN.out; omega) (by omega) (HNS.out) (RowsV.keep HF0.out (KeepS.below HBB.out)) (RowsV.keep HR0.out (KeepS.below HBB.out)) (IntsV.keep HC0.out (KeepS.below HBB.out)) ⟨by have := HBB.out.size; omega, HI4.out⟩).mono ?_
        rintro e w9 ⟨a9, l9, c9, rfl, h9, hb9⟩
        have HBG := hid (HBB.out.trans (hb9.mono HBB.out.size))
        have hb10 := HB.out.trans (HBG.out.mono hzb)
        generalize hfo : firstO R F c (set ++ [(k : Int)]) (k + 1) j = fo at *
        cases fo with
        | some L =>
          have HL : Hid (firstO R F c set from_ (j + 1) = some L) := hid (by rw [← hpre.out, HT.out]; rfl)
          have H9 := hid (h9 L rfl)
          have HB10 := hid (HA0.out.trans (hb10.mono (Nat.le_succ _)))
          clear hb9 hb10 h9 hfo hpre HT HI4 HBB
          go_wp2
          refine qn_mk ⟨InGrew.of HBG.out, ?_⟩
          iterate 4 (refine wpPlan_quiet rfl ?_; repeat (go_big_quiet_step (fail)); refine wpQuiet_nil ?_)
          refine wpPlan_done ?_
          go_wp2
          go_ret2
          refine ⟨a9, l9, c9, by rw [HL.out]; rfl, fun L' hL' => ?_, HB10.out⟩
          rw [HL.out] at hL'
          obtain rfl : L = L' := by simpa using hL'
          exact H9.out
        | none =>
          have HP : Hid (firstO R F c set (k + 1) (j + 1) = firstO R F c set from_ (j + 1)) := hid (by rw [← hpre.out, HT.out]; rfl)
          have HB10 := hid hb10
          clear hb9 hb10 h9 hfo hpre HT HI4 HBB
          go_wp2
          refine qn_mk ⟨InGrew.of HBG.out, ?_⟩
          iterate 4 (refine wpPlan_quiet rfl ?_; repeat (go_big_quiet_step (fail)); refine wpQuiet_nil ?_)
          refine wpPlan_done ?_
          go_wp2
          go_roundw
          case rel => exact ⟨k + 1, by omega, by go_num, HP, HB10.out⟩
          case measure => simp [intOf]; omega
    · obtain rfl : k = F.length := by omega
      have HP := hid (hpre.out.symm.trans (firstO_end R F c set j))
      have HB2 := hid (HA0.out.trans (hb.mono (Nat.le_succ _)))
      clear hb hpre
      go_wp2
      go_ret2
      refine ⟨none, 0, 0, by rw [HP.out]; rfl, fun L hL => ?_, HB2.out⟩
      rw [HP.out] at hL
      exact absurd hL (by simp)

/-- first. -/
theorem first_any (B m : Nat) (R F : List (List Int)) (c : List Int) (hR : ∀ r ∈ R, r.length = m) (hF : ∀ f ∈ F, f.length = m) (hc : c.length = m) (sa : Option Addr) (sl sc : Nat) (fa : Option Addr) (fc : Nat) (t : Int) (vr vc : Value) (S1 S2 S3 : Nat → Prop) :
    ∀ (many : Nat) (set : List Int) (k : Nat) (kv jv : Int) (vs : Value) (w : World), kv = k → jv = many → k ≤ F.length → (∀ x ∈ set, 0 ≤ x ∧ x < F.length) → set.length + many ≤ 1000 →
    RowsV S1 w (.slice fa F.length fc) F → RowsV S2 w vr R → IntsV S3 w vc c → (B ≤ w.heap.size ∧ IntsV (B ≤ ·) w vs set) →
    Calls Tryd.prog 68 #[.agg #[.slice sa sl sc, .slice fa F.length fc, .int .i64 t], vr, vc, vs, .int .i64 kv, .int .i64 jv] w (FirstP B R F c set k many w)
  | 0, set, k, kv, jv, vs, w, hk, hj, hkF, hset, _, hf, hr, hcv, ⟨_, hs⟩ => by
    subst hk; subst hj
    exact first_base B m R F c hR hF hc sa sl sc fa fc t vr vc S1 S2 S3 set hset k vs w hf hr hcv hs
  | j + 1, set, k, kv, jv, vs, w, hk, hj, hkF, hset, hl, hf, hr, hcv, ⟨hBw, hs⟩ => by
    subst hk; subst hj
    exact first_step B R F c sa sl sc fa fc t vr vc S1 S2 S3 set hset (by omega) k hkF j (by omega) _ (by omega) vs w hf hr hcv hBw hs
      (fun set' k' kv' jv' vs' W h1 h2 h3 h4 h5 h6 h7 h8 => first_any B m R F c hR hF hc sa sl sc fa fc t vr vc S1 S2 S3 j set' k' kv' jv' vs' W h1 h2 h3 h4.1 (by have := h4.2; omega) h5 h6 h7 h8)

end Go.Proofs.YtjaejnacdanpkaaDoor
