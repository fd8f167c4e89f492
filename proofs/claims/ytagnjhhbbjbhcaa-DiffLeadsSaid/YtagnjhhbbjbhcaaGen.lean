/- The generators of the reference of layer 36: Shape, World. -/
import Derived.Test.YtagnjhhbbjbhcaaOwn
namespace Go.Proofs.Ytagnjhhbbjbhcaa
open Go.RowKit

/-- What Shape returns. -/
def shapeL (l : List Int) : List Int := (List.range (1 + (atI l 0 3).toNat)).map fun i => 1 + atI l (1 + i) 4

set_option maxHeartbeats 400000 in
theorem shape_any (l : List Int) (hl : Fit l) (v : Value) (S : Nat → Prop) (w : World) (hv : IntsV S w v l) :
    Calls Try.prog 8 #[v] w fun e w' => ∃ u, e = .returned u ∧ IntsV (w.heap.size ≤ ·) w' u (shapeL l) ∧ Below w.heap.size w w' := by
  have h0 := atI_lt l 0 3 (by omega)
  obtain ⟨n, hn⟩ := Int.eq_ofNat_of_zero_le h0.1
  have hn3 : n < 3 := by omega
  have HS : Hid (shapeL l = (List.range (1 + n)).map fun i => 1 + atI l (1 + i) 4) := by unfold shapeL; rw [hn]; rfl
  have HN := hid hn
  clear hn h0
  go_enter Try.func8, Try.ntmps8
  go_wp2
  go_loopw [3, 4] (fun u i wr => ∃ k : Nat, k ≤ 1 + n ∧ i = .int .i64 k ∧ OwnV (fun _ _ u (x : Int) => u = .int .i64 x) w.heap.size 3 wr u ((List.range k).map fun i => 1 + atI l (1 + i) 4) ∧ Below w.heap.size w wr) (fun _ i _ => 1 + n - (intOf i).toNat)
  case atStart => exact ⟨0, by omega, rfl, OwnV.nil _ _ _ _, Below.refl _ _⟩
  case round =>
    obtain ⟨k, hk, rfl, hown, hb⟩ := hrel
    have hv1 : IntsV S wr v l := hv.keep (KeepS.below hb)
    go_wp2_with fail
    refine (at_any l hl v 0 3 S wr hv1 (by omega) (by omega) (by omega)).mono ?_
    rintro e w' ⟨rfl, rfl⟩
    rw [show Int.toNat 0 = 0 from rfl, HN.out]
    by_cases hlt : k < 1 + n
    · have hb4 := atI_lt l (1 + k) 4 (by omega)
      have HT := hid (range_snoc (fun i => 1 + atI l (1 + i) 4) k)
      have hlen : ((List.range k).map fun i => 1 + atI l (1 + i) 4).length ≤ k := by simp
      generalize ((List.range k).map fun i => 1 + atI l (1 + i) 4) = us at *
      go_wp2_with fail
      refine (at_any l hl v _ 4 S wr hv1 (by omega) (by omega) (by omega)).mono ?_
      rintro e w'' ⟨rfl, rfl⟩
      rw [show ((1 : Int) + (k : Int)).toNat = 1 + k from by omega]
      generalize atI l (1 + k) 4 = x at *
      go_wp2_with (at_builtin; refine wpList_app1 steady_int rfl _ _ rfl Try.app22 rfl hown rfl (1 + x) rfl rfl (by omega) (by have := hb.size; omega) hb (Nat.le_refl _) ?_)
      intro v' w1 hown1 hb1 _
      rw [HT.out] at hown1
      clear hown HT hb hv1
      go_wp2
      go_roundw
      case rel => exact ⟨k + 1, by omega, by go_num, hown1, hb1⟩
      case measure => simp [intOf]; omega
    · obtain rfl : k = 1 + n := by omega
      have hres : IntsV (w.heap.size ≤ ·) wr u3 (shapeL l) := by rw [HS.out]; exact hown.sl steady_int
      clear hown
      go_wp2
      go_ret
      exact ⟨_, rfl, hres, hb⟩

/-- The record i of a kind whose numbers begin at p, of n values; the kind; what World returns. -/
def recL (l : List Int) (p i n : Nat) : List Int := (List.range n).map fun f => atI l (p + 1 + 4 * i + f) 3
def kindL (l : List Int) (p n : Nat) : List (List Int) := (List.range (atI l p 5).toNat).map fun i => recL l p i n
def worldL (s l : List Int) : List (List (List Int)) := (List.range s.length).map fun k => kindL l (17 * k) (s.getD k 0).toNat

/-- What Shape makes. -/
def ShapeOk (s : List Int) : Prop := s.length ≤ 3 ∧ ∀ x ∈ s, 1 ≤ x ∧ x ≤ 4
theorem shapeL_ok (l : List Int) : ShapeOk (shapeL l) := by
  have h0 := atI_lt l 0 3 (by omega)
  refine ⟨by unfold shapeL; simp; omega, fun x hx => ?_⟩
  unfold shapeL at hx
  obtain ⟨i, _, rfl⟩ := List.mem_map.1 hx
  have := atI_lt l (1 + i) 4 (by omega)
  omega

/-- A slice of numbers that has been read once: its cells, for the walk. -/
theorem IntsV.cell {S : Nat → Prop} {w : World} {a : Option Addr} {n cap : Nat} {xs : List Int} (h : IntsV S w (.slice a n cap) xs) (hn : n = xs.length) {j : Nat} (hj : j < n) :
    w.cell? ⟨slb a, slo a + j, none⟩ = some (.int .i64 (xs.getD j 0)) := by
  obtain ⟨a', cap', hv, h1, h2, h3, h4, h5⟩ := h
  cases hv
  obtain ⟨u, hu, rfl⟩ := h5 j hj
  rw [hu, List.getD_eq_getElem?_getD, List.getElem?_eq_getElem hj]
  rfl

set_option maxHeartbeats 1000000 in
theorem world_any (s : List Int) (hs : ShapeOk s) (l : List Int) (hl : Fit l) (u v : Value) (S T : Nat → Prop) (w : World) (hu : IntsV T w u s) (hv : IntsV S w v l) :
    Calls Try.prog 9 #[u, v] w fun e w' => ∃ x, e = .returned x ∧ WorldV (w.heap.size ≤ ·) w' x (worldL s l) ∧ Below w.heap.size w w' := by
  have hu0 := hu
  obtain ⟨a, cap, rfl, hok, hcap, hmax, _, _⟩ := hu
  unfold maxLen at hmax
  have hs3 := hs.1
  go_enter Try.func9, Try.ntmps9
  go_wp2
  go_loopw [5, 6, 7] (fun x at_ i wr => ∃ k p : Nat, k ≤ s.length ∧ Hid (p = 17 * k) ∧ p ≤ 51 ∧ i = .int .i64 k ∧ at_ = .int .i64 p ∧ OwnV (fun S => RowsV S) w.heap.size 63 wr x ((List.range k).map fun k => kindL l (17 * k) (s.getD k 0).toNat) ∧ Below w.heap.size w wr) (fun _ _ i _ => s.length - (intOf i).toNat)
  case atStart => exact ⟨0, 0, by omega, hid rfl, by omega, rfl, rfl, OwnV.nil _ _ _ _, Below.refl _ _⟩
  case round =>
    obtain ⟨k, p, hk, hp, hp51, rfl, rfl, hown, hb⟩ := hrel
    by_cases hlt : k < s.length
    · have hsk : 1 ≤ s.getD k 0 ∧ s.getD k 0 ≤ 4 := by
        rw [List.getD_eq_getElem?_getD, List.getElem?_eq_getElem hlt]
        exact hs.2 _ (List.getElem_mem hlt)
      obtain ⟨n, hn⟩ := Int.eq_ofNat_of_zero_le (show 0 ≤ s.getD k 0 by omega)
      have hn4 : n ≤ 4 := by omega
      have HT := hid (range_snoc (fun k => kindL l (17 * k) (s.getD k 0).toNat) k)
      have hlen : ((List.range k).map fun k => kindL l (17 * k) (s.getD k 0).toNat).length ≤ k := by simp
      generalize ((List.range k).map fun k => kindL l (17 * k) (s.getD k 0).toNat) = us at *
      have h5 := atI_lt l p 5 (by omega)
      obtain ⟨m, hm⟩ := Int.eq_ofNat_of_zero_le h5.1
      have hm5 : m < 5 := by omega
      have hp17 := hp.out
      have HK : Hid (kindL l (17 * k) (s.getD k 0).toNat = (List.range m).map fun i => recL l p i n) := by
        rw [← hp17, hn]; unfold kindL; rw [hm]; rfl
      have HM := hid hm
      have HN := hid hn
      generalize kindL l (17 * k) (s.getD k 0).toNat = kk at *
      clear hsk hn hm h5 hp17
      have hv1 : IntsV S wr v l := hv.keep (KeepS.below hb)
      have hu1 : IntsV T wr (.slice a s.length cap) s := hu0.keep (KeepS.below hb)
      obtain ⟨wo, rfl⟩ : ∃ wo : World, wo = wr := ⟨_, rfl⟩
      go_wp2
      go_loopw [8, 9] (fun x i w2 => ∃ j : Nat, j ≤ m ∧ i = .int .i64 j ∧ OwnV (fun S => IntsV S) wo.heap.size 22 w2 x ((List.range j).map fun i => recL l p i n) ∧ Below wo.heap.size wo w2) (fun _ i _ => m - (intOf i).toNat)
      case atStart => exact ⟨0, by omega, rfl, OwnV.nil _ _ _ _, Below.refl _ _⟩
      case round =>
        obtain ⟨j, hj, rfl, hown2, hb2⟩ := hrel
        have hv2 : IntsV S wr v l := hv1.keep (KeepS.below hb2)
        have hu2 : IntsV T wr (.slice a s.length cap) s := hu1.keep (KeepS.below hb2)
        obtain ⟨wm, rfl⟩ : ∃ wm : World, wm = wr := ⟨_, rfl⟩
        go_wp2_with fail
        refine (at_any l hl v p 5 S wm hv2 (by omega) (by omega) (by omega)).mono ?_
        rintro e w' ⟨rfl, rfl⟩
        rw [Int.toNat_natCast, HM.out]
        by_cases hjm : j < m
        · have HT2 := hid (range_snoc (fun i => recL l p i n) j)
          have hlen2 : ((List.range j).map fun i => recL l p i n).length ≤ j := by simp
          generalize ((List.range j).map fun i => recL l p i n) = us2 at *
          have HR : Hid (recL l p j n = (List.range n).map fun f => atI l (p + 1 + 4 * j + f) 3) := hid rfl
          generalize recL l p j n = rj at *
          go_wp2
          go_loopw [10, 11] (fun x i w3 => ∃ f : Nat, f ≤ n ∧ i = .int .i64 f ∧ OwnV (fun _ _ u (x : Int) => u = .int .i64 x) wm.heap.size 3 w3 x ((List.range f).map fun f => atI l (p + 1 + 4 * j + f) 3) ∧ Below wm.heap.size wm w3) (fun _ i _ => n - (intOf i).toNat)
          case atStart => exact ⟨0, by omega, rfl, OwnV.nil _ _ _ _, Below.refl _ _⟩
          case round =>
            obtain ⟨f, hf, rfl, hown3, hb3⟩ := hrel
            have hv3 : IntsV S wr v l := hv2.keep (KeepS.below hb3)
            have hu3 : IntsV T wr (.slice a s.length cap) s := hu2.keep (KeepS.below hb3)
            have hc := hu3.cell rfl hlt
            rw [HN.out] at hc
            by_cases hfn : f < n
            · have HT3 := hid (range_snoc (fun f => atI l (p + 1 + 4 * j + f) 3) f)
              have hlen3 : ((List.range f).map fun f => atI l (p + 1 + 4 * j + f) 3).length ≤ f := by simp
              generalize ((List.range f).map fun f => atI l (p + 1 + 4 * j + f) 3) = us3 at *
              go_wp2_with fail
              refine (at_any l hl v _ 3 S wr hv3 (by omega) (by omega) (by omega)).mono ?_
              rintro e w' ⟨rfl, rfl⟩
              rw [show ((p : Int) + 1 + 4 * (j : Int) + (f : Int)).toNat = p + 1 + 4 * j + f from by omega]
              generalize atI l (p + 1 + 4 * j + f) 3 = y at *
              go_wp2_with (at_builtin; refine wpList_app1 steady_int rfl _ _ rfl Try.app22 rfl hown3 rfl y rfl rfl (by omega) (by have := hb3.size; omega) hb3 (Nat.le_refl _) ?_)
              intro v' w1 hown4 hb4 _
              rw [HT3.out] at hown4
              clear hown3 HT3 hb3 hv3 hu3 hc
              go_wp2
              go_roundw
              case rel => exact ⟨f + 1, by omega, by go_num, hown4, hb4⟩
              case measure => simp [intOf]; omega
            · obtain rfl : f = n := by omega
              rw [← HR.out] at hown3
              have hres := hown3.sl steady_int
              have hfr := hown2.fresh hb2.size
              have hown5 := hown2.below steady_ints hb3
              have hb5 := hb2.trans (hb3.mono hb2.size)
              clear hown3 hown2 hv3 hu3 hv2 hu2
              have hres0 := hres
              obtain ⟨a3, cap3, rfl, hok3, -⟩ := hres
              go_wp2_with (at_builtin; refine wpList_app1 steady_ints rfl _ _ rfl Try.app63 rfl hown5 rfl rj (steady_ints.mono hres0 fun b _ h => hfr b h) rfl (by omega) (by have := hb5.size; omega) hb5 (Nat.le_refl _) ?_)
              intro v' w1 hown6 hb6 _
              rw [HT2.out] at hown6
              clear hown5 HT2 hb5 hb3 hres0 hfr hok3
              go_wp2
              go_roundw
              case rel => exact ⟨j + 1, by omega, by go_num, hown6, hb6⟩
              case measure => simp [intOf]; omega
        · obtain rfl : j = m := by omega
          rw [← HK.out] at hown2
          have hres := hown2.sl steady_ints
          have hfr := hown.fresh hb.size
          have hown5 := hown.below steady_rows hb2
          have hb5 := hb.trans (hb2.mono hb.size)
          clear hown2 hown hv2 hu2 hv1 hu1
          have hres0 := hres
          obtain ⟨a3, cap3, rfl, hok3, -⟩ := hres
          go_wp2_with (at_builtin; refine wpList_app1 steady_rows rfl _ _ rfl Try.app25 rfl hown5 rfl kk (steady_rows.mono hres0 fun b _ h => hfr b h) rfl (by omega) (by have := hb5.size; omega) hb5 (Nat.le_refl _) ?_)
          intro v' w1 hown6 hb6 _
          rw [HT.out] at hown6
          have hp2 : Hid (p + 17 = 17 * (k + 1)) := hid (by have := hp.out; omega)
          clear hown5 HT hb5 hb2 hres0 hfr hok3 hp
          go_wp2
          go_roundw
          case rel => exact ⟨k + 1, p + 17, by omega, hp2, by have := hp2.out; omega, by go_num, by go_num, hown6, hb6⟩
          case measure => simp [intOf]; omega
    · obtain rfl : k = s.length := by omega
      have hres : WorldV (w.heap.size ≤ ·) wr u5 (worldL s l) := hown.sl steady_rows
      clear hown
      go_wp2
      go_ret
      exact ⟨_, rfl, hres, hb⟩

end Go.Proofs.Ytagnjhhbbjbhcaa
