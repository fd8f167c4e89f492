/- CoverMore: the walk. -/
import Derived.Test.YtjaejnacdanpkaaDoorC63
namespace Go.Proofs.YtjaejnacdanpkaaDoor
open Go.RowKit

attribute [local go_sem] Oper.semAt_some

/-- The loops over products of sizes. -/
def inner3 (ns : List Nat) (i k m J : Nat) : Nat := (List.range J).foldl (fun m j => max m (ns.getD i 0 * ns.getD k 0 * ns.getD j 0)) m
def step2 (ns : List Nat) (tn i m k : Nat) : Nat := inner3 ns i k (if tn = 2 then max m (ns.getD i 0 * ns.getD k 0) else m) (if tn = 3 then k else 0)
def row2 (ns : List Nat) (tn i m K : Nat) : Nat := (List.range K).foldl (fun m k => step2 ns tn i m k) m
def tot (ns : List Nat) (tn I : Nat) : Nat := (List.range I).foldl (fun m i => row2 ns tn i m i) 0
theorem inner3_succ (ns : List Nat) (i k m J : Nat) : inner3 ns i k m (J + 1) = max (inner3 ns i k m J) (ns.getD i 0 * ns.getD k 0 * ns.getD J 0) := by
  unfold inner3; rw [List.range_succ, List.foldl_append]; rfl
theorem row2_succ (ns : List Nat) (tn i m K : Nat) : row2 ns tn i m (K + 1) = step2 ns tn i (row2 ns tn i m K) K := by
  unfold row2; rw [List.range_succ, List.foldl_append]; rfl
theorem tot_succ (ns : List Nat) (tn I : Nat) : tot ns tn (I + 1) = row2 ns tn I (tot ns tn I) I := by
  unfold tot; rw [List.range_succ, List.foldl_append]; rfl
theorem most_eq (ns : List Nat) (tn : Nat) (m1 : ∀ n ∈ ns, 1 ≤ n ∧ n ≤ 3) (m2 : 2 ≤ ns.length) (m3 : ns.length ≤ 4) (m6 : 2 ≤ tn) (m7 : tn ≤ 3) : Cov.leastL (Cov.openL ns [] tn) = tot ns tn ns.length := by
  rw [Cov.least_none ns (fun n hn => (m1 n hn).1)]
  have ht : tn = 2 ∨ tn = 3 := by omega
  match ns, m1, m2, m3 with
  | [a, b], m1, _, _ =>
    have ha := m1 a (by simp)
    have hb := m1 b (by simp)
    have ha : a = 1 ∨ a = 2 ∨ a = 3 := by omega
    have hb : b = 1 ∨ b = 2 ∨ b = 3 := by omega
    rcases ht with rfl | rfl <;> rcases ha with rfl | rfl | rfl <;> rcases hb with rfl | rfl | rfl <;> rfl
  | [a, b, c], m1, _, _ =>
    have ha := m1 a (by simp)
    have hb := m1 b (by simp)
    have hc := m1 c (by simp)
    have ha : a = 1 ∨ a = 2 ∨ a = 3 := by omega
    have hb : b = 1 ∨ b = 2 ∨ b = 3 := by omega
    have hc : c = 1 ∨ c = 2 ∨ c = 3 := by omega
    rcases ht with rfl | rfl <;> rcases ha with rfl | rfl | rfl <;> rcases hb with rfl | rfl | rfl <;> rcases hc with rfl | rfl | rfl <;> rfl
  | [a, b, c, d], m1, _, _ =>
    have ha := m1 a (by simp)
    have hb := m1 b (by simp)
    have hc := m1 c (by simp)
    have hd := m1 d (by simp)
    have ha : a = 1 ∨ a = 2 ∨ a = 3 := by omega
    have hb : b = 1 ∨ b = 2 ∨ b = 3 := by omega
    have hc : c = 1 ∨ c = 2 ∨ c = 3 := by omega
    have hd : d = 1 ∨ d = 2 ∨ d = 3 := by omega
    rcases ht with rfl | rfl <;> rcases ha with rfl | rfl | rfl <;> rcases hb with rfl | rfl | rfl <;> rcases hc with rfl | rfl | rfl <;> rcases hd with rfl | rfl | rfl <;> rfl
  | [], _, h, _ => simp at h
  | [_], _, h, _ => simp at h
  | _ :: _ :: _ :: _ :: _ :: _, _, _, h => simp at h

/-- 'append(v, x...)' to a row of the call's own. -/
theorem wpList_appOn {P : Program} {t e : TypeId} {bytes : Nat} {w : World} {ops : Array Oper} {rest : List Oper} {o : Oper} {a : Act} {Q : Exit → Act → World → Prop} (hgd : o.guard = none) (s x : Operand)
    (ho : o.op = .call { callee := .builtin .append, args := #[s, x], argTypes := #[t, t] }) (hT : AppT P t e 1 bytes)
    {B : Nat} {v : Value} {xs : List (List Int)} (hs : a.eval s = v) (hown : OwnO (fun S => IntsV S) B e w v xs)
    {ao : Option Addr} {m c : Nat} (hx : a.eval x = .slice ao m c) {S : Nat → Prop} {ys : List (List Int)} (hy : SlV (IntsV (· < B)) S w (.slice ao m c) ys)
    (hsmall : xs.length + m ≤ 1000000000) (hB : B ≤ w.heap.size)
    (h : ∀ v' w', OwnO (fun S => IntsV S) B e w' v' (xs ++ ys) → Below B w w' → wpList P ops Q rest (a.put o.dst v') w') :
    wpList P ops Q (o :: rest) a w := by
  obtain ⟨us, h2, h3, h4⟩ := hown
  obtain ⟨rfl, hok, ns, l1, l2, l3⟩ := SlV.news hy
  refine wpList_app hgd s x ho hT hs h2 _ ys.length c hx hok ns (by simpa using l1) l2 (fun u hu => ?_) hsmall hB (fun v' w' g1 g2 g3 => ?_)
  · obtain ⟨i, hi, rfl⟩ := List.getElem_of_mem hu
    obtain ⟨a', c', e, -⟩ := (l3 i hi (by omega)).form
    rw [e]; rfl
  have hb : Below B w w' := (Below.refl B w).grown g2 hB (fun k hk => by have := (h2.lt k hk).1; omega)
  have keep : ∀ {u y}, IntsV (· < B) w u y → IntsV (· < B) w' u y := fun h => IntsV.keep h (fun b hb' _ => hb.block b hb')
  refine h v' w' ⟨us ++ ns, by simpa using g1, by simp [h3, l1], fun j k1 k2 => ?_⟩ hb
  by_cases hj : j < us.length
  · rw [List.getElem_append_left hj, List.getElem_append_left (by omega)]
    exact keep (h4 j hj (by omega))
  · rw [List.length_append] at k1
    rw [List.getElem_append_right (by omega), List.getElem_append_right (by omega)]
    have := l3 (j - us.length) (by omega) (by omega)
    simp only [h3] at this ⊢
    exact keep this
theorem one_rowB {X : World} {b : Nat} {T : TypeId} {u : Value} {y : List Int} {S : Nat → Prop} (h : X.heap[b]? = some (.cells #[u] T (0, 0))) (hu : IntsV S X u y) : SlV (IntsV S) AnyB X (.slice (some ⟨b, 0, none⟩) 1 1) [y] := by
  refine ⟨some ⟨b, 0, none⟩, 1, rfl, fun _ => ⟨_, _, rfl⟩, Nat.le_refl _, by unfold maxLen; omega, fun _ => trivial, fun j hj => ?_⟩
  obtain rfl : j = 0 := by simpa using hj
  exact ⟨u, by simp only [slb_some, slo_some]; exact (one_cell h).1, hu⟩
theorem vals_row : ∀ (ns : List Nat) (c : List Int), Cov.rowB ns c = true → Cov.vals c = ns.length := fun ns c h => by
  rw [Cov.rowB_eq, Bool.and_eq_true, decide_eq_true_eq] at h
  exact h.2

set_option maxRecDepth 100000 in
set_option maxHeartbeats 8000000 in
theorem more_any (l l2 : List Int) (hl : Fit l) (hl2 : Fit l2) (v v2 : Value) (S S2 : Nat → Prop) (w : World) (hv : IntsV S w v l) (hv2 : IntsV S2 w v2 l2) (hT : TabD w) :
    Calls Tryd.prog 8 #[v, v2] w fun e w' => e = .returned (.bool true) ∧ Below w.heap.size w w' := by
  obtain ⟨a, cap, rfl, hok, hcap, hmax⟩ := hv.form
  obtain ⟨a2, cap2, rfl, hok2, hcap2, hmax2⟩ := hv2.form
  have HV2 := hid hv2
  clear hv2
  go_enter Tryd.func8, Tryd.ntmps8
  go_wp2_with fail
  refine (made_any l hl _ S w hv).mono ?_
  rintro e w1 ⟨ns, F, tn, sv, fv, rfl, m1, m2, m3, m4, m5, m6, m7, m8, hs1, hf1, hb1⟩
  have hP1 : PV w1 sv fv (szI ns) F := ⟨hs1.mono (fun _ _ _ => trivial), RowsV.mono hf1 (fun _ _ _ => trivial), by simp [szI]; omega, by omega, comboB_short m3 m5⟩
  obtain ⟨sa, sc, rfl⟩ : ∃ a c, sv = .slice a ns.length c := by obtain ⟨a, c, h, -⟩ := hs1.form; rw [List.length_map] at h; exact ⟨_, _, h⟩
  obtain ⟨fa, fc, rfl⟩ : ∃ a c, fv = .slice a F.length c := by obtain ⟨a, c, h, -⟩ := hf1.form; exact ⟨_, _, h⟩
  have hb2 : Below w1.heap.size w1 (w1.alloc (.cells #[.slice sa ns.length sc, .slice fa F.length fc, .int .i64 tn] 25)) := (Below.refl _ _).alloc (Nat.le_refl _) _
  have hbx : (w1.alloc (.cells #[.slice sa ns.length sc, .slice fa F.length fc, .int .i64 tn] 25)).heap[w1.heap.size]? = some (.cells #[.slice sa ns.length sc, .slice fa F.length fc, .int .i64 tn] 25 (0, 0)) := heap_new _ _ rfl
  have hP2 := hP1.below hb2
  have hb02 := hb1.trans (hb2.mono hb1.size)
  have hT2 := hT.below hb02 hT.lt
  go_wp2_with fail
  generalize World.alloc w1 _ = W2 at *
  have hgw : w1.heap.size < W2.heap.size := (Array.getElem?_eq_some_iff.1 hbx).1
  have hVal := valid_small ns F tn m1 m2 m3 (by omega) m5 m6 m7 m8
  have x0 : ∀ x : Grew W2, x.1.cell? ⟨w1.heap.size, 0, none⟩ = some (.slice sa ns.length sc) := fun x => (x.cell _ _ hgw).trans (row3 hbx).1
  have x1 : ∀ x : Grew W2, x.1.cell? ⟨w1.heap.size, 1, none⟩ = some (.slice fa F.length fc) := fun x => (x.cell _ _ hgw).trans (row3 hbx).2.1
  have x2 : ∀ x : Grew W2, x.1.cell? ⟨w1.heap.size, 2, none⟩ = some (.int .i64 tn) := fun x => (x.cell _ _ hgw).trans (row3 hbx).2.2.1
  have hdr : Below W2.heap.size W2 (W2.drewN 1) := below_drewN (Below.refl _ _) 1
  have HBX := hid hbx
  have HP2 := hid hP2
  have HT2 := hid hT2
  have HB02 := hid hb02
  have HVal := hid hVal
  clear hP2 hT2 hb02 hP1 hT hs1 hf1 hb1 hb2 hv hbx hVal
  refine wp_region_grewS 16 [(true, 0), (true, 1), (true, 2), (true, 3), (true, 5), (true, 6), (false, 4), (false, 7), (true, 8), (true, 9), (true, 10), (true, 11), (true, 12), (true, 13), (true, 14), (true, 15)] (by kernel_rfl) (by kernel_rfl) ?_
  refine wpSteps_pre 4 (by decide) ?_
  simp only [List.take_succ_cons, List.take_zero]
  repeat (go_big_quiet_step (fail))
  refine wpQuiet_nil ?_
  iterate 2 (refine wpSteps_quiet rfl ?_; repeat (go_big_quiet_step (fail)); refine wpQuiet_nil ?_)
  refine wpSteps_one rfl ?_
  clear x0 x1 x2
  go_wp2_with fail
  refine (combos_any F (by omega) _ AnyB (W2.drewN 1) (RowsV.keep HP2.out.2.1 (KeepS.below hdr))).mono ?_
  rintro e w3 ⟨x3, rfl, ho3, hb3⟩
  have hb23 : Below W2.heap.size W2 w3 := hdr.trans (hb3.mono hdr.size)
  have HF3 := hid ho3.any
  obtain ⟨ca, cn, cc, rfl⟩ : ∃ a n c, x3 = .slice a n c := by obtain ⟨a, c, h, -⟩ := ho3.any.form; exact ⟨_, _, _, h⟩
  clear ho3 hb3
  go_wp2
  refine qn_mk ⟨InGrew.of hb23, ?_⟩
  refine wpSteps_one rfl ?_
  go_wp2_with fail
  refine (pcover_small ns F tn HVal.out m3 _ _ AnyB AnyB w3 (HP2.out.1.keep (KeepS.below hb23)) HF3.out (HT2.out.below hb23 HT2.out.lt)).mono ?_
  rintro e w4 ⟨x, y, z, rfl, hx, hy, hz, hb4⟩
  have hb24 : Below W2.heap.size W2 w4 := hb23.trans (hb4.mono hb23.size)
  obtain ⟨ra, rc, rfl, hrok, hrcap, hrmax⟩ := hx.form
  obtain ⟨la, lc, rfl, hlok, hlcap, hlmax⟩ := hy.form
  obtain ⟨wa, wc, ew, hwok, hwcap, hwmax⟩ := hz.form
  rw [List.length_map] at ew hwok hwcap
  subst ew
  have HR := hid hx
  have HL := hid hy
  have HW := hid hz
  clear hx hy hz hb4
  go_wp2
  refine qn_mk ⟨InGrew.of hb24, ?_⟩
  iterate 8 (refine wpSteps_quiet rfl ?_; repeat (go_big_quiet_step (fail)); refine wpQuiet_nil ?_)
  refine wpSteps_done ?_
  simp only [List.drop_succ_cons, List.drop_zero]
  have hgw4 : w1.heap.size < w4.heap.size := Nat.lt_of_lt_of_le hgw hb24.size
  have HBX4 := hid ((hb24.block _ hgw).trans HBX.out)
  have HP4 := hid (HP2.out.below hb24)
  have HT4 := hid (HT2.out.below hb24 HT2.out.lt)
  have HB4 := hid (HB02.out.trans (hb24.mono HB02.out.size))
  clear hb23 hb24 hdr HBX HP2 HT2 HB02 HF3
  have u0 := (row3 HBX4.out).1
  have u1 := (row3 HBX4.out).2.1
  have u2 := (row3 HBX4.out).2.2.1
  have hsok : Slok sa ns.length := by
    obtain ⟨a', c', e, h, -⟩ := HP4.out.1.form
    rw [List.length_map] at e h
    cases e; exact h
  have HVt := hid (HV2.out.keep (KeepS.below HB4.out))
  have hLl : (Cov.leftL ns F tn).length ≤ 6561 := Nat.le_trans (List.length_filter_le _ _) (asked_len m1 m3)
  have HLm := hid (fun c => Cov.left_more ns F [c] tn)
  generalize hLL : Cov.leftL ns F tn = L at *
  clear hLL HV2
  have hmk := fun X => run_mkZero (P := Tryd.prog) (t := 22) (e := 3) (b := 8) (by kernel_rfl) (by kernel_rfl) (by omega) ns.length (by omega) X
  have HC0 : Hid ((w4.alloc (.cells (zeroCells ns.length) 3)).heap[w4.heap.size]? = some (.cells ((List.replicate ns.length (0 : Int)).map (Value.int .i64)).toArray 3 (0, 0)) ∧ Below w4.heap.size w4 (w4.alloc (.cells (zeroCells ns.length) 3))) := hid ⟨heap_new _ _ rfl, (Below.refl _ _).alloc (Nat.le_refl _) _⟩
  go_wp2
  clear hmk u0 u1 u2
  go_loopw [11] (fun i wr => ∃ (j : Nat) (c : List Int), i = .int .i64 j ∧ j ≤ ns.length ∧ Hid (c.length = ns.length ∧ (∀ i (h : i < c.length) (h' : i < ns.length), i < j → 0 ≤ c[i] ∧ c[i] < (ns[i] : Int)) ∧ wr.heap[w4.heap.size]? = some (.cells (c.map (Value.int .i64)).toArray 3 (0, 0)) ∧ Below w4.heap.size w4 wr)) (fun i _ => ns.length - (intOf i).toNat)
  case atStart => exact ⟨0, List.replicate ns.length 0, rfl, by omega, hid ⟨by simp, fun i _ _ h => absurd h (by omega), HC0.out.1, HC0.out.2⟩⟩
  case round =>
    obtain ⟨j, c, rfl, hj, HC⟩ := hrel
    by_cases hlt : j < ns.length
    · have hj0 : (0 : Int) ≤ j := by omega
      have hj1 : (j : Int) < ns.length := by omega
      obtain ⟨q1, q2, q3, q4⟩ := HC.out
      have hsl : j < (szI ns).length := by simpa [szI] using hlt
      have hszw' : IntsV AnyB wr (.slice sa (szI ns).length sc) (szI ns) := by rw [List.length_map]; exact HP4.out.1.keep (KeepS.below q4)
      obtain ⟨us, hcs, hbs, hus⟩ := hszw'.at hsl
      have hus2 : us = .int .i64 (ns[j] : Int) := by rw [hus]; simp [szI]
      subst hus2
      have hnj := m1 ns[j] (List.getElem_mem hlt)
      obtain ⟨n, hn⟩ : ∃ n, n = ns[j] := ⟨_, rfl⟩
      rw [← hn] at hcs hnj
      have HNe := hid hn
      have u0 := (q4.cell (p := ⟨w1.heap.size, 0, none⟩) hgw4).trans (row3 HBX4.out).1
      have hzc : j < c.length := by rw [q1]; exact hlt
      have d3 : wr.cell? ⟨w4.heap.size, j, none⟩ = some (.int .i64 c[j]) := by rw [cell_of_row _ _ _ _ _ (0, 0) q3]; simp [hzc]
      have d4 : wr.frozen? ⟨w4.heap.size, j, none⟩ = false := by simp [World.frozen?, q3]
      have HAt := hid (at_any l2 hl2 _ (j : Int) (n : Int) S2 wr (HVt.out.keep (KeepS.below q4)) (by omega) (by omega) (by omega))
      have HG : Hid (∀ x : Int, 0 ≤ x → x < (n : Int) → (c.set j x).length = ns.length ∧ (∀ i (h : i < (c.set j x).length) (h' : i < ns.length), i < j + 1 → 0 ≤ (c.set j x)[i] ∧ (c.set j x)[i] < (ns[i] : Int)) ∧ (wr.setCell ⟨w4.heap.size, j, none⟩ (.int .i64 x)).heap[w4.heap.size]? = some (.cells ((c.set j x).map (Value.int .i64)).toArray 3 (0, 0)) ∧ Below w4.heap.size w4 (wr.setCell ⟨w4.heap.size, j, none⟩ (.int .i64 x))) := hid (fun x h1 h2 => by
        refine ⟨by rw [List.length_set]; exact q1, fun i h h' hi => ?_, ?_, q4.setCell (Nat.le_refl _) _⟩
        · rw [List.getElem_set]
          split
          · rename_i e
            subst e
            exact ⟨h1, by rw [← HNe.out]; exact h2⟩
          · exact q2 i (by rw [List.length_set] at h; exact h) h' (by omega)
        · rw [heap_setCell_same _ _ _ _ _ _ q3]
          simp [List.map_set])
      have HQ1 := hid q1
      clear q1 q2 q3 q4 hszw' hus hsl hn HC
      go_wp2_with fail
      refine HAt.out.mono ?_
      rintro e w' ⟨rfl, rfl⟩
      have hz := atI_lt l2 (Int.toNat (j : Int)) (n : Int) (by omega)
      generalize atI l2 (Int.toNat (j : Int)) (n : Int) = z at *
      have HN := hid (HG.out z hz.1 hz.2)
      clear HG HAt u0 hcs
      go_wp2
      go_roundw
      case rel => exact ⟨j + 1, c.set j z, by go_num, by omega, HN⟩
      case measure => simp [intOf]; omega
    · obtain rfl : j = ns.length := by omega
      obtain ⟨q1, q2, q3, q4⟩ := HC.out
      have HRow : Hid (Cov.rowB ns c = true) := hid (rowB_of ns c q1 (fun i h h' => q2 i h h' h'))
      have hF0 := intsF_row q3 (by omega)
      rw [q1] at hF0
      have hbn : w4.heap.size < wr.heap.size := (Array.getElem?_eq_some_iff.1 q3).1
      have HCc := hid (IntsV.mono (S' := (· < wr.heap.size)) hF0.sl (fun b hb _ => hb))
      have HPx := hid (HP4.out.below q4)
      have hbx := (q4.block _ hgw4).trans HBX4.out
      have hgx : w1.heap.size < wr.heap.size := Nat.lt_of_lt_of_le hgw4 q4.size
      have HBXx := hid hbx
      have HLx := hid (HL.out.keep (KeepS.below q4))
      have HBx := hid (HB4.out.trans (q4.mono HB4.out.size))
      have HTx := hid (HT4.out.below q4 HT4.out.lt)
      clear q1 q2 q3 q4 HC hF0 HL HW HP4 HBX4 HB4 HT4 HVt HC0 HR hgw
      generalize hWx : wr = wx at *
      clear hWx
      have u0 := (row3 hbx).1
      have x0 : ∀ x : Grew wx, x.1.cell? ⟨w1.heap.size, 0, none⟩ = some (.slice sa ns.length sc) := fun x => (x.cell _ _ hgx).trans (row3 hbx).1
      have x1 : ∀ x : Grew wx, x.1.cell? ⟨w1.heap.size, 1, none⟩ = some (.slice fa F.length fc) := fun x => (x.cell _ _ hgx).trans (row3 hbx).2.1
      have x2 : ∀ x : Grew wx, x.1.cell? ⟨w1.heap.size, 2, none⟩ = some (.int .i64 tn) := fun x => (x.cell _ _ hgx).trans (row3 hbx).2.2.1
      have hdr : Below wx.heap.size wx (wx.drewN 1) := below_drewN (Below.refl _ _) 1
      clear hbx
      go_wp2
      refine wp_region_grewP 19 (Plan.quiets [0, 1, 2, 3, 5, 8, 9] (.two 4 6 (.one 6 (.one 7 (.one 10 (Plan.quiets [11, 12, 13, 14, 15, 16, 17, 18] .done)))) (.one 4 (.one 7 (.one 10 (Plan.quiets [11, 12, 13, 14, 15, 16, 17, 18] .done)))))) (by kernel_rfl) (by kernel_rfl) ?_
      iterate 7 (refine wpPlan_quiet rfl ?_; repeat (go_big_quiet_step (fail)); refine wpQuiet_nil ?_)
      have HVn : Hid (validE (szI ns) (F ++ [c]) tn = 0) := hid (valid_small ns _ tn m1 m2 m3 (by simp; omega) (fun f hf => by
        rcases List.mem_append.1 hf with hf | hf
        · exact m5 f hf
        · rw [List.mem_singleton.1 hf]
          exact ⟨Cov.rowB_combo ns c HRow.out, by rw [vals_row ns c HRow.out]; omega⟩) m6 m7 m8)
      have HV0 : Hid (validE (szI ns) [] tn = 0) := hid (valid_small ns [] tn m1 m2 m3 (by simp) (fun f hf => absurd hf (by simp)) m6 m7 m8)
      have HLmc := hid (HLm.out c)
      clear x0 x1 x2 u0
      refine wpPlan_two rfl rfl ?pA ?pB
      case' pA =>
        go_wp2_with fail
        refine (combos_any F (by omega) _ AnyB (wx.drewN 1) (RowsV.keep HPx.out.2.1 (KeepS.below hdr))).mono ?_
        rintro e w5 ⟨x5, rfl, ho5, hb5⟩
        have hb15 : Below wx.heap.size wx w5 := hdr.trans (hb5.mono hdr.size)
        obtain ⟨oa, on', oc, rfl⟩ : ∃ a n c, x5 = .slice a n c := by obtain ⟨a, c, h, -⟩ := ho5.any.form; exact ⟨_, _, _, h⟩
        have hal : Below w5.heap.size w5 (w5.alloc (.cells #[.slice (some ⟨w4.heap.size, 0, none⟩) ns.length ns.length] 53)) := (Below.refl _ _).alloc (Nat.le_refl _) _
        have hb6 := hb15.trans (hal.mono hb15.size)
        have HO := hid (OwnO.below steady_ints ho5 hal)
        have HA := hid (one_rowB (heap_new w5 (.cells #[.slice (some ⟨w4.heap.size, 0, none⟩) ns.length ns.length] 53) rfl) (HCc.out.keep (KeepS.below hb6)))
        have HBl : Hid (wx.heap.size ≤ (wx.drewN 1).heap.size) := hid (Nat.le_refl _)
        have hB5 : (wx.drewN 1).heap.size ≤ (w5.alloc (.cells #[.slice (some ⟨w4.heap.size, 0, none⟩) ns.length ns.length] 53)).heap.size := hb6.size
        clear ho5 hb5
        go_wp2
        refine qn_mk ⟨InGrew.of hb15, ?_⟩
        refine wpPlan_one rfl ?_
        go_wp2
        refine qn_mk ⟨InGrew.of hb6, ?_⟩
      case' pB =>
        have hal : Below wx.heap.size wx ((wx.drewN 1).alloc (.cells #[.slice (some ⟨w4.heap.size, 0, none⟩) ns.length ns.length] 53)) := hdr.alloc (Nat.le_refl _) _
        have hnw := heap_new (wx.drewN 1) (.cells #[.slice (some ⟨w4.heap.size, 0, none⟩) ns.length ns.length] 53) rfl
        have hzz : ((wx.drewN 1).alloc (.cells #[.slice (some ⟨w4.heap.size, 0, none⟩) ns.length ns.length] 53)).heap.size = wx.heap.size + 1 := by simp
        go_wp2
        refine qn_mk ⟨InGrew.of hal, ?_⟩
        refine wpPlan_one rfl ?_
        go_wp2_with fail
        generalize (wx.drewN 1).alloc (.cells #[.slice (some ⟨w4.heap.size, 0, none⟩) ns.length ns.length] 53) = wa1 at *
        refine (combos_any F (by omega) _ AnyB wa1 (RowsV.keep HPx.out.2.1 (KeepS.below hal))).mono ?_
        rintro e w5 ⟨x5, rfl, ho5, hb5⟩
        have hb6 : Below wx.heap.size wx w5 := hal.trans (hb5.mono hal.size)
        obtain ⟨oa, on', oc, rfl⟩ : ∃ a n c, x5 = .slice a n c := by obtain ⟨a, c, h, -⟩ := ho5.any.form; exact ⟨_, _, _, h⟩
        have HO := hid ho5
        have HA := hid (one_rowB (S := (· < wa1.heap.size)) ((hb5.block _ (show (wx.drewN 1).heap.size < wa1.heap.size by rw [hzz]; exact Nat.lt_succ_self _)).trans hnw) (IntsV.mono (HCc.out.keep (KeepS.below hb6)) (fun b _ h => Nat.lt_of_lt_of_le h hal.size)))
        have HBl : Hid (wx.heap.size ≤ wa1.heap.size) := hid hal.size
        have hB5 : wa1.heap.size ≤ w5.heap.size := hb5.size
        clear ho5 hb5 hzz hnw
        go_wp2
        refine qn_mk ⟨InGrew.of hb6, ?_⟩
      all_goals
        refine wpPlan_one rfl ?_
        go_wp2_with (at_builtin; go_must (refine wpList_appOn rfl _ _ rfl Tryd.app29b rfl HO.out rfl HA.out (by omega) hB5 ?_))
        intro v8 w8 hown8 hb8
        have hb68 : Below wx.heap.size wx w8 := hb6.trans (hb8.mono HBl.out)
        obtain ⟨va8, vl8, vc8, rfl⟩ : ∃ a l c, v8 = .slice a l c := by obtain ⟨a, c', h, -⟩ := (OwnO.any hown8).form; exact ⟨_, _, _, h⟩
        have HO8 := hid (OwnO.any hown8)
        have HP8 := hid (HPx.out.below hb68)
        have HT8 := hid (HTx.out.below hb68 HTx.out.lt)
        clear hown8 hb8 HO HA HBl hB5 hb6 hdr
        go_wp2
        refine qn_mk ⟨InGrew.of hb68, ?_⟩
        refine wpPlan_one rfl ?_
        go_wp2_with fail
        refine (pcover_small ns (F ++ [c]) tn HVn.out m3 _ _ AnyB AnyB w8 HP8.out.1 HO8.out HT8.out).mono ?_
        rintro e w9 ⟨g1, g2, g3, rfl, hx9, hy9, hz9, hb9⟩
        have hb69 : Below wx.heap.size wx w9 := hb68.trans (hb9.mono hb68.size)
        obtain ⟨g1a, g1n, g1c, rfl⟩ : ∃ a n c, g1 = .slice a n c := by obtain ⟨a, c, h, -⟩ := hx9.form; exact ⟨_, _, _, h⟩
        obtain ⟨g3a, g3n, g3c, rfl⟩ : ∃ a n c, g3 = .slice a n c := by obtain ⟨a, c, h, -⟩ := hz9.form; exact ⟨_, _, _, h⟩
        have hLs : (Cov.leftL ns (F ++ [c]) tn).length ≤ 6561 := Nat.le_trans (List.length_filter_le _ _) (asked_len m1 m3)
        generalize Cov.leftL ns (F ++ [c]) tn = L9 at *
        obtain ⟨qa, qc, rfl, hqok, -, -⟩ := hy9.form
        have HL9 := hid hy9
        clear hx9 hy9 hz9 hb9 hb68
        go_wp2
        refine qn_mk ⟨InGrew.of hb69, ?_⟩
        iterate 8 (refine wpPlan_quiet rfl ?_; repeat (go_big_quiet_step (fail)); refine wpQuiet_nil ?_)
        refine wpPlan_done ?_
        have HP9 := hid (HPx.out.below hb69)
        have HT9 := hid (HTx.out.below hb69 HTx.out.lt)
        have hbx9 := (hb69.block _ hgx).trans HBXx.out
        have u0 := (row3 hbx9).1
        have u2 := (row3 hbx9).2.2.1
        have HBX9 := hid hbx9
        have HB9 := hid hb69
        have hg9 : w1.heap.size < w9.heap.size := Nat.lt_of_lt_of_le hgx hb69.size
        clear hbx9 hb69
        go_wp2_with fail
        refine (pcover_small ns [] tn HV0.out m3 _ _ AnyB AnyB w9 HP9.out.1 (SlV.nil _ _ _) HT9.out).mono ?_
        rintro e w10 ⟨k1, k2, k3, rfl, hx10, hy10, hz10, hb10⟩
        rw [Cov.left_none ns (fun n hn => (m1 n hn).1)] at hy10 hz10
        obtain ⟨k1a, k1n, k1c, rfl⟩ : ∃ a n c, k1 = .slice a n c := by obtain ⟨a, c, h, -⟩ := hx10.form; exact ⟨_, _, _, h⟩
        obtain ⟨k3a, k3n, k3c, rfl⟩ : ∃ a n c, k3 = .slice a n c := by obtain ⟨a, c, h, -⟩ := hz10.form; exact ⟨_, _, _, h⟩
        obtain ⟨k2a, k2c, ek2, -, -, -⟩ := hy10.form
        rw [List.length_nil] at ek2
        subst ek2
        have hbx10 := (hb10.block _ hg9).trans HBX9.out
        have u0' := (row3 hbx10).1
        have u2' := (row3 hbx10).2.2.1
        have HBX10 := hid hbx10
        have hg10 : w1.heap.size < w10.heap.size := Nat.lt_of_lt_of_le hg9 hb10.size
        have HP10 := hid (HP9.out.below hb10)
        have HT10 := hid (HT9.out.below hb10 HT9.out.lt)
        have HB10 := hid (HB9.out.trans (hb10.mono HB9.out.size))
        have HL10 := hid (HL9.out.keep (KeepS.below hb10))
        clear hx10 hy10 hz10 hb10 hbx10 u0 u2
        go_wp2_with fail
        refine (pleast_all (szI ns) (by simp [szI]; omega) [] tn _ _ AnyB AnyB w10 HP10.out.1 (SlV.nil _ _ _) HT10.out).mono ?_
        rintro e w11 ⟨rfl, hb11⟩
        rw [HV0.out, cM_small HV0.out, most_eq ns tn m1 m2 m3 m6 m7]
        have HBX11 := hid ((hb11.block _ hg10).trans HBX10.out)
        have hg11 : w1.heap.size < w11.heap.size := Nat.lt_of_lt_of_le hg10 hb11.size
        have HP11 := hid (HP10.out.below hb11)
        have HT11 := hid (HT10.out.below hb11 HT10.out.lt)
        have HB11 := hid (HB10.out.trans (hb11.mono HB10.out.size))
        have HL11 := hid (HL10.out.keep (KeepS.below hb11))
        have HLl := hid (HLx.out.keep (KeepS.below HB11.out))
        clear hb11 u0' u2'
        go_wp2
        go_loopw [22] (fun i' wr => ∃ i : Nat, i' = .int .i64 i ∧ i ≤ L.length ∧ Hid (Below w11.heap.size w11 wr)) (fun i' _ => L.length - (intOf i').toNat)
        case atStart => exact ⟨0, rfl, by omega, hid (Below.refl _ _)⟩
        case round =>
          obtain ⟨i, rfl, hi, HBi⟩ := hrel
          by_cases hli : i < L.length
          · have hi0 : (0 : Int) ≤ i := by omega
            have hi1 : (i : Int) < L.length := by omega
            obtain ⟨ub, hcb, hbb, hrb⟩ := HLl.out.at hli
            obtain ⟨ba, bc, rfl, -, -, -⟩ := hrb.form
            have HMm := hid (HLmc.out _ (List.getElem_mem hli))
            have HRb := hid hrb
            generalize L[i] = ci at *
            clear hrb
            generalize hWi : wr = wi at *
            clear hWi
            go_wp2
            go_loopw [23, 24] (fun f k' wr => ∃ k : Nat, k' = .int .i64 k ∧ k ≤ L9.length ∧ f = .bool ((L9.take k).any fun d => decide (ci = d)) ∧ Hid (Below w11.heap.size w11 wr)) (fun _ k' _ => L9.length - (intOf k').toNat)
            case atStart => exact ⟨0, rfl, by omega, by simp, HBi⟩
            case round =>
              obtain ⟨k, rfl, hk, rfl, HBk⟩ := hrel
              by_cases hlk : k < L9.length
              · have hk0 : (0 : Int) ≤ k := by omega
                have hk1 : (k : Int) < L9.length := by omega
                have HT := hid (any_take (fun d => decide (ci = d)) L9 k hlk)
                obtain ⟨ud, hcd, hbd, hrd⟩ := (HL11.out.keep (KeepS.below HBk.out)).at hlk
                obtain ⟨da, dc, rfl, -, -, -⟩ := hrd.form
                have HRd := hid hrd
                have hcbr := (HBk.out.cell (p := ⟨slb la, slo la + i, none⟩) hbb).trans hcb
                have hbbr : slb la < wr.heap.size := Nat.lt_of_lt_of_le hbb HBk.out.size
                have HRbr := hid (HRb.out.keep (KeepS.below HBk.out))
                generalize L9[k] = d at *
                generalize hfd : (L9.take k).any (fun d => decide (ci = d)) = fd at *
                have x3 : ∀ x : Grew wr, x.1.cell? ⟨slb la, slo la + i, none⟩ = some (.slice ba ci.length bc) := fun x => (x.cell _ _ hbbr).trans hcbr
                have x4 : ∀ x : Grew wr, x.1.cell? ⟨slb qa, slo qa + k, none⟩ = some (.slice da d.length dc) := fun x => (x.cell _ _ hbd).trans hcd
                have HSa := hid (fun (x : Grew wr) => grew_drew (x := x) (sameInts_any ci d _ _ AnyB AnyB x.1 (HRbr.out.keep (KeepS.below x.2)) (HRd.out.keep (KeepS.below x.2))))
                generalize decide (ci = d) = sb at *
                have HFin : Hid ((fd || sb) = (L9.take (k + 1)).any (fun d => decide (ci = d))) := hid HT.out.symm
                clear hfd hrd hcd hcbr HT
                go_wp2
                refine wp_region_quietG (by kernel_rfl) (by kernel_rfl) ?_
                cases fd
                case' true =>
                  iterate 13 (go_big_quiet_step ((exact HSa.out _)))
                  refine wpQuiet_nil ?_
                  intro w7 hx7
                  have HF : Hid (true = (L9.take (k + 1)).any (fun d => decide (ci = d))) := hid (by rw [← HFin.out]; rfl)
                case' false =>
                  iterate 13 (go_big_quiet_step ((exact HSa.out _)))
                  refine wpQuiet_nil ?_
                  intro w7 hx7
                  have HF : Hid (sb = (L9.take (k + 1)).any (fun d => decide (ci = d))) := hid (by rw [← HFin.out]; rfl)
                all_goals
                  have hb7 := grew_below hx7
                  have HN := hid (HBk.out.trans (hb7.mono HBk.out.size))
                  clear hb7 hx7 x3 x4 HSa HFin
                  go_wp2
                  go_roundw
                  case rel => exact ⟨k + 1, by go_num, by omega, by rw [← HF.out], HN⟩
                  case measure => simp [intOf]; omega
              · obtain rfl : k = L9.length := by omega
                have hfd : ((L9.take L9.length).any fun d => decide (ci = d)) = true := by
                  rw [List.take_length]
                  exact List.any_eq_true.2 ⟨ci, HMm.out, decide_eq_true rfl⟩
                rw [hfd]
                clear hfd
                go_wp2
                go_roundw
                case rel => exact ⟨i + 1, by go_num, by omega, HBk⟩
                case measure => simp [intOf]; omega
          · obtain rfl : i = L.length := by omega
            have HBXi := hid ((HBi.out.block _ hg11).trans HBX11.out)
            have HPi := hid (HP11.out.below HBi.out)
            have HBw := hid (HB11.out.trans (HBi.out.mono HB11.out.size))
            have HTi := hid (HT11.out.below HBi.out HT11.out.lt)
            have hgi : w1.heap.size < wr.heap.size := Nat.lt_of_lt_of_le hg11 HBi.out.size
            have HSz : Hid (∀ q (h : q < ns.length), wr.cell? ⟨slb sa, slo sa + q, none⟩ = some (.int .i64 (ns.getD q 0 : Nat)) ∧ slb sa < wr.heap.size ∧ 1 ≤ ns.getD q 0 ∧ ns.getD q 0 ≤ 3) := hid (fun q h => by
              have hsl : q < (szI ns).length := by simpa [szI] using h
              have hszw' : IntsV AnyB wr (.slice sa (szI ns).length sc) (szI ns) := by rw [List.length_map]; exact HPi.out.1
              obtain ⟨us, hcs, hbs, hus⟩ := hszw'.at hsl
              have hus2 : us = .int .i64 (ns[q] : Int) := by rw [hus]; simp [szI]
              subst hus2
              rw [getD_at h]
              exact ⟨hcs, hbs, m1 _ (List.getElem_mem h)⟩)
            have hti : tn = 2 ∨ tn = 3 := by omega
            clear HBi HBX11 HP11 HB11 HT11 HL11 HLl
            generalize hWm : wr = wm at *
            clear hWm
            have u0 := (row3 HBXi.out).1
            go_wp2
            clear u0
            go_loopw [25, 26] (fun m i' wr => ∃ i : Nat, i' = .int .i64 i ∧ i ≤ ns.length ∧ m = .int .i64 (tot ns tn i : Nat) ∧ Hid (Below wm.heap.size wm wr)) (fun _ i' _ => ns.length - (intOf i').toNat)
            case atStart => exact ⟨0, rfl, by omega, rfl, hid (Below.refl _ _)⟩
            case round =>
              obtain ⟨i, rfl, hi, rfl, HBo⟩ := hrel
              have u0 := (HBo.out.cell (p := ⟨w1.heap.size, 0, none⟩) hgi).trans (row3 HBXi.out).1
              by_cases hli : i < ns.length
              · have hi0 : (0 : Int) ≤ i := by omega
                have hi1 : (i : Int) < ns.length := by omega
                have HTs := hid (tot_succ ns tn i)
                generalize tot ns tn i = mt at *
                generalize hWo : wr = wo at *
                clear hWo
                go_wp2
                clear u0
                go_loopw [25, 27] (fun m k' wr => ∃ k : Nat, k' = .int .i64 k ∧ k ≤ i ∧ m = .int .i64 (row2 ns tn i mt k : Nat) ∧ Hid (Below wm.heap.size wm wr)) (fun _ k' _ => i - (intOf k').toNat)
                case atStart => exact ⟨0, rfl, by omega, rfl, HBo⟩
                case round =>
                  obtain ⟨k, rfl, hk, rfl, HBk⟩ := hrel
                  by_cases hlk : k < i
                  · have hk0 : (0 : Int) ≤ k := by omega
                    have hk1 : (k : Int) < i := by omega
                    have hk2 : (k : Int) < ns.length := by omega
                    have HRs := hid (row2_succ ns tn i mt k)
                    generalize row2 ns tn i mt k = mr at *
                    obtain ⟨sA, sb, sA1, sA2⟩ := HSz.out i hli
                    obtain ⟨sB, -, sB1, sB2⟩ := HSz.out k (by omega)
                    obtain ⟨A, hA⟩ : ∃ A, A = ns.getD i 0 := ⟨_, rfl⟩
                    obtain ⟨B, hB⟩ : ∃ B, B = ns.getD k 0 := ⟨_, rfl⟩
                    rw [← hA] at sA sA1 sA2
                    rw [← hB] at sB sB1 sB2
                    have hAB : A * B ≤ 9 := Nat.mul_le_mul sA2 sB2
                    have hABi : (A : Int) * (B : Int) ≤ 9 := by exact_mod_cast hAB
                    have hAB0 : (0 : Int) ≤ (A : Int) * (B : Int) := Int.mul_nonneg (by omega) (by omega)
                    have HA := hid hA
                    have HBb := hid hB
                    clear hA hB hAB
                    have cA := (HBk.out.cell (p := ⟨slb sa, slo sa + i, none⟩) sb).trans sA
                    have cB := (HBk.out.cell (p := ⟨slb sa, slo sa + k, none⟩) sb).trans sB
                    have hbxk := row3 ((HBk.out.block _ hgi).trans HBXi.out)
                    have u0 := hbxk.1
                    have u2 := hbxk.2.2.1
                    clear hbxk sA sB
                    obtain ⟨m9, hm9⟩ : ∃ m9, m9 = (if tn = 2 then max mr (ns.getD i 0 * ns.getD k 0) else mr) := ⟨_, rfl⟩
                    have HM9 := hid hm9
                    clear hm9
                    by_cases ht : tn = 2
                    case' pos =>
                      have e2 : ((tn : Int) == 2) = true := beqT (by omega)
                      have HV : Hid (Value.int .i64 (max (mr : Int) ((A : Int) * (B : Int))) = .int .i64 ((inner3 ns i k m9 0 : Nat) : Int)) := hid (by
                        show Value.int .i64 _ = .int .i64 ((m9 : Nat) : Int)
                        rw [HM9.out, if_pos ht, ← HA.out, ← HBb.out]
                        have e : ((A * B : Nat) : Int) = (A : Int) * (B : Int) := Int.natCast_mul A B
                        rw [← e]
                        congr 1
                        omega)
                      have HT3 : Hid (¬ tn = 3) := hid (by omega)
                      clear ht
                      go_wp2
                      go_quiet (fail)
                      have HBq := hid (HBk.out.trans (below_drewN (Below.refl wr.heap.size wr) nq |>.mono HBk.out.size))
                      generalize wr.drewN nq = wq at *
                      clear cA cB u0 u2 HBk
                      go_wp2
                    case' neg =>
                      have e2 : ((tn : Int) == 2) = false := beqF (by omega)
                      have HV : Hid (Value.int .i64 (mr : Int) = .int .i64 ((inner3 ns i k m9 0 : Nat) : Int)) := hid (by
                        show Value.int .i64 _ = .int .i64 ((m9 : Nat) : Int)
                        rw [HM9.out, if_neg ht])
                      have HBq := HBk
                      have HT3 : Hid (True) := hid trivial
                      clear ht
                      go_wp2
                      clear cA cB u0 u2 HBk
                      generalize wr = wq at *
                    all_goals
                      go_loopw [25, 28] (fun m j' wr => ∃ j : Nat, j' = .int .i64 j ∧ j ≤ (if tn = 3 then k else 0) ∧ m = .int .i64 (inner3 ns i k m9 j : Nat) ∧ Hid (Below wm.heap.size wm wr)) (fun _ j' _ => k - (intOf j').toNat)
                      case atStart => exact ⟨0, rfl, Nat.zero_le _, HV.out, HBq⟩
                      case round =>
                        obtain ⟨j, rfl, hj, rfl, HBj⟩ := hrel
                        have hbxj := row3 ((HBj.out.block _ hgi).trans HBXi.out)
                        have u0 := hbxj.1
                        have u2 := hbxj.2.2.1
                        clear hbxj
                        have HJk : Hid (¬ (j < k ∧ tn = 3) → row2 ns tn i mt (k + 1) = inner3 ns i k m9 j) := hid (fun h => by
                          have hJ : j = (if tn = 3 then k else 0) := by
                            split at hj
                            · rename_i h3
                              rw [if_pos h3]
                              have : ¬ j < k := fun hh => h ⟨hh, h3⟩
                              omega
                            · rename_i h3
                              rw [if_neg h3]
                              omega
                          rw [HRs.out]
                          unfold step2
                          rw [← HM9.out, ← hJ])
                        by_cases hlj : j < k
                        · have hj0 : (0 : Int) ≤ j := by omega
                          have hj1 : (j : Int) < k := by omega
                          have hj2 : (j : Int) < ns.length := by omega
                          by_cases ht3 : tn = 3
                          · have e3 : ((tn : Int) == 3) = true := beqT (by omega)
                            have hj9 : j + 1 ≤ (if tn = 3 then k else 0) := by rw [if_pos ht3]; omega
                            have HIs := hid (inner3_succ ns i k m9 j)
                            generalize inner3 ns i k m9 j = mi at *
                            obtain ⟨sA, sb', -, -⟩ := HSz.out i hli
                            obtain ⟨sB, -, -, -⟩ := HSz.out k (by omega)
                            obtain ⟨sC, -, sC1, sC2⟩ := HSz.out j (by omega)
                            obtain ⟨C, hC⟩ : ∃ C, C = ns.getD j 0 := ⟨_, rfl⟩
                            rw [← HA.out] at sA
                            rw [← HBb.out] at sB
                            rw [← hC] at sC sC1 sC2
                            have HC := hid hC
                            have cA := (HBj.out.cell (p := ⟨slb sa, slo sa + i, none⟩) sb').trans sA
                            have cB := (HBj.out.cell (p := ⟨slb sa, slo sa + k, none⟩) sb').trans sB
                            have cC := (HBj.out.cell (p := ⟨slb sa, slo sa + j, none⟩) sb').trans sC
                            have hABC : (A : Int) * (B : Int) * (C : Int) ≤ 27 := Int.le_trans (Int.mul_le_mul_of_nonneg_right hABi (by omega)) (by omega)
                            have hABC0 : (0 : Int) ≤ (A : Int) * (B : Int) * (C : Int) := Int.mul_nonneg hAB0 (by omega)
                            have HV2 : Hid (Value.int .i64 (max (mi : Int) ((A : Int) * (B : Int) * (C : Int))) = .int .i64 ((inner3 ns i k m9 (j + 1) : Nat) : Int)) := hid (by
                              rw [HIs.out, ← HA.out, ← HBb.out, ← HC.out]
                              have e : ((A * B * C : Nat) : Int) = (A : Int) * (B : Int) * (C : Int) := by rw [Int.natCast_mul, Int.natCast_mul]
                              rw [← e]
                              congr 1
                              omega)
                            clear sA sB sC hC ht3 hj
                            go_wp2
                            go_quiet (fail)
                            have HN := hid (HBj.out.trans (below_drewN (Below.refl wr.heap.size wr) nq |>.mono HBj.out.size))
                            generalize wr.drewN nq = wz at *
                            clear cA cB cC u0 u2
                            go_wp2
                            go_roundw
                            case rel => exact ⟨j + 1, by go_num, hj9, HV2.out, HN⟩
                            case measure => simp [intOf]; omega
                          · have e3 : ((tn : Int) == 3) = false := beqF (by omega)
                            have HE := hid (HJk.out (fun h => ht3 h.2))
                            clear hj ht3
                            go_wp2
                            go_roundw
                            case rel => exact ⟨k + 1, by go_num, by omega, by rw [HE.out], HBj⟩
                            case measure => simp [intOf]; omega
                        · have HE := hid (HJk.out (fun h => hlj h.1))
                          clear hj
                          go_wp2
                          go_roundw
                          case rel => exact ⟨k + 1, by go_num, by omega, by rw [HE.out], HBj⟩
                          case measure => simp [intOf]; omega
                  · obtain rfl : k = i := by omega
                    go_wp2
                    go_roundw
                    case rel => exact ⟨k + 1, by go_num, by omega, by rw [HTs.out], HBk⟩
                    case measure => simp [intOf]; omega
              · obtain rfl : i = ns.length := by omega
                have HTi2 := hid (HTi.out.below HBo.out HTi.out.lt)
                clear HBXi HSz
                go_wp2_with fail
                refine (lives_any wr HTi2.out).mono ?_
                rintro e w15 ⟨rfl, hb15⟩
                have hbz := HBw.out.trans ((HBo.out.trans (hb15.mono HBo.out.size)).mono HBw.out.size)
                have HE := hid (HBx.out.trans (hbz.mono HBx.out.size))
                clear hb15 hbz
                go_wp2
                go_ret
                exact ⟨rfl, HE.out⟩

end Go.Proofs.YtjaejnacdanpkaaDoor
