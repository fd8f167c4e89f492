/- CoverNew: the walk. -/
import Derived.Test.YtjaejnacdanpkaaDoorC59
namespace Go.Proofs.YtjaejnacdanpkaaDoor
open Go.RowKit

attribute [local go_sem] Oper.semAt_some

theorem prodR_small : ∀ (l : List Nat) (p : Int), 0 ≤ p → (∀ n ∈ l, n ≤ 3) → (szI l).foldl (fun p s => min (p * s) 4097) p ≤ p * 3 ^ l.length
  | [], p, _, _ => by simp [szI]
  | n :: l, p, hp, h => by
    have hn : (n : Int) ≤ 3 := by have := h n (List.mem_cons_self ..); omega
    have h0 : 0 ≤ p * (n : Int) := Int.mul_nonneg hp (by omega)
    have ih := prodR_small l (min (p * n) 4097) (by omega) (fun m hm => h m (List.mem_cons_of_mem _ hm))
    have e1 : min (p * (n : Int)) 4097 ≤ p * 3 := Int.le_trans (Int.min_le_left _ _) (Int.mul_le_mul_of_nonneg_left hn hp)
    have e2 := Int.mul_le_mul_of_nonneg_right e1 (show (0 : Int) ≤ 3 ^ l.length from Int.pow_nonneg (by omega))
    show (szI l).foldl (fun p s => min (p * s) 4097) (min (p * n) 4097) ≤ p * 3 ^ (l.length + 1)
    have e3 : p * 3 * 3 ^ l.length = p * 3 ^ (l.length + 1) := by rw [Int.pow_succ, Int.mul_assoc, Int.mul_comm 3]
    omega
theorem nats_szI (ns : List Nat) : nats (szI ns) = ns := by
  unfold nats szI
  rw [List.map_map]
  have e : (Int.toNat ∘ fun n : Nat => (n : Int)) = id := by funext n; simp
  rw [e, List.map_id]
/-- A small problem is valid. -/
theorem valid_small (ns : List Nat) (F : List (List Int)) (tn : Nat) (m1 : ∀ n ∈ ns, 1 ≤ n ∧ n ≤ 3) (m2 : 2 ≤ ns.length) (m3 : ns.length ≤ 4) (m4 : F.length ≤ 12) (m5 : ∀ f ∈ F, Cov.comboB ns f = true ∧ Cov.vals f ≠ 0) (m6 : 2 ≤ tn) (m7 : tn ≤ 3) (m8 : tn ≤ ns.length) : validE (szI ns) F tn = 0 := by
  have hl : (szI ns).length = ns.length := by simp [szI]
  have hw : wrongB (szI ns) = false := by
    unfold wrongB
    rw [Bool.or_eq_false_iff, hl]
    refine ⟨decide_eq_false (by omega), List.any_eq_false.2 fun x hx => ?_⟩
    obtain ⟨n, hn, rfl⟩ := List.mem_map.1 hx
    have := m1 n hn
    simp only [badS, Bool.or_eq_true, decide_eq_true_eq, not_or]
    omega
  have hp : prodV (szI ns) ≤ 81 := by
    unfold prodV prodR
    rw [hw, if_neg (by decide)]
    refine Int.le_trans (prodR_small ns 1 (by omega) (fun n hn => (m1 n hn).2)) ?_
    have h4 : ns.length = 2 ∨ ns.length = 3 ∨ ns.length = 4 := by omega
    rcases h4 with h | h | h <;> rw [h] <;> decide
  have h1 : limB (szI ns) F = false := by
    unfold limB
    rw [Bool.or_eq_false_iff, Bool.or_eq_false_iff, hl]
    exact ⟨decide_eq_false (by omega), decide_eq_false (by omega), decide_eq_false (by omega)⟩
  have h2 : argB (szI ns) tn = false := by
    unfold argB
    rw [Bool.or_eq_false_iff, Bool.or_eq_false_iff, Bool.or_eq_false_iff, hl]
    exact ⟨hw, decide_eq_false (by omega), decide_eq_false (by omega), decide_eq_false (by omega)⟩
  have h3 : F.any (badC (nats (szI ns))) = false := by
    rw [nats_szI]
    refine List.any_eq_false.2 fun c hc => ?_
    have := m5 c hc
    simp [badC, this.1, this.2]
  unfold validE
  rw [h1, h2, h3]
  rfl
theorem cR_small {ns : List Nat} {F : List (List Int)} {tn : Nat} (h : validE (szI ns) F tn = 0) : cR (szI ns) F tn = Cov.coverRows ns F tn := by
  unfold cR; rw [if_pos h, nats_szI, Int.toNat_natCast]
theorem cL_small {ns : List Nat} {F : List (List Int)} {tn : Nat} (h : validE (szI ns) F tn = 0) : cL (szI ns) F tn = Cov.leftL ns F tn := by
  unfold cL; rw [if_pos h, nats_szI, Int.toNat_natCast]
theorem cW_small {ns : List Nat} {F : List (List Int)} {tn : Nat} (h : validE (szI ns) F tn = 0) : cW (szI ns) F tn = (Cov.leftL ns F tn).map (Cov.whyL ns F) := by
  unfold cW; rw [if_pos h, nats_szI, Int.toNat_natCast]
theorem cM_small {ns : List Nat} {F : List (List Int)} {tn : Nat} (h : validE (szI ns) F tn = 0) : cM (szI ns) F tn = (Cov.leastL (Cov.openL ns F tn) : Nat) := by
  unfold cM; rw [if_pos h, nats_szI, Int.toNat_natCast]
theorem pcover_small (ns : List Nat) (F : List (List Int)) (tn : Nat) (hv : validE (szI ns) F tn = 0) (h4 : ns.length ≤ 4) (sv fv : Value) (S T : Nat → Prop) (w : World) (hs : IntsV S w sv (szI ns)) (hf : RowsV T w fv F) (hT : TabD w) :
    Calls Tryd.prog 11 #[sv, fv, .int .i64 tn] w fun e w' => ∃ x y z, e = .returned (.tuple #[x, y, z, .int .i64 0]) ∧ RowsV AnyB w' x (Cov.coverRows ns F tn) ∧ RowsV AnyB w' y (Cov.leftL ns F tn) ∧ RowsV AnyB w' z ((Cov.leftL ns F tn).map (Cov.whyL ns F)) ∧ Below w.heap.size w w' := by
  have h := pcover_any (szI ns) (by simp [szI]; omega) F tn sv fv S T w hs hf hT
  rw [hv, cR_small hv, cL_small hv, cW_small hv] at h
  exact h
theorem qn_and {C : World → Prop} {R : Act → World → Prop} {a : Act} {w : World} (h1 : C w) (h2 : R a w) : QN (fun a' w' => C w' ∧ R a' w') .normal a w := ⟨h1, h2⟩
theorem asked_len {ns : List Nat} {tn : Nat} (h1 : ∀ n ∈ ns, 1 ≤ n ∧ n ≤ 3) (h2 : ns.length ≤ 4) : (Cov.asked ns tn).length ≤ 6561 :=
  Nat.le_trans (List.length_filter_le _ _) (Nat.le_trans (allP_size true ns (fun n hn => by have := h1 n hn; omega)) (Nat.le_trans (Nat.pow_le_pow_right (by omega) h2) (by decide)))
theorem cov_len {ns : List Nat} {F : List (List Int)} {tn : Nat} (h1 : ∀ n ∈ ns, 1 ≤ n ∧ n ≤ 3) (h2 : ns.length ≤ 4) : (Cov.coverRows ns F tn).length ≤ 6561 :=
  Nat.le_trans (greedy_len _ _ _) (Nat.le_trans (List.length_filter_le _ _) (asked_len h1 h2))

set_option maxRecDepth 100000 in
set_option maxHeartbeats 8000000 in
theorem new_any (l : List Int) (hl : Fit l) (v : Value) (S : Nat → Prop) (w : World) (hv : IntsV S w v l) (hT : TabD w) :
    Calls Tryd.prog 6 #[v] w fun e w' => e = .returned (.bool true) ∧ Below w.heap.size w w' := by
  obtain ⟨a, cap, rfl, hok, hcap, hmax⟩ := hv.form
  go_enter Tryd.func6, Tryd.ntmps6
  go_wp2_with fail
  refine (made_any l hl _ S w hv).mono ?_
  rintro e w1 ⟨ns, F, tn, sv, fv, rfl, m1, m2, m3, m4, m5, m6, m7, m8, hs1, hf1, hb1⟩
  have hP1 : PV w1 sv fv (szI ns) F := ⟨hs1.mono (fun _ _ _ => trivial), RowsV.mono hf1 (fun _ _ _ => trivial), by simp [szI]; omega, by omega, comboB_short m3 m5⟩
  obtain ⟨sa, sc, rfl⟩ : ∃ a c, sv = .slice a ns.length c := by obtain ⟨a, c, h, -⟩ := hs1.form; rw [List.length_map] at h; exact ⟨_, _, h⟩
  obtain ⟨fa, fc, rfl⟩ : ∃ a c, fv = .slice a F.length c := by obtain ⟨a, c, h, -⟩ := hf1.form; exact ⟨_, _, h⟩
  have hb2 : Below w1.heap.size w1 (w1.alloc (.cells #[.slice sa ns.length sc, .slice fa F.length fc, .int .i64 tn] 25)) := (Below.refl _ _).alloc (Nat.le_refl _) _
  have hbx : (w1.alloc (.cells #[.slice sa ns.length sc, .slice fa F.length fc, .int .i64 tn] 25)).heap[w1.heap.size]? = some (.cells #[.slice sa ns.length sc, .slice fa F.length fc, .int .i64 tn] 25 (0, 0)) := heap_new _ _ rfl
  have hP2 := hP1.below hb2
  have hb02 := hb1.trans (hb2.mono hb1.size)
  have hT2 := hT.below hb02 hT.lt
  go_wp2_with fail
  generalize World.alloc w1 _ = W2 at *
  have hgw : w1.heap.size < W2.heap.size := (Array.getElem?_eq_some_iff.1 hbx).1
  have hVal := valid_small ns F tn m1 m2 m3 (by omega) m5 m6 m7 m8
  have x0 : ∀ x : Grew W2, x.1.cell? ⟨w1.heap.size, 0, none⟩ = some (.slice sa ns.length sc) := fun x => (x.cell _ _ hgw).trans (row3 hbx).1
  have x1 : ∀ x : Grew W2, x.1.cell? ⟨w1.heap.size, 1, none⟩ = some (.slice fa F.length fc) := fun x => (x.cell _ _ hgw).trans (row3 hbx).2.1
  have x2 : ∀ x : Grew W2, x.1.cell? ⟨w1.heap.size, 2, none⟩ = some (.int .i64 tn) := fun x => (x.cell _ _ hgw).trans (row3 hbx).2.2.1
  have hdr : Below W2.heap.size W2 (W2.drewN 1) := below_drewN (Below.refl _ _) 1
  have HBX := hid hbx
  have HP2 := hid hP2
  have HT2 := hid hT2
  have HB02 := hid hb02
  have HVal := hid hVal
  clear hP2 hT2 hb02 hP1 hT hs1 hf1 hb1 hb2 hv hbx hVal
  refine wp_region_grewS 16 [(true, 0), (true, 1), (true, 2), (true, 3), (true, 5), (true, 6), (false, 4), (false, 7), (true, 8), (true, 9), (true, 10), (true, 11), (true, 12), (true, 13), (true, 14), (true, 15)] (by kernel_rfl) (by kernel_rfl) ?_
  refine wpSteps_pre 4 (by decide) ?_
  simp only [List.take_succ_cons, List.take_zero]
  repeat (go_big_quiet_step (fail))
  refine wpQuiet_nil ?_
  iterate 2 (refine wpSteps_quiet rfl ?_; repeat (go_big_quiet_step (fail)); refine wpQuiet_nil ?_)
  refine wpSteps_one rfl ?_
  clear x0 x1 x2
  go_wp2_with fail
  refine (combos_any F (by omega) _ AnyB (W2.drewN 1) (RowsV.keep HP2.out.2.1 (KeepS.below hdr))).mono ?_
  rintro e w3 ⟨x3, rfl, ho3, hb3⟩
  have hb23 : Below W2.heap.size W2 w3 := hdr.trans (hb3.mono hdr.size)
  have HF3 := hid ho3.any
  obtain ⟨ca, cn, cc, rfl⟩ : ∃ a n c, x3 = .slice a n c := by obtain ⟨a, c, h, -⟩ := ho3.any.form; exact ⟨_, _, _, h⟩
  clear ho3 hb3
  go_wp2
  refine qn_mk ⟨InGrew.of hb23, ?_⟩
  refine wpSteps_one rfl ?_
  go_wp2_with fail
  refine (pcover_small ns F tn HVal.out m3 _ _ AnyB AnyB w3 (HP2.out.1.keep (KeepS.below hb23)) HF3.out (HT2.out.below hb23 HT2.out.lt)).mono ?_
  rintro e w4 ⟨x, y, z, rfl, hx, hy, hz, hb4⟩
  have hb24 : Below W2.heap.size W2 w4 := hb23.trans (hb4.mono hb23.size)
  obtain ⟨ra, rc, rfl, hrok, hrcap, hrmax⟩ := hx.form
  obtain ⟨la, lc, rfl, hlok, hlcap, hlmax⟩ := hy.form
  obtain ⟨wa, wc, ew, hwok, hwcap, hwmax⟩ := hz.form
  rw [List.length_map] at ew hwok hwcap
  subst ew
  have HR := hid hx
  have HL := hid hy
  have HW := hid hz
  clear hx hy hz hb4
  go_wp2
  refine qn_mk ⟨InGrew.of hb24, ?_⟩
  iterate 8 (refine wpSteps_quiet rfl ?_; repeat (go_big_quiet_step (fail)); refine wpQuiet_nil ?_)
  refine wpSteps_done ?_
  simp only [List.drop_succ_cons, List.drop_zero]
  have hgw4 : w1.heap.size < w4.heap.size := Nat.lt_of_lt_of_le hgw hb24.size
  have HBX4 := hid ((hb24.block _ hgw).trans HBX.out)
  have HP4 := hid (HP2.out.below hb24)
  have HT4 := hid (HT2.out.below hb24 HT2.out.lt)
  have HB4 := hid (HB02.out.trans (hb24.mono HB02.out.size))
  clear hb23 hb24 hdr HBX HP2 HT2 HB02 HF3
  have u0 := (row3 HBX4.out).1
  have u1 := (row3 HBX4.out).2.1
  have u2 := (row3 HBX4.out).2.2.1
  have HCR := hid (Cov.coverRows_ok ns F tn)
  have HCN := hid (Cov.coverRows_new ns F tn)
  have hRl : (Cov.coverRows ns F tn).length ≤ 6561 := cov_len m1 m3
  have hKl : (Cov.asked ns tn).length ≤ 6561 := asked_len m1 m3
  generalize hRR : Cov.coverRows ns F tn = R at *
  clear hRR
  go_wp2_with fail
  refine (asked_any ns (fun n hn => by have := m1 n hn; omega) (by omega) F.length sa sc fa fc tn AnyB w4 HP4.out.1).mono ?_
  rintro e w5 ⟨xk, rfl, hk5, hb5⟩
  obtain ⟨ka, kc, rfl, hkok, hkcap, hkmax⟩ := hk5.form
  have HK5 := hid hk5
  have HR5 := hid (HR.out.keep (KeepS.below hb5))
  have HBX5 := hid ((hb5.block _ hgw4).trans HBX4.out)
  have HP5 := hid (HP4.out.below hb5)
  have HT5 := hid (HT4.out.below hb5 HT4.out.lt)
  have HB5 := hid (HB4.out.trans (hb5.mono HB4.out.size))
  have hgw5 : w1.heap.size < w5.heap.size := Nat.lt_of_lt_of_le hgw4 hb5.size
  have HKm : Hid (∀ c ∈ Cov.asked ns tn, c.length = ns.length) := hid (fun c hc => Cov.comboB_len ns c (Cov.mem_asked.1 hc).1)
  have HCN2 : Hid (∀ i (h : i < R.length), (Cov.asked ns tn).any (fun c => Cov.has R[i] c && !Cov.inR (R.take i) c) = true) := hid (fun i h => by
    obtain ⟨c, hc, h1, h2⟩ := HCN.out i h
    exact List.any_eq_true.2 ⟨c, hc, by rw [h1, h2]; rfl⟩)
  generalize hKK : Cov.asked ns tn = K at *
  clear hKK HCN HBX4 HP4 HT4 HB4 HR hk5 hb5 hgw4 hgw u0 u1 u2
  go_wp2
  go_loopw [9] (fun i wr => ∃ k : Nat, i = .int .i64 k ∧ k ≤ R.length ∧ Hid (Below w5.heap.size w5 wr)) (fun i _ => R.length - (intOf i).toNat)
  case atStart => exact ⟨0, rfl, by omega, hid (Below.refl _ _)⟩
  case round =>
    obtain ⟨i, rfl, hi, HB⟩ := hrel
    by_cases hlt : i < R.length
    · have hi0 : (0 : Int) ≤ i := by omega
      have hi1 : (i : Int) < R.length := by omega
      have hHR := HR5.out.keep (KeepS.below HB.out)
      obtain ⟨ur, hcr, hbr, hrr⟩ := hHR.at hlt
      obtain ⟨pa, pc, rfl, -, -, -⟩ := hrr.form
      have HRw := hid hHR
      have HCr := hid (HCR.out _ (List.getElem_mem hlt))
      have HCNi := hid (HCN2.out i hlt)
      have hs0 := run_slice_h (P := Tryd.prog)
      have hp0 := SlV.part hHR (Nat.zero_le i) (show i ≤ R.length by omega)
      rw [List.drop_zero] at hp0
      obtain ⟨da, dc, hde⟩ : ∃ da dc, sliced ra 0 i rc 1 = .slice da i dc := by unfold sliced; exact ⟨_, _, rfl⟩
      have hsl : ∀ X, (Instr.slice 23 (.slice ra R.length rc) none (some (.int .i64 (i : Int))) none).run Tryd.prog X = .ok (.slice da i dc) X := fun X => by
        rw [run_slice_h X 23 ra R.length rc (by kernel_rfl) .i64 _ (by omega) (by omega)]
        have hs1 : (sizeOf (Tryd.prog.elem 23)).run Tryd.prog X = .ok 1 X := rfl
        rw [hs1]
        simp only [Result.andThen, Int.toNat_natCast, hde]
      rw [hde] at hp0
      have HPre := hid hp0
      have HPr := hid (fun r hr => Cov.comboB_len ns r (Cov.rowB_combo ns r (HCR.out r (List.mem_of_mem_take (i := i) hr)).1))
      have hrw := hrr
      generalize hr : R[i] = r at *
      have hrb : Cov.comboB ns r = true ∧ Cov.vals r = ns.length := by
        have := HCr.out.1
        rw [Cov.rowB_eq, Bool.and_eq_true, decide_eq_true_eq] at this
        exact this
      have HRL := hid (Cov.comboB_len ns r hrb.1)
      have HRr := hid hrr
      have hgw : w1.heap.size < wr.heap.size := Nat.lt_of_lt_of_le hgw5 HB.out.size
      have HBXw := hid ((HB.out.block _ hgw5).trans HBX5.out)
      have HPw := hid (HP5.out.below HB.out)
      have x0 : ∀ x : Grew wr, x.1.cell? ⟨w1.heap.size, 0, none⟩ = some (.slice sa ns.length sc) := fun x => (x.cell _ _ hgw).trans (row3 HBXw.out).1
      have x1 : ∀ x : Grew wr, x.1.cell? ⟨w1.heap.size, 1, none⟩ = some (.slice fa F.length fc) := fun x => (x.cell _ _ hgw).trans (row3 HBXw.out).2.1
      have x2 : ∀ x : Grew wr, x.1.cell? ⟨w1.heap.size, 2, none⟩ = some (.int .i64 tn) := fun x => (x.cell _ _ hgw).trans (row3 HBXw.out).2.2.1
      have x3 : ∀ x : Grew wr, x.1.cell? ⟨slb ra, slo ra + i, none⟩ = some (.slice pa r.length pc) := fun x => (x.cell _ _ hbr).trans hcr
      have hdr : Below wr.heap.size wr (wr.drewN 1) := below_drewN (Below.refl _ _) 1
      clear hs0 hp0 hde hrr hrw hHR hr
      have HCo := hid (fun (x : Grew wr) => Calls.grew_of (x := x) ((combo_any ns r (by omega) (fun n hn => by have := m1 n hn; omega) sa sc _ _ _ fa F.length fc tn rfl rfl AnyB AnyB x.1 (HPw.out.1.keep (KeepS.below x.2)) (HRr.out.keep (KeepS.below x.2))).mono fun e w' h => (⟨by rw [h.1, hrb.1], h.2⟩ : e = .returned (.bool true) ∧ Below x.1.heap.size x.1 w')))
      have HVa := hid (fun (x : Grew wr) => grew_same (x := x) ((values_any r (by have := HRL.out; omega) _ AnyB x.1 (HRr.out.keep (KeepS.below x.2))).mono fun e w' h => (⟨by rw [h.1, hrb.2], h.2⟩ : e = .returned (.int .i64 (ns.length : Nat)) ∧ w' = x.1)))
      go_wp2
      refine wp_region_quietG (by kernel_rfl) (by kernel_rfl) ?_
      iterate 6 (go_big_quiet_step ((exact HCo.out _)))
      iterate 12 (go_big_quiet_step ((exact HVa.out _)))
      refine wpQuiet_nil ?_
      intro w6 hx6
      have hb16 := grew_below hx6
      have HB6 := hid (HB.out.trans (hb16.mono HB.out.size))
      have HR6 := hid (HRr.out.keep (KeepS.below hb16))
      have HPre6 := hid (RowsV.keep HPre.out (KeepS.below hb16))
      have hcr6 := (hb16.cell (p := ⟨slb ra, slo ra + i, none⟩) hbr).trans hcr
      have hbr6 : slb ra < w6.heap.size := Nat.lt_of_lt_of_le hbr hb16.size
      clear x0 x1 x2 x3 HCo HVa hx6 hb16 hdr hcr hbr HRr HPre hgw HBXw HPw HRw HB
      generalize hWo : wr = Wo at *
      clear hWo Wo
      go_wp2
      go_loopw [10, 11] (fun f i' wr => ∃ k : Nat, i' = .int .i64 k ∧ k ≤ K.length ∧ f = .bool ((K.take k).any fun c => Cov.has r c && !Cov.inR (R.take i) c) ∧ Hid (Below w6.heap.size w6 wr)) (fun _ i' _ => K.length - (intOf i').toNat)
      case atStart => exact ⟨0, rfl, by omega, by simp, hid (Below.refl _ _)⟩
      case round =>
        obtain ⟨k, rfl, hk, rfl, HBk⟩ := hrel
        by_cases hlk : k < K.length
        · have hk0 : (0 : Int) ≤ k := by omega
          have hk1 : (k : Int) < K.length := by omega
          have HT := hid (any_take (fun c => Cov.has r c && !Cov.inR (R.take i) c) K k hlk)
          have hKw := (HK5.out.keep (KeepS.below HB6.out)).keep (KeepS.below HBk.out)
          obtain ⟨uc, hcc, hbc, hcv⟩ := hKw.at hlk
          obtain ⟨qa, qc, rfl, -, -, -⟩ := hcv.form
          have HKl := hid (HKm.out _ (List.getElem_mem hlk))
          have HCv := hid hcv
          have HR7 := hid (HR6.out.keep (KeepS.below HBk.out))
          have HPre7 := hid (RowsV.keep HPre6.out (KeepS.below HBk.out))
          have hcr7 := (HBk.out.cell (p := ⟨slb ra, slo ra + i, none⟩) hbr6).trans hcr6
          have hbr7 : slb ra < wr.heap.size := Nat.lt_of_lt_of_le hbr6 HBk.out.size
          generalize K[k] = c at *
          generalize hfd : (K.take k).any (fun c => Cov.has r c && !Cov.inR (R.take i) c) = fd at *
          have x3 : ∀ x : Grew wr, x.1.cell? ⟨slb ra, slo ra + i, none⟩ = some (.slice pa r.length pc) := fun x => (x.cell _ _ hbr7).trans hcr7
          have x4 : ∀ x : Grew wr, x.1.cell? ⟨slb ka, slo ka + k, none⟩ = some (.slice qa c.length qc) := fun x => (x.cell _ _ hbc).trans hcc
          have HHas := hid (fun (x : Grew wr) => grew_drew (x := x) (has_any r c (by rw [HRL.out, HKl.out]) _ _ AnyB AnyB x.1 (HR7.out.keep (KeepS.below x.2)) (HCv.out.keep (KeepS.below x.2))))
          have HIn := hid (fun (x : Grew wr) => grew_drew (x := x) (in_any (R.take i) c (fun r hr => by rw [HPr.out r hr, HKl.out]) _ _ AnyB AnyB x.1 (RowsV.keep HPre7.out (KeepS.below x.2)) (HCv.out.keep (KeepS.below x.2))))
          generalize Cov.has r c = hb at *
          generalize Cov.inR (R.take i) c = ib at *
          clear hfd hKw hcv hcc
          have HFin : Hid ((fd || hb && !ib) = (K.take (k + 1)).any (fun c => Cov.has r c && !Cov.inR (R.take i) c)) := hid HT.out.symm
          clear HT
          go_wp2
          refine wp_region_quietG (by kernel_rfl) (by kernel_rfl) ?_
          cases fd with
          | true =>
            iterate 10 (go_big_quiet_step ((exact HHas.out _)))
            iterate 14 (go_big_quiet_step ((exact HIn.out _)))
            refine wpQuiet_nil ?_
            intro w7 hx7
            have hb7 := grew_below hx7
            have HN := hid (HBk.out.trans (hb7.mono HBk.out.size))
            have HF : Hid (true = (K.take (k + 1)).any (fun c => Cov.has r c && !Cov.inR (R.take i) c)) := hid (by rw [← HFin.out]; rfl)
            clear hb7 hx7 x3 x4 hcr7
            go_wp2
            go_roundw
            case rel => exact ⟨k + 1, by go_num, by omega, by rw [← HF.out], HN⟩
            case measure => simp [intOf]; omega
          | false =>
            cases hb with
            | false =>
              iterate 11 (go_big_quiet_step ((exact HHas.out _)))
              iterate 13 (go_big_quiet_step ((exact HIn.out _)))
              refine wpQuiet_nil ?_
              intro w7 hx7
              have hb7 := grew_below hx7
              have HN := hid (HBk.out.trans (hb7.mono HBk.out.size))
              have HF : Hid (false = (K.take (k + 1)).any (fun c => Cov.has r c && !Cov.inR (R.take i) c)) := hid (by rw [← HFin.out]; rfl)
              clear hb7 hx7 x3 x4 hcr7
              go_wp2
              go_roundw
              case rel => exact ⟨k + 1, by go_num, by omega, by rw [← HF.out], HN⟩
              case measure => simp [intOf]; omega
            | true =>
              iterate 11 (go_big_quiet_step ((exact HHas.out _)))
              iterate 13 (go_big_quiet_step ((exact HIn.out _)))
              refine wpQuiet_nil ?_
              intro w7 hx7
              have hb7 := grew_below hx7
              have HN := hid (HBk.out.trans (hb7.mono HBk.out.size))
              have HF : Hid ((!ib) = (K.take (k + 1)).any (fun c => Cov.has r c && !Cov.inR (R.take i) c)) := hid (by rw [← HFin.out]; rfl)
              clear hb7 hx7 x3 x4 hcr7
              go_wp2
              go_roundw
              case rel => exact ⟨k + 1, by go_num, by omega, by rw [← HF.out], HN⟩
              case measure => simp [intOf]; omega
        · obtain rfl : k = K.length := by omega
          have hfd : ((K.take K.length).any fun c => Cov.has r c && !Cov.inR (R.take i) c) = true := by rw [List.take_length]; exact HCNi.out
          rw [hfd]
          have HB7 := hid (HB6.out.trans (HBk.out.mono HB6.out.size))
          have hgw : w1.heap.size < wr.heap.size := Nat.lt_of_lt_of_le hgw5 HB7.out.size
          have HBXw := hid ((HB7.out.block _ hgw5).trans HBX5.out)
          have HPw := hid (HP5.out.below HB7.out)
          have hcr7 := (HBk.out.cell (p := ⟨slb ra, slo ra + i, none⟩) hbr6).trans hcr6
          have hbr7 : slb ra < wr.heap.size := Nat.lt_of_lt_of_le hbr6 HBk.out.size
          have x0 : ∀ x : Grew wr, x.1.cell? ⟨w1.heap.size, 0, none⟩ = some (.slice sa ns.length sc) := fun x => (x.cell _ _ hgw).trans (row3 HBXw.out).1
          have x1 : ∀ x : Grew wr, x.1.cell? ⟨w1.heap.size, 1, none⟩ = some (.slice fa F.length fc) := fun x => (x.cell _ _ hgw).trans (row3 HBXw.out).2.1
          have x2 : ∀ x : Grew wr, x.1.cell? ⟨w1.heap.size, 2, none⟩ = some (.int .i64 tn) := fun x => (x.cell _ _ hgw).trans (row3 HBXw.out).2.2.1
          have x3 : ∀ x : Grew wr, x.1.cell? ⟨slb ra, slo ra + i, none⟩ = some (.slice pa r.length pc) := fun x => (x.cell _ _ hbr7).trans hcr7
          have HR7 := hid (HR6.out.keep (KeepS.below HBk.out))
          have HAl := hid (fun (x : Grew wr) => Calls.grew_of (x := x) ((allowed_any F r (fun c hc => by rw [HRL.out]; exact (Cov.comboB_len ns c (m5 c hc).1).symm) (by omega) _ sa ns.length sc rfl fa fc tn _ AnyB AnyB x.1 (RowsV.keep HPw.out.2.1 (KeepS.below x.2)) (HR7.out.keep (KeepS.below x.2))).mono fun e w' h => (⟨by rw [h.1, HCr.out.2], h.2⟩ : e = .returned (.bool true) ∧ Below x.1.heap.size x.1 w')))
          clear hfd hcr6
          go_wp2
          refine wp_region_quietG (by kernel_rfl) (by kernel_rfl) ?_
          iterate 11 (go_big_quiet_step ((exact HAl.out _)))
          refine wpQuiet_nil ?_
          intro w8 hx8
          have hb8 := grew_below hx8
          have HN := hid (HB7.out.trans (hb8.mono HB7.out.size))
          clear hb8 hx8 x0 x1 x2 x3 hcr7
          go_wp2
          go_roundw
          case rel => exact ⟨i + 1, by go_num, by omega, HN⟩
          case measure => simp [intOf]; omega
    · obtain rfl : i = R.length := by omega
      go_wp2_with fail
      refine (lives_any wr (HT5.out.below HB.out HT5.out.lt)).mono ?_
      rintro e w9 ⟨rfl, hb9⟩
      have hbz := HB.out.trans (hb9.mono HB.out.size)
      have HE := hid (HB5.out.trans (hbz.mono HB5.out.size))
      clear hb9 hbz
      go_wp2
      go_ret
      exact ⟨rfl, HE.out⟩

end Go.Proofs.YtjaejnacdanpkaaDoor
