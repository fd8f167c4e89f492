/- Cover of the reference of layer 28. -/
import Derived.Test.YtjaejnacdanpkaaDoorB12
namespace Go.Proofs.YtjaejnacdanpkaaDoor
open Go.RowKit

theorem comboB_len : ∀ (ns : List Nat) (c : List Int), Cov.comboB ns c = true → c.length = ns.length
  | [], [], _ => rfl
  | [], _ :: _, h => by simp [Cov.comboB] at h
  | _ :: _, [], h => by simp [Cov.comboB] at h
  | n :: ns, x :: c, h => by
    simp only [Cov.comboB, Bool.and_eq_true] at h
    simp [comboB_len ns c h.2]

theorem results_tmp4 {fn : Func} {t u v x : Tmp} (h : fn.results = #[.tmp t, .tmp u, .tmp v, .tmp x]) (tmps : Array Value) (P : Program) (w : World) :
    (results fn tmps).run P w = .ok (.tuple #[tmps.getD t undef, tmps.getD u undef, tmps.getD v undef, tmps.getD x undef]) w := by
  simp [results, h]

/-- How long a slice is. -/
def slen : Value → Nat
  | .slice _ n _ => n
  | _ => 0
theorem best_step (op A : List (List Int)) (i : Nat) (h : i < A.length) (b : Nat × Int) : Cov.bestL op (A.drop i) i b = Cov.bestL op (A.drop (i + 1)) (i + 1) (if b.2 < ((op.filter fun c => Cov.has A[i] c).length : Int) then (i, ((op.filter fun c => Cov.has A[i] c).length : Int)) else b) := by
  rw [List.drop_eq_getElem_cons h]
  rfl

set_option maxRecDepth 100000 in
set_option maxHeartbeats 4000000 in
theorem rcover_ok (ns : List Nat) (hn : ∀ n ∈ ns, n ≤ 8) (hl : ns.length ≤ 8) (F : List (List Int)) (hF : ∀ c ∈ F, c.length = ns.length) (hFl : F.length ≤ 12) (tn : Nat) (hv : validE (szI ns) F tn = 0) (sa : Option Addr) (sc : Nat) (fa : Option Addr) (fc : Nat) (S T : Nat → Prop) (w : World)
    (hs : IntsV S w (.slice sa ns.length sc) (szI ns)) (hf : RowsV T w (.slice fa F.length fc) F) :
    Calls Tryd.prog 13 #[.agg #[.slice sa ns.length sc, .slice fa F.length fc, .int .i64 tn]] w fun e w' => ∃ x y z, e = .returned (.tuple #[x, y, z, .int .i64 0]) ∧ RowsV AnyB w' x (Cov.coverRows ns F tn) ∧ RowsV AnyB w' y (Cov.leftL ns F tn) ∧ RowsV AnyB w' z ((Cov.leftL ns F tn).map (Cov.whyL ns F)) ∧ Below w.heap.size w w' := by
  have hA0 : Below w.heap.size w (w.alloc (.cells #[.slice sa ns.length sc, .slice fa F.length fc, .int .i64 tn] 25)) := (Below.refl _ _).alloc (Nat.le_refl _) _
  obtain ⟨sa', sc', es, hoks, hcaps, hmaxs⟩ := hs.form
  rw [List.length_map] at es hoks hcaps
  cases es
  obtain ⟨fa', fc', ef, hokf, hcapf, hmaxf⟩ := hf.form
  cases ef
  have hsz1 : (w.alloc (.cells #[.slice sa ns.length sc, .slice fa F.length fc, .int .i64 tn] 25)).heap.size = w.heap.size + 1 := by simp
  have bx : ∀ q (h : q < 3) W, Below (w.heap.size + 1) (w.alloc (.cells #[.slice sa ns.length sc, .slice fa F.length fc, .int .i64 tn] 25)) W → W.cell? ⟨w.heap.size, q, none⟩ = (#[.slice sa ns.length sc, .slice fa F.length fc, .int .i64 tn] : Array Value)[q]? := fun q h W hW => by
    have hb0 : (w.alloc (.cells #[.slice sa ns.length sc, .slice fa F.length fc, .int .i64 tn] 25)).heap[w.heap.size]? = some (.cells #[.slice sa ns.length sc, .slice fa F.length fc, .int .i64 tn] 25 (0, 0)) := World.alloc_heap_new w _
    exact cell_of_row _ _ q _ _ (0, 0) ((hW.block w.heap.size (by omega)).trans hb0)
  have HBX := hid bx
  have hS0 := IntsV.keep hs (KeepS.below hA0)
  have hF0 := RowsV.keep hf (KeepS.below hA0)
  have HA0 := hid hA0
  have HF := hid hF
  have hszl : (szI ns).length = ns.length := by simp
  have HVal := fun W (h1 : IntsV S W (.slice sa ns.length sc) (szI ns)) (h2 : RowsV T W (.slice fa F.length fc) F) => (by
    have h := valid_any (szI ns) (by rw [hszl]; omega) F (by omega) (fun c hc => by rw [hF c hc]; omega) tn sa sc fa fc S T W (by rw [hszl]; exact h1) h2
    rw [hszl, hv] at h
    exact h : Calls Tryd.prog 39 #[.agg #[.slice sa ns.length sc, .slice fa F.length fc, .int .i64 tn]] W fun e w' => e = .returned (.int .i64 0) ∧ Below W.heap.size W w')
  have HVl := hid HVal
  have HN := hid hn
  clear HVal hA0 hs hf bx hv hF hszl hn
  go_enter Tryd.func13, Tryd.ntmps13
  go_wp2_with fail
  generalize hW : w.alloc (.cells #[.slice sa ns.length sc, .slice fa F.length fc, .int .i64 tn] 25) = W at *
  clear hW
  have HS0 := hid hS0
  have HF0 := hid hF0
  clear hS0 hF0
  refine (HVl.out W HS0.out HF0.out).mono ?_
  rintro e w1 ⟨rfl, hb1⟩
  have hz1 := hb1.size
  have hzb : w.heap.size < w1.heap.size := by omega
  have bx0 := HBX.out 0 (by omega) w1 (by rw [← hsz1]; exact hb1)
  have bx1 := HBX.out 1 (by omega) w1 (by rw [← hsz1]; exact hb1)
  have bx2 := HBX.out 2 (by omega) w1 (by rw [← hsz1]; exact hb1)
  simp only [List.getElem?_toArray, List.getElem?_cons_zero, List.getElem?_cons_succ] at bx0 bx1 bx2
  have HB1 := hid hb1
  clear hb1
  go_wp2_with fail
  refine (all_any false ns HN.out hl sa sc fa F.length fc tn S w1 (IntsV.keep HS0.out (KeepS.below HB1.out))).mono ?_
  rintro e w2 ⟨xr, rfl, hxr, hb2⟩
  have hb2' := HB1.out.trans (hb2.mono HB1.out.size)
  clear bx0 bx1 bx2
  have hz2 := hb2'.size
  have hzb : w.heap.size < w2.heap.size := by omega
  have bx0 := HBX.out 0 (by omega) w2 (by rw [← hsz1]; exact hb2')
  have bx1 := HBX.out 1 (by omega) w2 (by rw [← hsz1]; exact hb2')
  have bx2 := HBX.out 2 (by omega) w2 (by rw [← hsz1]; exact hb2')
  simp only [List.getElem?_toArray, List.getElem?_cons_zero, List.getElem?_cons_succ] at bx0 bx1 bx2
  have HXR := hid (RowsV.mono (S' := (· < w2.heap.size)) hxr (fun b h _ => h))
  have HB2 := hid hb2'
  obtain ⟨ar, cr, rfl, hokr, hcapr, hmaxr⟩ := hxr.form
  clear hxr hb2 hb2'
  go_wp2_with fail
  refine (rowsF_any ns HN.out hl F HF.out (by omega) sa sc fa fc tn S T w2 (IntsV.keep HS0.out (KeepS.below HB2.out)) (RowsV.keep HF0.out (KeepS.below HB2.out))).mono ?_
  rintro e w3 ⟨xa, rfl, hxa, hb3⟩
  have hb3' := HB2.out.trans (hb3.mono HB2.out.size)
  clear bx0 bx1 bx2
  have hz3 := hb3'.size
  have hzb : w.heap.size < w3.heap.size := by omega
  have bx0 := HBX.out 0 (by omega) w3 (by rw [← hsz1]; exact hb3')
  have bx1 := HBX.out 1 (by omega) w3 (by rw [← hsz1]; exact hb3')
  have bx2 := HBX.out 2 (by omega) w3 (by rw [← hsz1]; exact hb3')
  simp only [List.getElem?_toArray, List.getElem?_cons_zero, List.getElem?_cons_succ] at bx0 bx1 bx2
  have HXR3 := hid (RowsV.keep HXR.out (KeepS.below hb3))
  have HXA := hid (RowsV.mono (S' := (· < w3.heap.size)) hxa (fun b h _ => h))
  have HB3 := hid hb3'
  have hz23 := hb3.size
  obtain ⟨aa, ca, rfl, hoka, hcapa, hmaxa⟩ := hxa.form
  clear hxa hb3 hb3' HXR
  go_wp2_with fail
  refine (asked_any ns HN.out hl F.length sa sc fa fc tn S w3 (IntsV.keep HS0.out (KeepS.below HB3.out))).mono ?_
  rintro e w4 ⟨xk, rfl, hxk, hb4⟩
  have hb4' := HB3.out.trans (hb4.mono HB3.out.size)
  clear bx0 bx1 bx2
  have hz4 := hb4.size
  have HXR4 := hid (RowsV.mono (S' := (· < w4.heap.size)) (RowsV.keep HXR3.out (KeepS.below hb4)) (fun b h _ => h))
  have HXA4 := hid (RowsV.mono (S' := (· < w4.heap.size)) (RowsV.keep HXA.out (KeepS.below hb4)) (fun b h _ => h))
  have HXK4 := hid (RowsV.mono (S' := (· < w4.heap.size)) hxk (fun b h _ => h))
  have HB4 := hid hb4'
  obtain ⟨ak, ck, rfl, hokk, hcapk, hmaxk⟩ := hxk.form
  clear hxk hb4 hb4' HXR3 HXA HVl
  have HBX4 : Hid (∀ q (h : q < 3) W', Below w4.heap.size w4 W' → W'.cell? ⟨w.heap.size, q, none⟩ = (#[.slice sa ns.length sc, .slice fa F.length fc, .int .i64 tn] : Array Value)[q]?) := hid (fun q h W' hW' => HBX.out q h W' (by rw [← hsz1]; exact HB4.out.trans (hW'.mono HB4.out.size)))
  clear HBX
  have hAl : ∀ r ∈ Cov.okRows ns F, r.length = ns.length := fun r hr => allP_len false ns r (List.mem_filter.1 hr).1
  have hKl : ∀ r ∈ Cov.asked ns tn, r.length = ns.length := fun r hr => allP_len true ns r (List.mem_filter.1 hr).1
  have hRl := allP_len false ns
  have hDef : Hid (Cov.coverRows ns F tn = Cov.greedy (Cov.okRows ns F) (Cov.openL ns F tn).length (Cov.openL ns F tn)) := hid rfl
  have HAl := hid hAl
  have HKl := hid hKl
  have HRl := hid hRl
  have hAsz : (Cov.okRows ns F).length ≤ 50000000 := Nat.le_trans (List.length_filter_le _ _) (Nat.le_trans (allP_size false ns HN.out) (Nat.le_trans (Nat.pow_le_pow_right (by omega) hl) (by decide)))
  have hKsz : (Cov.asked ns tn).length ≤ 50000000 := Nat.le_trans (List.length_filter_le _ _) (Nat.le_trans (allP_size true ns HN.out) (Nat.le_trans (Nat.pow_le_pow_right (by omega) hl) (by decide)))
  have HDO : Hid (Cov.openL ns F tn = (Cov.asked ns tn).filter fun c => Cov.inR (Cov.okRows ns F) c) := hid rfl
  have HDL : Hid (Cov.leftL ns F tn = (Cov.asked ns tn).filter fun c => !Cov.inR (Cov.okRows ns F) c) := hid rfl
  have HDW : Hid (Cov.whyL ns F = whyR (allP false ns) F) := hid (by funext c; exact (whyR_eq ns F c).symm)
  clear hAl hKl hRl
  generalize Cov.okRows ns F = A at *
  generalize Cov.asked ns tn = K at *
  generalize allP false ns = R at *
  have hB0 : w.heap.size < w4.heap.size := by omega
  go_wp2
  go_loopw [10, 11, 12, 13] (fun l y o i wr => ∃ k : Nat, k ≤ K.length ∧ i = .int .i64 k ∧ Trio w4.heap.size wr o l y ((K.take k).filter fun c => Cov.inR A c) ((K.take k).filter fun c => !Cov.inR A c) (((K.take k).filter fun c => !Cov.inR A c).map (whyR R F)) ∧ Below w4.heap.size w4 wr) (fun _ _ _ i _ => K.length - (intOf i).toNat)
  case atStart => exact ⟨0, by omega, rfl, by simpa using Trio.nil _ _, Below.refl _ _⟩
  case round =>
    obtain ⟨k, hk, rfl, htr, hb⟩ := hrel
    by_cases hlt : k < K.length
    · obtain ⟨ur, hcr, hbr, hrr⟩ := (RowsV.keep HXK4.out (KeepS.below hb)).at hlt
      obtain ⟨ae, ce, rfl, -, -, -⟩ := hrr.form
      have hbk4 : slb ak < w4.heap.size := by obtain ⟨_, _, h, _⟩ := HXK4.out.at hlt; exact h
      have hrl := HKl.out _ (List.getElem_mem hlt)
      have HT1 := hid (filter_take (fun c => Cov.inR A c) K k hlt)
      have HT2 := hid (filter_take (fun c => !Cov.inR A c) K k hlt)
      have hlen1 := filter_len (fun c => Cov.inR A c) K k
      have hlen2 := filter_len (fun c => !Cov.inR A c) K k
      have HIn := hid (in_any A K[k] (fun r hr => by rw [HAl.out r hr, hrl]) (.slice aa A.length ca) (.slice ae K[k].length ce) _ _ wr (RowsV.keep HXA4.out (KeepS.below hb)) hrr)
      have HHW := hid (fun W (hW : Below w4.heap.size w4 W) (hc : IntsV (· < w4.heap.size) W (.slice ae K[k].length ce) K[k]) => why_any ns.length R F K[k] HRl.out HF.out (by omega) hrl sa ns.length sc fa fc tn (.slice ar R.length cr) (.slice ae K[k].length ce) T (· < w4.heap.size) (· < w4.heap.size) W (RowsV.keep HF0.out (KeepS.below (HB4.out.trans (hW.mono HB4.out.size)))) (RowsV.keep HXR4.out (KeepS.below hW)) hc)
      clear hrl
      generalize K[k] = c at *
      have hk0 : (0 : Int) ≤ k := by omega
      have hk1 : (k : Int) < K.length := by omega
      have HHIn := hid (HIn.out)
      generalize hin : Cov.inR A c = bin at *
      generalize hO : ((K.take k).filter fun c => Cov.inR A c) = O at *
      generalize hL : ((K.take k).filter fun c => !Cov.inR A c) = L at *
      clear HIn hin hO hL
      go_wp2_with fail
      refine HHIn.out.mono ?_
      rintro e w5 ⟨rfl, nq, rfl⟩
      have hdr := below_drewN (Below.refl wr.heap.size wr) nq
      have hbd := below_drewN hb nq
      have htr5 := htr.below hdr
      have hrr5 := IntsV.keep hrr (KeepS.below hdr)
      have hzw : w4.heap.size ≤ wr.heap.size := hb.size
      clear HHIn hdr htr hrr
      cases bin with
      | true =>
        have HE1 : Hid (O ++ [c] = (K.take (k + 1)).filter fun c => Cov.inR A c) := hid (by rw [HT1.out]; rfl)
        have HE2 : Hid (L = (K.take (k + 1)).filter fun c => !Cov.inR A c) := hid (by rw [HT2.out]; simp)
        have hlo := htr5.ho.lt
        clear HT1 HT2
        go_wp2_with (at_builtin; go_must (refine wpList_appS1 rfl _ _ rfl Tryd.app63 rfl htr5.ho (fun b _ (h1 : b < w4.heap.size) h2 => by have := (hlo b h2).1; omega) rfl c hrr5 rfl (by omega) hzw ?_))
        intro v6 w6 hown6 ht6 hn6
        have htr6 := htr5.turn_o hown6 ht6 hn6
        have hb6 : Below w4.heap.size w4 w6 := hbd.trans (ht6.below hzw (fun b hb => (hlo b hb).1))
        rw [HE1.out, HE2.out] at htr6
        clear htr5 hown6 ht6 hn6 hrr5 hbd hlo HE1 HE2
        go_wp2
        go_roundw
        case rel => exact ⟨k + 1, by omega, by go_num, htr6, hb6⟩
        case measure => simp [intOf]; omega
      | false =>
        have HE1 : Hid (O = (K.take (k + 1)).filter fun c => Cov.inR A c) := hid (by rw [HT1.out]; simp)
        have HE2 : Hid (L ++ [c] = (K.take (k + 1)).filter fun c => !Cov.inR A c) := hid (by rw [HT2.out]; rfl)
        have hlo := htr5.hl.lt
        clear HT1 HT2
        go_wp2_with (at_builtin; go_must (refine wpList_appS1 rfl _ _ rfl Tryd.app63 rfl htr5.hl (fun b _ (h1 : b < w4.heap.size) h2 => by have := (hlo b h2).1; omega) rfl c hrr5 rfl (by omega) hzw ?_))
        intro v6 w6 hown6 ht6 hn6
        have htr6 := (htr5.swap.turn_o hown6 ht6 hn6).swap
        have hb6a := ht6.below hzw (fun b hb => (hlo b hb).1)
        have hb6 : Below w4.heap.size w4 w6 := hbd.trans hb6a
        have hrr6 := IntsV.keep hrr5 (KeepS.of_below hb6a (fun b h => h))
        have hcr6 : w6.cell? ⟨slb ak, slo ak + k, none⟩ = some (.slice ae c.length ce) := (hb6a.cell (p := ⟨slb ak, slo ak + k, none⟩) hbk4).trans hcr
        obtain ⟨al, cl, hv6, -⟩ := (htr6.hl.sl (S := AnyB) (fun _ _ => trivial) (fun _ _ _ => trivial)).form
        rw [List.length_append, List.length_singleton] at hv6
        subst hv6
        obtain ⟨ay, cy, hvy, -⟩ := (htr6.hy.sl (S := AnyB) (fun _ _ => trivial) (fun _ _ _ => trivial)).form
        rw [List.length_map] at hvy
        subst hvy
        have hz6 : w4.heap.size ≤ w6.heap.size := hb6.size
        have bx0 := fun W h => HBX4.out 0 (by omega) W h
        have bx1 := fun W h => HBX4.out 1 (by omega) W h
        have bx2 := fun W h => HBX4.out 2 (by omega) W h
        simp only [List.getElem?_toArray, List.getElem?_cons_zero, List.getElem?_cons_succ] at bx0 bx1 bx2
        have hyl : (L.map (whyR R F)).length + 1 ≤ 1000000000 := by rw [List.length_map]; omega
        have HTR := hid htr6
        have HHB := hid hb6
        have HRR := hid hrr6
        clear htr5 hown6 ht6 hn6 hrr5 hbd hlo htr6 hb6a hb6 hrr6
        have HC6 := hid hcr6
        have hHx := fun (x : Held (fun W' => Below w4.heap.size w6 W')) => x.2
        have hx0 : ∀ x : Held (fun W' => Below w4.heap.size w6 W'), x.1.cell? ⟨w.heap.size, 0, none⟩ = some (.slice sa ns.length sc) := fun x => bx0 x.1 (HHB.out.trans x.2)
        have hx1 : ∀ x : Held (fun W' => Below w4.heap.size w6 W'), x.1.cell? ⟨w.heap.size, 1, none⟩ = some (.slice fa F.length fc) := fun x => bx1 x.1 (HHB.out.trans x.2)
        have hx2 : ∀ x : Held (fun W' => Below w4.heap.size w6 W'), x.1.cell? ⟨w.heap.size, 2, none⟩ = some (.int .i64 tn) := fun x => bx2 x.1 (HHB.out.trans x.2)
        have hx3 : ∀ x : Held (fun W' => Below w4.heap.size w6 W'), x.1.cell? ⟨slb ak, slo ak + k, none⟩ = some (.slice ae c.length ce) := fun x => (x.2.cell (p := ⟨slb ak, slo ak + k, none⟩) hbk4).trans HC6.out
        clear hHx bx0 bx1 bx2 hcr
        go_wp2
        refine wp_region_held 10 [(true, 0), (true, 1), (true, 2), (true, 3), (true, 4), (true, 5), (true, 6), (false, 7), (false, 8), (false, 9)] (fun W' => Below w4.heap.size w6 W') (by kernel_rfl) (by kernel_rfl) (below_drewN (Below.refl _ _) 1) ?_
        intro hne
        refine wpSteps_pre 7 (by decide) ?_
        simp only [List.take_succ_cons, List.take_zero]
        repeat (go_big_quiet_step (fail))
        refine wpQuiet_nil ?_
        refine wpSteps_one rfl ?_
        clear hx0 hx1 hx2 hx3 hne hcr6
        go_wp2_with fail
        refine (HHW.out (w6.drewN 1) (below_drewN HHB.out 1) (IntsV.keep HRR.out (KeepS.below (below_drewN (Below.refl _ _) 1)))).mono ?_
        rintro e w7 ⟨x7, rfl, hx7, hb7⟩
        have hb67 : Below w6.heap.size w6 w7 := (below_drewN (Below.refl _ _) 1).trans hb7
        have htr7 := HTR.out.below hb67
        have hu7 : IntsV (fun b => b < w7.heap.size ∧ w4.heap.size ≤ b ∧ ¬ OB u12 b ∧ ¬ OB (.slice al (L.length + 1) cl) b ∧ ¬ OB (.slice ay L.length cy) b) w7 x7 (whyR R F c) := IntsV.mono hx7 (fun b h1 (h2 : w6.heap.size ≤ b) => ⟨h1, by omega, fun h => by have := (HTR.out.ho.lt b h).2; omega, fun h => by have := (HTR.out.hl.lt b h).2; omega, fun h => by have := (HTR.out.hy.lt b h).2; omega⟩)
        obtain ⟨a7, l7, c7, hx7f⟩ : ∃ a7 l7 c7, x7 = .slice a7 l7 c7 := by obtain ⟨a, b, h, -⟩ := hx7.form; exact ⟨_, _, _, h⟩
        subst hx7f
        have hz7 := hb67.size
        have hlt7 := htr7.hy.lt
        have HHB7 := hid (hb67.mono hz6)
        have HTR7 := hid htr7
        clear hx7 hb7 hb67 HTR
        go_wp2
        refine qn_mk ⟨InHeld.of HHB7.out, ?_⟩
        refine wpSteps_one rfl ?_
        have HHB8 := hid (HHB7.out.trans (((Below.refl _ _).alloc (Nat.le_refl _) (.cells #[.slice a7 l7 c7] 22)).mono (Nat.le_trans hz6 hz7)))
        go_wp2
        refine qn_mk ⟨InHeld.of HHB8.out, ?_⟩
        refine wpSteps_one rfl ?_
        go_wp2_with (at_builtin; go_must (refine wpList_appS1 rfl _ _ rfl Tryd.app63 rfl htr7.hy (fun b _ h1 h2 => h1.2.2.2.2 h2) rfl (whyR R F c) hu7 rfl hyl (Nat.le_trans hz6 hz7) ?_))
        intro v8 w8 hown8 ht8 hn8
        have htr8 := HTR7.out.turn_y hown8 ht8 hn8
        have hb8 : Below w4.heap.size w6 w8 := HHB7.out.trans (ht8.below (Nat.le_trans hz6 hz7) (fun b hb => (hlt7 b hb).1))
        have HHB9 := hid hb8
        have hb9 := HHB.out.trans hb8
        rw [HE1.out, HE2.out, ← List.map_singleton (f := whyR R F), ← List.map_append, HE2.out] at htr8
        clear hown8 ht8 hn8 hb8 htr7 hu7 hlt7 HTR7
        go_wp2
        refine qn_mk ⟨InHeld.of HHB9.out, ?_⟩
        refine wpSteps_done ?_
        go_wp2
        go_roundw
        case rel => exact ⟨k + 1, by omega, by go_num, htr8, hb9⟩
        case measure => simp [intOf]; omega
    · obtain rfl : k = K.length := by omega
      rw [List.take_length, ← HDO.out, ← HDL.out] at htr
      have hKin : ∀ c ∈ Cov.openL ns F tn, Cov.inR A c = true ∧ c.length = ns.length := fun c hc => by
        rw [HDO.out] at hc
        exact ⟨(List.mem_filter.1 hc).2, HKl.out c (List.mem_filter.1 hc).1⟩
      have hOsz : (Cov.openL ns F tn).length ≤ 50000000 := by rw [HDO.out]; exact Nat.le_trans (List.length_filter_le _ _) hKsz
      generalize Cov.openL ns F tn = O at *
      generalize hLL : Cov.leftL ns F tn = L at *
      generalize hCR : Cov.coverRows ns F tn = CR at *
      have HLL := hid hLL
      have HCR := hid hCR
      clear hLL hCR
      have hz5 := hb.size
      obtain ⟨w5, rfl⟩ : ∃ w5 : World, w5 = wr := ⟨_, rfl⟩
      have HO5 := hid (htr.ho.sl (S := (· < w5.heap.size)) (fun b h => (htr.ho.lt b h).2) (fun b h _ => h))
      have HL5 := hid (htr.hl.sl (S := (· < w5.heap.size)) (fun b h => (htr.hl.lt b h).2) (fun b h _ => h))
      have HY5 := hid (htr.hy.sl (S := (· < w5.heap.size)) (fun b h => (htr.hy.lt b h).2) (fun b h _ => h))
      have HXA5 := hid (RowsV.keep HXA4.out (KeepS.below hb))
      have HB5 := hid (HB4.out.trans (hb.mono HB4.out.size))
      clear htr hb
      go_wp2
      go_loopw [12, 14] (fun o r wr => ∃ (op rows : List (List Int)), RowsV (fun b => b < wr.heap.size ∧ ¬ OB r b) wr o op ∧ OwnS w5.heap.size (· < w5.heap.size) wr r rows ∧ Hid (rows ++ Cov.greedy A op.length op = CR) ∧ Hid (∀ c ∈ op, Cov.inR A c = true ∧ c.length = ns.length) ∧ rows.length + op.length ≤ 50000000 ∧ slen o = op.length ∧ Below w5.heap.size w5 wr) (fun o _ _ => slen o)
      case atStart => exact ⟨O, [], RowsV.mono HO5.out (fun b _ h => ⟨h, fun h2 => by simp [OB, Value.ownBlock] at h2⟩), OwnS.nil _ _ _, hid (by rw [hDef.out]; rfl), hid hKin, by simpa using hOsz, by obtain ⟨_, _, h, -⟩ := HO5.out.form; rw [h]; rfl, Below.refl _ _⟩
      case round =>
        obtain ⟨op, rows, hop, hrw, hgr, hin, hsz, hsl, hb⟩ := hrel
        obtain ⟨ao, co, rfl, hoko, hcapo, hmaxo⟩ := hop.form
        clear hsl
        obtain ⟨wo, rfl⟩ : ∃ wo : World, wo = wr := ⟨_, rfl⟩
        by_cases h0 : 0 < op.length
        · have hne : op ≠ [] := fun h => by rw [h] at h0; simp at h0
          have HOK := hid (Cov.best_ok hne (fun c hc => (hin.out c hc).1))
          have HLS := hid (Cov.best_less hne (fun c hc => (hin.out c hc).1))
          have HGC := hid (Cov.greedy_cons hne (fun c hc => (hin.out c hc).1))
          have HOP := hid hop
          have HRW := hid hrw
          have HBB := hid hb
          clear hne hop hrw hb
          go_wp2
          go_loopw [15, 16, 17] (fun b m i w2 => ∃ (k bi : Nat) (bm : Int), k ≤ A.length ∧ i = .int .i64 k ∧ b = .int .i64 bi ∧ m = .int .i64 bm ∧ (-1 ≤ bm ∧ bm ≤ 50000000) ∧ Hid (Cov.bestL op (A.drop k) k (bi, bm) = Cov.bestL op A 0 (0, -1)) ∧ ∃ n, w2 = wo.drewN n) (fun _ _ i _ => A.length - (intOf i).toNat)
          case atStart => exact ⟨0, 0, -1, by omega, rfl, rfl, rfl, by omega, hid rfl, 0, rfl⟩
          case round =>
            obtain ⟨k, bi, bm, hk, rfl, rfl, rfl, hbm, hbest, n, rfl⟩ := hrel
            by_cases hlt : k < A.length
            · obtain ⟨ur, hcr, hbr, hrr⟩ := (RowsV.keep HXA5.out (KeepS.below HBB.out)).at hlt
              obtain ⟨ae, ce, rfl, -, -, -⟩ := hrr.form
              have hrl := HAl.out _ (List.getElem_mem hlt)
              have HBS := hid (best_step op A k hlt (bi, bm))
              have HRR := hid hrr
              have HRL := hid hrl
              have HCA := hid hcr
              clear hrr hrl hcr
              generalize A[k] = r at *
              have hk0 : (0 : Int) ≤ k := by omega
              have hk1 : (k : Int) < A.length := by omega
              go_wp2
              go_loopw [18, 19] (fun c i w3 => ∃ j : Nat, j ≤ op.length ∧ i = .int .i64 j ∧ c = .int .i64 (((op.take j).filter fun x => Cov.has r x).length : Nat) ∧ ∃ n, w3 = wo.drewN n) (fun _ i _ => op.length - (intOf i).toNat)
              case atStart => exact ⟨0, by omega, rfl, rfl, n, rfl⟩
              case round =>
                obtain ⟨j, hj, rfl, rfl, n2, rfl⟩ := hrel
                by_cases hjo : j < op.length
                · obtain ⟨uo, hco, hbo, hoo⟩ := (RowsV.keep HOP.out (KeepS.below (below_drewN (Below.refl _ _) n2))).at hjo
                  obtain ⟨ax, cx, rfl, -, -, -⟩ := hoo.form
                  have hxl := (hin.out _ (List.getElem_mem hjo)).2
                  have HT := hid (filter_take (fun x => Cov.has r x) op j hjo)
                  have hcl := filter_len (fun x => Cov.has r x) op j
                  have HH := hid (fun nq => Calls.quiet_of (has_any r op[j] (by rw [HRL.out, hxl]) (.slice ae r.length ce) (.slice ax op[j].length cx) _ _ ((wo.drewN n2).drewN nq) (IntsV.keep HRR.out (KeepS.below (below_drewN (below_drewN (Below.refl _ _) _) _))) (IntsV.keep hoo (KeepS.below (below_drewN (Below.refl _ _) nq)))))
                  clear hxl hoo
                  generalize op[j] = x at *
                  have hcnt : ((op.take j).filter fun x => Cov.has r x).length ≤ 50000000 := by omega
                  have hj0 : (0 : Int) ≤ j := by omega
                  have hj1 : (j : Int) < op.length := by omega
                  generalize hLs : ((op.take j).filter fun x => Cov.has r x) = Ls at *
                  clear hLs hcl
                  have hcr : (wo.drewN n2).cell? ⟨slb aa, slo aa + k, none⟩ = some (.slice ae r.length ce) := HCA.out
                  have hbr : slb aa < (wo.drewN n2).heap.size := hbr
                  generalize hX : wo.drewN n2 = X at *
                  have HX := hid hX
                  clear hX
                  cases hh : Cov.has r x with
                  | true =>
                    rw [hh] at HH HT
                    have HT2 : Hid (Ls.length + 1 = ((op.take (j + 1)).filter fun x => Cov.has r x).length) := hid (by rw [HT.out]; simp)
                    clear HT hh
                    go_wp2
                    go_quiet ((exact (HH.out _)))
                    go_wp2
                    go_roundw
                    case rel => exact ⟨j + 1, by omega, by go_num, by rw [← HT2.out]; go_num, by rw [← HX.out]; simp only [World.drewN_drewN]; exact ⟨_, rfl⟩⟩
                    case measure => simp [intOf]; omega
                  | false =>
                    rw [hh] at HH HT
                    have HT2 : Hid (Ls.length = ((op.take (j + 1)).filter fun x => Cov.has r x).length) := hid (by rw [HT.out]; simp)
                    clear HT hh
                    go_wp2
                    go_quiet ((exact (HH.out _)))
                    go_wp2
                    go_roundw
                    case rel => exact ⟨j + 1, by omega, by go_num, by rw [← HT2.out], by rw [← HX.out]; simp only [World.drewN_drewN]; exact ⟨_, rfl⟩⟩
                    case measure => simp [intOf]; omega
                · obtain rfl : j = op.length := by omega
                  rw [List.take_length]
                  have hcnt : (op.filter fun x => Cov.has r x).length ≤ 50000000 := Nat.le_trans (List.length_filter_le _ _) (by omega)
                  have HBB2 := hid (hbest.out.symm.trans HBS.out)
                  generalize (op.filter fun x => Cov.has r x).length = cnt at *
                  clear HBS hbest
                  by_cases hlt2 : bm < (cnt : Int)
                  · have d2 : decide (bm < (cnt : Int)) = true := decide_eq_true hlt2
                    have HBN : Hid (Cov.bestL op (A.drop (k + 1)) (k + 1) (k, (cnt : Int)) = Cov.bestL op A 0 (0, -1)) := hid (by rw [HBB2.out, if_pos hlt2])
                    go_wp2
                    go_roundw
                    case rel => exact ⟨k + 1, k, cnt, by omega, by go_num, rfl, rfl, by omega, HBN, _, rfl⟩
                    case measure => simp [intOf]; omega
                  · have d2 : decide (bm < (cnt : Int)) = false := decide_eq_false hlt2
                    have HBN : Hid (Cov.bestL op (A.drop (k + 1)) (k + 1) (bi, bm) = Cov.bestL op A 0 (0, -1)) := hid (by rw [HBB2.out, if_neg hlt2])
                    go_wp2
                    go_roundw
                    case rel => exact ⟨k + 1, bi, bm, by omega, by go_num, rfl, rfl, by omega, HBN, _, rfl⟩
                    case measure => simp [intOf]; omega
            · obtain rfl : k = A.length := by omega
              have hbe : ((bi : Nat), bm) = Cov.bestL op A 0 (0, -1) := by have := hbest.out; simpa [Cov.bestL] using this
              have hbi : (Cov.bestL op A 0 (0, -1)).1 = bi := by rw [← hbe]
              have hok := HOK.out
              have hls := HLS.out
              have hgc := HGC.out
              rw [hbi] at hok hls hgc
              have hbl := hok.1
              have hgd : A.getD bi [] = A[bi] := by rw [List.getD_eq_getElem?_getD, List.getElem?_eq_getElem hbl]; rfl
              rw [hgd] at hls hgc
              obtain ⟨ur, hcr, hbr, hrr⟩ := (RowsV.keep HXA5.out (KeepS.below (below_drewN HBB.out n))).at hbl
              have hbr5 : slb aa < w5.heap.size := by obtain ⟨_, _, h, _⟩ := HXA5.out.at hbl; exact h
              obtain ⟨ae, ce, rfl, -, -, -⟩ := hrr.form
              have hrl := HAl.out _ (List.getElem_mem hbl)
              have HRL := hid hrl
              have hlsz : A[bi].length ≤ 8 := by omega
              clear hbe hbi hok hgd hbest hrl
              generalize A[bi] = r at *
              have HLS2 := hid hls
              have HGC2 := hid (hgr.out.symm.trans (by rw [hgc]))
              have HOP2 := hid (RowsV.keep HOP.out (KeepS.below (below_drewN (Below.refl _ _) n)))
              have HRW2 := hid (HRW.out.kept (w' := wo.drewN n) (fun _ _ _ => rfl))
              have HBB2 := hid (below_drewN HBB.out n)
              clear hls hgc HOK HLS HGC HOP HRW HBB hgr
              have hbi0 : (0 : Int) ≤ bi := by omega
              have hbi1 : (bi : Int) < A.length := by omega
              have hwlt := HRW2.out.lt
              have hzz := HBB2.out.size
              have hrws : rows.length + 1 ≤ 1000000000 := by omega
              have hw5o : w5.heap.size ≤ (wo.drewN n).heap.size := hzz
              have hz45 : w4.heap.size ≤ w5.heap.size := hz5
              have hrr5 := IntsV.mono (S' := (· < w5.heap.size)) hrr (fun b _ (h : b < w4.heap.size) => by show b < w5.heap.size; omega)
              go_wp2_with (at_builtin; go_must (refine wpList_appS1 rfl _ _ rfl Tryd.app63 rfl HRW2.out (fun b _ (h1 : b < w5.heap.size) h2 => by have := (hwlt b h2).1; omega) rfl r hrr5 rfl hrws hw5o ?_))
              intro v6 w6 hown6 ht6 hn6
              have hb6 : Below w5.heap.size (wo.drewN n) w6 := ht6.below hw5o (fun b hb => (hwlt b hb).1)
              have hoB : ∀ b, (b < (wo.drewN n).heap.size ∧ ¬ OB u14 b) → ¬ OB v6 b := fun b h1 h2 => by
                rcases hn6 b h2 with h3 | h3
                · exact h1.2 h3
                · exact absurd h1.1 (Nat.not_lt.2 h3)
              have hlt6 := hown6.lt
              have HOP6 := hid (RowsV.mono (S' := fun b => b < w6.heap.size ∧ ¬ OB v6 b) (RowsV.keep HOP2.out (ht6.keep (fun b hb => hb.2))) (fun b h1 h2 => ⟨h1, hoB b h2⟩))
              have HRW6 := hid hown6
              have hz66 : w5.heap.size ≤ w6.heap.size := Nat.le_trans hw5o hb6.size
              have hrr6 := hid (IntsV.keep hrr5 (KeepS.of_below hb6 (fun b h => h)))
              have HXA6 := hid (RowsV.keep HXA5.out (KeepS.below (HBB2.out.trans hb6)))
              have hcr6 : w6.cell? ⟨slb aa, slo aa + bi, none⟩ = some (.slice ae r.length ce) := (hb6.cell (p := ⟨slb aa, slo aa + bi, none⟩) hbr5).trans hcr
              clear HOP2 HRW2 hown6 ht6 hn6 hrr hrr5
              have hopl : op.length ≤ 50000000 := by omega
              go_wp2
              go_loopw [20, 21] (fun q i w3 => ∃ j : Nat, j ≤ op.length ∧ i = .int .i64 j ∧ OwnS w6.heap.size (fun b => b < w6.heap.size ∧ ¬ OB v6 b) w3 q ((op.take j).filter fun x => !Cov.has r x) ∧ Below w6.heap.size w6 w3) (fun _ i _ => op.length - (intOf i).toNat)
              case atStart => exact ⟨0, by omega, rfl, by simpa using OwnS.nil _ _ _, Below.refl _ _⟩
              case round =>
                obtain ⟨j, hj, rfl, hown, hb7⟩ := hrel
                by_cases hjo : j < op.length
                · obtain ⟨uo, hco, hbo, hoo⟩ := (RowsV.keep HOP6.out (KeepS.below hb7)).at hjo
                  obtain ⟨ax, cx, rfl, -, -, -⟩ := hoo.form
                  have hbo6 : slb ao < w6.heap.size := by obtain ⟨_, _, h, _⟩ := HOP6.out.at hjo; exact h
                  have hxl := (hin.out _ (List.getElem_mem hjo)).2
                  have HT := hid (filter_take (fun x => !Cov.has r x) op j hjo)
                  have hcl := filter_len (fun x => !Cov.has r x) op j
                  have HRR := hid (IntsV.keep hrr6.out (KeepS.below hb7))
                  have HH := hid (fun nq => Calls.quiet_of (has_any r op[j] (by rw [HRL.out, hxl]) (.slice ae r.length ce) (.slice ax op[j].length cx) _ _ (wr.drewN nq) (IntsV.keep HRR.out (KeepS.below (below_drewN (Below.refl _ _) nq))) (IntsV.keep hoo (KeepS.below (below_drewN (Below.refl _ _) nq)))))
                  have hcr7 := (hb7.cell (p := ⟨slb aa, slo aa + bi, none⟩) (by show slb aa < _; omega)).trans hcr6
                  clear hxl
                  generalize op[j] = x at *
                  have hj0 : (0 : Int) ≤ j := by omega
                  have hj1 : (j : Int) < op.length := by omega
                  generalize hLs : ((op.take j).filter fun x => !Cov.has r x) = Ls at *
                  have hsz7 := hb7.size
                  have hwlt7 := hown.lt
                  clear hLs
                  cases hh : Cov.has r x with
                  | true =>
                    rw [hh] at HH HT
                    have HT2 : Hid (Ls = ((op.take (j + 1)).filter fun x => !Cov.has r x)) := hid (by rw [HT.out]; simp)
                    clear HT hh
                    have HOWN := hid hown
                    clear hown
                    go_wp2
                    go_quiet ((exact (HH.out _)))
                    go_wp2
                    go_roundw
                    case rel => exact ⟨j + 1, by omega, by go_num, by rw [← HT2.out]; exact HOWN.out.kept (fun _ _ _ => rfl), below_drewN hb7 _⟩
                    case measure => simp [intOf]; omega
                  | false =>
                    rw [hh] at HH HT
                    have HT2 : Hid (Ls ++ [x] = ((op.take (j + 1)).filter fun x => !Cov.has r x)) := hid (by rw [HT.out]; simp)
                    clear HT hh
                    have HOWN := hid hown
                    have HOO := hid (IntsV.mono (S' := fun b => b < w6.heap.size ∧ ¬ OB v6 b) hoo (fun b _ h => h))
                    clear hown hoo
                    go_wp2
                    go_quiet ((exact (HH.out _)))
                    rename_i nq
                    have hownq := HOWN.out.kept (w' := wr.drewN nq) (fun _ _ _ => rfl)
                    have hooq := IntsV.keep HOO.out (KeepS.below (below_drewN (Below.refl wr.heap.size wr) nq))
                    have hb7q := below_drewN hb7 nq
                    have hcl2 : Ls.length + 1 ≤ 1000000000 := by omega
                    have hbox7 : (wr.drewN nq).cell? ⟨slb ao, slo ao + j, none⟩ = some (.slice ax x.length cx) := hco
                    clear hco
                    go_wp2_with (at_builtin; go_must (refine wpList_appS1 rfl _ _ rfl Tryd.app63 rfl hownq (fun b _ (h1 : b < w6.heap.size ∧ ¬ OB v6 b) h2 => by have := (hwlt7 b h2).1; omega) rfl x hooq rfl hcl2 hsz7 ?_))
                    intro v8 w8 hown8 ht8 hn8
                    have hb8 := hb7q.trans (ht8.below hsz7 (fun b hb => (hwlt7 b hb).1))
                    rw [HT2.out] at hown8
                    clear ht8 hn8 hownq hooq hb7q HOWN HOO
                    go_wp2
                    go_roundw
                    case rel => exact ⟨j + 1, by omega, by go_num, hown8, hb8⟩
                    case measure => simp [intOf]; omega
                · obtain rfl : j = op.length := by omega
                  rw [List.take_length] at hown
                  have hb57 : Below w5.heap.size w5 wr := HBB2.out.trans (hb6.trans (hb7.mono hz66))
                  have hS7 := RowsV.mono (hown.sl (S := fun b => b < wr.heap.size ∧ ¬ OB v6 b) (fun b h => ⟨(hown.lt b h).2, fun h2 => by have h3 := (hlt6 b h2).2; have h4 := (hown.lt b h).1; omega⟩) (fun b h1 h2 => ⟨h1, h2.2⟩)) (fun b _ h => h)
                  have hR7 := HRW6.out.kept (w' := wr) (fun b h1 h2 => hb7.block b h1)
                  have hin2 : Hid (∀ c ∈ op.filter (fun x => !Cov.has r x), Cov.inR A c = true ∧ c.length = ns.length) := hid (fun c hc => hin.out c (List.mem_filter.1 hc).1)
                  have hless := HLS2.out
                  have HS7 := hid hS7
                  obtain ⟨a7, c7, hf7, -⟩ := hS7.form
                  have hG7 := hid (HGC2.out.symm)
                  clear hown hS7 hin HGC2 HLS2
                  generalize op.filter (fun x => !Cov.has r x) = op2 at *
                  subst hf7
                  go_wp2
                  go_roundw
                  case rel => exact ⟨op2, rows ++ [r], HS7.out, hR7, hid (by rw [← hG7.out]; simp), hin2, by simp; omega, rfl, hb57⟩
                  case measure => simp [slen]; omega
        · obtain rfl : op = [] := List.eq_nil_of_length_eq_zero (by omega)
          have hR1 : rows = CR := by have := hgr.out; simpa [Cov.greedy] using this
          have HRW := hid (hrw.sl (S := AnyB) (fun _ _ => trivial) (fun _ _ _ => trivial))
          have HL6 := hid (RowsV.keep HL5.out (KeepS.of_below hb (fun b h => h)))
          have HY6 := hid (RowsV.keep HY5.out (KeepS.of_below hb (fun b h => h)))
          have HBW := hid (HA0.out.trans ((HB5.out.trans (hb.mono HB5.out.size)).mono (by rw [hsz1]; omega)))
          have HR1 := hid hR1
          clear hrw hb hop hgr hin hR1
          go_wp2
          try simp only [Exit.inBlock, Exit.then]
          refine bodyPost_ret (results_tmp4 rfl _ _ _) rfl ?_
          exact ⟨_, _, _, rfl, by rw [HCR.out, ← HR1.out]; exact HRW.out, by rw [HLL.out]; exact RowsV.mono HL6.out (fun _ _ _ => trivial), by rw [HLL.out, HDW.out]; exact RowsV.mono HY6.out (fun _ _ _ => trivial), HBW.out⟩

end Go.Proofs.YtjaejnacdanpkaaDoor
