/- Check of the program, on valid problems. -/
import Derived.Test.YtjaejnacdanpkaaDoorC45
import Derived.Test.YtjaejnacdanpkaaDoorC49
namespace Go.Proofs.YtjaejnacdanpkaaDoor
open Go.RowKit

attribute [local go_sem] Oper.semAt_some

theorem range125 : List.range 125 = [0,1,2,3,4,5,6,7,8,9,10,11,12,13,14,15,16,17,18,19,20,21,22,23,24,25,26,27,28,29,30,31,32,33,34,35,36,37,38,39,40,41,42,43,44,45,46,47,48,49,50,51,52,53,54,55,56,57,58,59,60,61,62,63,64,65,66,67,68,69,70,71,72,73,74,75,76,77,78,79,80,81,82,83,84,85,86,87,88,89,90,91,92,93,94,95,96,97,98,99,100,101,102,103,104,105,106,107,108,109,110,111,112,113,114,115,116,117,118,119,120,121,122,123,124] := by decide

theorem idx_inj : ∀ (n k s s' : Nat), s < 2 ^ n → s' < 2 ^ n → Cov.idx k n s = Cov.idx k n s' → s = s'
  | 0, _, s, s', h, h', _ => by simp at h h'; omega
  | n + 1, k, s, s', h, h', e => by
    rw [Nat.pow_succ] at h h'
    simp only [Cov.idx] at e
    have hd : ∀ u, (k : Int) ∉ Cov.idx (k + 1) n u := fun u hm => by have := Cov.idx_ge (k + 1) n u _ hm; omega
    have e1 : s % 2 = s' % 2 ∧ Cov.idx (k + 1) n (s / 2) = Cov.idx (k + 1) n (s' / 2) := by
      by_cases h1 : s % 2 = 1 <;> by_cases h2 : s' % 2 = 1
      · rw [if_pos h1, if_pos h2] at e
        exact ⟨by omega, by simpa using e⟩
      · rw [if_pos h1, if_neg h2] at e
        have h3 : (k : Int) ∈ [] ++ Cov.idx (k + 1) n (s' / 2) := by rw [← e]; simp
        exact absurd h3 (by simpa using hd (s' / 2))
      · rw [if_neg h1, if_pos h2] at e
        have h3 : (k : Int) ∈ [] ++ Cov.idx (k + 1) n (s / 2) := by rw [e]; simp
        exact absurd h3 (by simpa using hd (s / 2))
      · rw [if_neg h1, if_neg h2] at e
        exact ⟨by omega, by simpa using e⟩
    have := idx_inj n (k + 1) (s / 2) (s' / 2) (by omega) (by omega) e1.2
    omega
theorem idx_moreB : ∀ (m n k s : Nat), m ≤ n → s < 2 ^ m → Cov.idx k n s = Cov.idx k m s
  | 0, n, k, s, _, h => by
    obtain rfl : s = 0 := by simpa using h
    rw [Cov.idx_zero, Cov.idx_zero]
  | m + 1, 0, k, s, h, _ => absurd h (by omega)
  | m + 1, n + 1, k, s, h, hs => by
    rw [Nat.pow_succ] at hs
    simp only [Cov.idx]
    rw [idx_moreB m n (k + 1) (s / 2) (by omega) (by omega)]

/-- The set of increasing indices. -/
noncomputable def setN (m : Nat) (l : List Int) : Nat := @Classical.epsilon Nat ⟨0⟩ fun s => s < 2 ^ m ∧ Cov.idx 0 12 s = l
theorem setN_eq {m : Nat} (hm : m ≤ 12) {l : List Int} {s : Nat} (h : s < 2 ^ m ∧ Cov.idx 0 12 s = l) : setN m l = s := by
  have h2 : setN m l < 2 ^ m ∧ Cov.idx 0 12 (setN m l) = l := @Classical.epsilon_spec Nat (fun s => s < 2 ^ m ∧ Cov.idx 0 12 s = l) ⟨s, h⟩
  have hp : 2 ^ m ≤ 2 ^ 12 := Nat.pow_le_pow_right (by omega) hm
  exact idx_inj 12 0 _ _ (by omega) (by omega) (h2.2.trans h.2.symm)
theorem setN_ok {m : Nat} {l : List Int} (h : risF m (-1) l = true) (hm : m ≤ 12) : setN m l < 2 ^ m ∧ Cov.idx 0 12 (setN m l) = l := by
  rw [risF_eq] at h
  obtain ⟨s, h1, h2⟩ := Cov.mem_sets.1 (Cov.mem_sets_ris.2 h)
  refine @Classical.epsilon_spec Nat (fun s => s < 2 ^ m ∧ Cov.idx 0 12 s = l) ⟨s, h1, ?_⟩
  rw [← h2]
  exact idx_moreB m 12 0 s hm h1
theorem pset_val (m : Nat) (hm : m ≤ 12) (l : List Int) (sv tv lv : Value) (hsv : ∃ a n k, sv = .slice a n k) (htv : ∃ t, tv = .int .i64 t) (fa : Option Addr) (fc : Nat) (S : Nat → Prop) (w : World) (hl : IntsV S w lv l) :
    Calls Tryd.prog 45 #[.agg #[sv, .slice fa m fc, tv], lv] w fun e w' => e = .returned (.tuple #[.int .u64 ((if risF m (-1) l = true then setN m l else 0 : Nat) : Int), .bool (risF m (-1) l)]) ∧ Below w.heap.size w w' :=
  (pset_any m hm l sv tv lv hsv htv fa fc S w hl).mono fun e w' h => by
    obtain ⟨hb, ⟨h1, s, h2, h3, rfl⟩ | ⟨h1, rfl⟩⟩ := h
    · rw [if_pos h1, h1, setN_eq hm ⟨h2, h3⟩]; exact ⟨rfl, hb⟩
    · rw [if_neg (by rw [h1]; decide), h1]; exact ⟨rfl, hb⟩

/-- What stands between two rows that Check looks at. -/
structure MetI (ns : List Nat) (tn n0 bm : Nat) (V : World) (pre more : List (List Int)) (ds : List Deferred) (W : World) : Prop where
  turn : TurnT (fun b o => b = bm ∧ ¬ book o) n0 V W
  map : ∃ S, MapS ns.length W bm S ∧ (∀ c, c ∈ S ↔ (∃ r ∈ pre, c ∈ (Cov.masks ns.length tn).map (Cov.maskC r)) ∨ c ∈ more)
  marks : Marks n0 W.heap.size ds W

set_option maxRecDepth 100000 in
set_option maxHeartbeats 8000000 in
theorem pcheck_ok (ns : List Nat) (F : List (List Int)) (tn : Nat) (ho : OkP ns F tn) (hv : validE (szI ns) F tn = 0) (rows left why : List (List Int)) (vr vl vw : Value) (sa : Option Addr) (sc : Nat) (fa : Option Addr) (fc : Nat) (S T S3 S4 S5 : Nat → Prop) (w : World)
    (hsz : IntsV S w (.slice sa ns.length sc) (szI ns)) (hf : RowsV T w (.slice fa F.length fc) F) (hr : RowsV S3 w vr rows) (hlf : RowsV S4 w vl left) (hwy : RowsV S5 w vw why) (hT : TabD w) :
    Calls Tryd.prog 18 #[.slice sa ns.length sc, .slice fa F.length fc, .int .i64 tn, vr, vl, vw] w fun e w' => e = .returned (.int .i64 (chkE ns F tn rows left why)) ∧ Below w.heap.size w w' := by
  have hl := ho.len
  have hFl := ho.few
  have htn : tn ≤ 100 := by have := ho.t; omega
  have hr0 := RowsV.mono hr (S' := (· < w.heap.size)) (fun b h _ => h)
  have hl0 := RowsV.mono hlf (S' := (· < w.heap.size)) (fun b h _ => h)
  have hw0 := RowsV.mono hwy (S' := (· < w.heap.size)) (fun b h _ => h)
  have hsz0 : IntsV (· < w.heap.size) w (.slice sa ns.length sc) (szI ns) := IntsV.mono hsz (fun b h _ => h)
  have hf0 : RowsV (· < w.heap.size) w (.slice fa F.length fc) F := RowsV.mono hf (fun b h _ => h)
  obtain ⟨ra, rc, rfl, hokr, hcapr, hmaxr⟩ := hr.form
  obtain ⟨la, lc, rfl, hokl, hcapl, hmaxl⟩ := hlf.form
  obtain ⟨ya, yc, rfl, hoky, hcapy, hmaxy⟩ := hwy.form
  obtain ⟨sa', sc', es, hoks, hcaps, hmaxs⟩ := hsz.form
  rw [List.length_map] at es hoks hcaps
  cases es
  obtain ⟨fa', fc', ef, hokf, hcapf, hmaxf⟩ := hf.form
  cases ef
  obtain ⟨W1, hW1⟩ : ∃ W1, W1 = w.alloc (.cells #[.slice sa ns.length sc, .slice fa F.length fc, .int .i64 tn] 57) := ⟨_, rfl⟩
  have hb1 : Below w.heap.size w W1 := by rw [hW1]; exact (Below.refl _ _).alloc (Nat.le_refl _) _
  have hs1 : W1.heap.size = w.heap.size + 1 := by rw [hW1]; simp
  have p0 : W1.heap[w.heap.size]? = some (.cells #[.slice sa ns.length sc, .slice fa F.length fc, .int .i64 tn] 57 (0, 0)) := by rw [hW1]; exact heap_new _ _ rfl
  have HVal := hid (by have := pvalid_any (szI ns) (by simp; omega) F tn sa sc fa fc (· < w.heap.size) (· < w.heap.size) W1 (by simpa using hsz0.keep (KeepS.of_below hb1 (fun _ h => h))) (hf0.keep (KeepS.of_below hb1 (fun _ h => h))); rw [hv, List.length_map] at this; exact this)
  have HLeft := hid (fun X (hb : Below w.heap.size w X) SS bm hm => pleft_any ns ho.le ho.pos hl tn htn SS bm sa sc fa F.length fc (· < w.heap.size) X (hsz0.keep (KeepS.of_below hb (fun _ h => h))) hm)
  have H1 := hid (And.intro hb1 (And.intro hs1 p0))
  have HIn := hid (And.intro hsz0 (And.intro hf0 (And.intro hr0 (And.intro hl0 (And.intro hw0 hT)))))
  have HO := hid ho
  have HVV := hid hv
  have hpos := ho.pos
  have HRes : Hid (chkE ns F tn rows left why = if Cov.checkB ns F tn rows left why = true then 0 else 15) := hid rfl
  have HChk : Hid (Cov.checkB ns F tn rows left why = ((rows.all fun r => Cov.rowB ns r && Cov.allowed F r) && (decide (left.length = why.length) && (((List.range left.length).all fun i => Cov.oneOK ns F tn (Cov.prevOf left i) (left.getD i []) (why.getD i [])) && Cov.coveredB ns tn rows left)))) := hid rfl
  clear hsz hf hsz0 hf0 hT hb1 p0 hs1 hv ho hr hlf hwy hr0 hl0 hw0
  generalize chkE ns F tn rows left why = RES at *
  generalize Cov.checkB ns F tn rows left why = CHK at *
  rw [← callsIn_wide (n := 5)]
  refine callsIn_of_wp_marks Tryd.func18 rfl trivial ?_ rfl
  simp only [Tryd.ntmps18, List.size_toArray, List.length_cons, List.length_nil, Nat.reduceAdd, Nat.reduceSub, Array.replicate_succ, Array.replicate_zero, List.push_toArray, List.append_toArray, List.nil_append, List.cons_append]
  rw [wpIn_wide]
  go_wp2_with fail
  rw [← hW1]
  clear hW1
  refine HVal.out.mono ?_
  rintro e W2 ⟨rfl, hb2⟩
  obtain ⟨hb1, hs1, p0⟩ := H1.out
  have r0 := (hb2.block _ (by omega)).trans p0
  have hbw2 : Below w.heap.size w W2 := hb1.trans (hb2.mono (by omega))
  have hs2 := hb2.size
  have H2 := hid (And.intro hbw2 (And.intro hs2 (And.intro hs1 r0)))
  clear hb1 hs1 p0 r0 hbw2 hs2 hb2 HVal H1
  by_cases hlen : left.length = why.length
  · have dl : ((left.length : Int) != (why.length : Int)) = false := bneF (by omega)
    have HChk2 : Hid (RES = if ((rows.all fun r => Cov.rowB ns r && Cov.allowed F r) && (((List.range left.length).all fun i => Cov.oneOK ns F tn (Cov.prevOf left i) (left.getD i []) (why.getD i [])) && Cov.coveredB ns tn rows left)) = true then 0 else 15) := hid (by
      rw [HRes.out, HChk.out, decide_eq_true hlen, Bool.true_and])
    have HLen := hid hlen
    clear hlen HChk HRes
    have hmm := @run_makeMap Tryd.prog
    go_wp2
    clear hmm
    obtain ⟨V0, hV0⟩ : ∃ V0, V0 = (W2.alloc (.map #[] 0)).alloc (.cells #[.map (some W2.heap.size)] 59) := ⟨_, rfl⟩
    have vb : Below W2.heap.size W2 V0 := by rw [hV0]; exact ((Below.refl _ _).alloc (Nat.le_refl _) _).alloc (by simp) _
    have hzV : V0.heap.size = W2.heap.size + 2 := by rw [hV0]; simp
    have v1 : V0.heap[W2.heap.size + 1]? = some (.cells #[.map (some W2.heap.size)] 59 (0, 0)) := by rw [hV0]; exact heap_new _ _ (by simp)
    have v0 : MapS ns.length V0 W2.heap.size [] := by
      rw [hV0]
      refine (MapS.made ns.length W2).keep ?_
      rw [heap_step _ (heap_new W2 (.map #[] 0) rfl), heap_new W2 (.map #[] 0) rfl]
    have v2 : V0.heap[w.heap.size]? = _ := (vb.block _ (by have := H2.out; omega)).trans H2.out.2.2.2
    have hbwV : Below w.heap.size w V0 := H2.out.1.trans (vb.mono (by have := H2.out; omega))
    have HV0 := hid (And.intro v0 (And.intro v1 (And.intro v2 (And.intro hbwV hzV))))
    have HW2 := hid (show w.heap.size < W2.heap.size by have := H2.out; omega)
    rw [← hV0]
    clear hV0 vb hzV v1 v0 v2 hbwV H2
    refine wp_loop_ghost_k (fun k a W => a.tmps.size = 125 ∧ a.tmps.getD 0 undef = .slice sa ns.length sc ∧ a.tmps.getD 2 undef = .int .i64 tn ∧ a.tmps.getD 4 undef = .slice la left.length lc ∧ a.tmps.getD 5 undef = .slice ya why.length yc ∧ a.tmps.getD 13 undef = .pointer (some ⟨w.heap.size, 0, none⟩) ∧ a.tmps.getD 15 undef = .pointer (some ⟨W2.heap.size + 1, 0, none⟩) ∧ a.tmps.getD 38 undef = .slice ra rows.length rc ∧ a.tmps.getD 39 undef = .int .i64 rows.length ∧
      ∃ i : Nat, i ≤ rows.length ∧ k = rows.length - i ∧ a.tmps.getD 40 undef = .int .i64 i ∧ (rows.take i).all (fun r => Cov.rowB ns r && Cov.allowed F r) = true ∧ MetI ns tn w.heap.size W2.heap.size V0 (rows.take i) [] a.defers W) rows.length ?h0 ?round1
    case h0 =>
      refine ⟨rfl, rfl, rfl, rfl, rfl, rfl, rfl, rfl, rfl, 0, by omega, by omega, rfl, rfl, TurnT.refl _ _ _, ⟨[], HV0.out.1, fun c => by simp⟩, Marks.nil _ _ _⟩
    case round1 =>
      rintro k ⟨t, ds⟩ Z ⟨hts, h0, h2, h4, h5, h13, h15, h38, h39, i, hi, rfl, h40, hall, hM⟩ J K hJ hK
      obtain ⟨uu, rfl⟩ := frame_of 125 t hts
      simp only [range125, List.map_cons, List.map_nil] at h0 h2 h4 h5 h13 h15 h38 h39 h40 ⊢
      rw [show uu 0 = _ from h0, show uu 2 = _ from h2, show uu 4 = _ from h4, show uu 5 = _ from h5, show uu 13 = _ from h13, show uu 15 = _ from h15, show uu 38 = _ from h38, show uu 39 = _ from h39, show uu 40 = _ from h40]
      have hM' : MetI ns tn w.heap.size W2.heap.size V0 (rows.take i) [] ds Z := hM
      have hbZ : Below w.heap.size w Z := HV0.out.2.2.2.1.trans hM'.turn.1
      have z0 := hM'.turn.2 _ _ HV0.out.2.2.1 (by rintro ⟨h, -⟩; have := HW2.out; omega)
      have z1 := hM'.turn.2 _ _ HV0.out.2.1 (by rintro ⟨h, -⟩; omega)
      have hzz := hM'.turn.1.size
      rw [HV0.out.2.2.2.2] at hzz
      have HM := hid hM'
      have HAll := hid hall
      have HBZ := hid hbZ
      have HZ := hid (And.intro z0 (And.intro z1 hzz))
      clear h0 h2 h4 h5 h13 h15 h38 h39 h40 hts hall hM hM'
      by_cases hi2 : i < rows.length
      · have hi0 : (0 : Int) ≤ i := by omega
        have hi1 : (i : Int) < rows.length := by omega
        obtain ⟨hsz0, hf0, hr0, -, -, hT⟩ := HIn.out
        obtain ⟨ur, hcr, hbr, hrr⟩ := (RowsV.keep hr0 (KeepS.of_below hbZ (fun _ h => h))).at hi2
        obtain ⟨ae, ce, rfl, -, -, -⟩ := hrr.form
        have HT := hid (all_take (fun r => Cov.rowB ns r && Cov.allowed F r) rows i hi2)
        have HTk := hid (take_snoc hi2)
        have HBad : Hid ((Cov.rowB ns rows[i] && Cov.allowed F rows[i]) = false → RES = 15) := hid (fun h => by
          have : rows.all (fun r => Cov.rowB ns r && Cov.allowed F r) = false := List.all_eq_false.2 ⟨rows[i], List.getElem_mem hi2, by rw [h]; decide⟩
          rw [HChk2.out, this]
          rfl)
        have HCo := hid (fun X (hX : Below Z.heap.size Z X) => pcombo_any ns.length ns rows[i] (by omega) (fun n hn => by have := HO.out.le n hn; omega) sa sc (.slice fa F.length fc) (.int .i64 tn) (.slice ae rows[i].length ce) fa F.length fc tn rfl rfl (· < w.heap.size) (· < w.heap.size) X (hsz0.keep (KeepS.of_below (hbZ.trans (hX.mono hbZ.size)) (fun _ h => h))) (IntsV.keep hrr (KeepS.below hX)))
        have HAl := hid (fun (h : rows[i].length = ns.length) X (hX : Below Z.heap.size Z X) => pallowed_any F rows[i] (by rw [h]; exact HO.out.gaps) (.slice sa ns.length sc) (.int .i64 tn) (.slice ae rows[i].length ce) ⟨_, _, _, rfl⟩ ⟨_, rfl⟩ fa fc (· < w.heap.size) (· < w.heap.size) X (hf0.keep (KeepS.of_below (hbZ.trans (hX.mono hbZ.size)) (fun _ h => h))) (IntsV.keep hrr (KeepS.below hX)))
        have HRow := hid (Cov.rowB_eq' ns rows[i])
        have HLc := hid (Cov.comboB_len ns rows[i])
        have HRR := hid hrr
        clear hsz0 hf0 hr0 hT hrr hbZ
        generalize rows[i] = r at *
        obtain ⟨Z1, hZ1⟩ : ∃ Z1, Z1 = Z.alloc (.cells #[.slice ae r.length ce] 22) := ⟨_, rfl⟩
        have zb1 : Below Z.heap.size Z Z1 := by rw [hZ1]; exact (Below.refl _ _).alloc (Nat.le_refl _) _
        have zs1 : Z1.heap.size = Z.heap.size + 1 := by rw [hZ1]; simp
        have zr1 : Z1.heap[Z.heap.size]? = some (.cells #[.slice ae r.length ce] 22 (0, 0)) := by rw [hZ1]; exact heap_new _ _ rfl
        have zp1 : Z1.heap[w.heap.size]? = some (.cells #[.slice sa ns.length sc, .slice fa F.length fc, .int .i64 tn] 57 (0, 0)) := (zb1.block _ (by have := HW2.out; omega)).trans z0
        have HC1 := hid (HCo.out Z1 zb1)
        have HZ1 := hid (And.intro zb1 (And.intro zs1 (And.intro zr1 zp1)))
        rw [hZ1] at zp1
        have c0 := cell_of_row _ _ 0 _ _ (0, 0) zp1
        have c1 := cell_of_row _ _ 1 _ _ (0, 0) zp1
        have c2 := cell_of_row _ _ 2 _ _ (0, 0) zp1
        simp only [List.getElem?_toArray, List.getElem?_cons_zero, List.getElem?_cons_succ] at c0 c1 c2
        have HEZ := hid hZ1
        clear hZ1 zb1 zs1 zr1 zp1 z0 z1 hzz HCo
        go_wp2_with fail
        rw [← HEZ.out]
        clear c0 c1 c2
        refine HC1.out.mono ?_
        rintro e Z2 ⟨rfl, hb2⟩
        rw [← HRow.out]
        obtain ⟨zb1, zs1, zr1, zp1⟩ := HZ1.out
        have zb2 : Below Z.heap.size Z Z2 := zb1.trans (hb2.mono (by omega))
        have zs2 : Z.heap.size + 1 ≤ Z2.heap.size := by have := hb2.size; omega
        have zr2 := (hb2.block _ (by omega)).trans zr1
        have zp2 := (hb2.block _ (by have := HZ.out; have := HW2.out; omega)).trans zp1
        have HZ2 := hid (And.intro zb2 (And.intro zs2 (And.intro zr2 zp2)))
        have c0 := cell_of_row _ _ 0 _ _ (0, 0) zp2
        have c1 := cell_of_row _ _ 1 _ _ (0, 0) zp2
        have c2 := cell_of_row _ _ 2 _ _ (0, 0) zp2
        have c3 := (one_cell zr2).1
        simp only [List.getElem?_toArray, List.getElem?_cons_zero, List.getElem?_cons_succ] at c0 c1 c2
        clear zb1 zs1 zr1 zp1 zb2 zs2 zr2 zp2 hb2 HC1 HZ1 HEZ
        have HBk : Hid (∀ X, Below Z.heap.size Z X → ∀ w', TurnT (isBook w.heap.size) w.heap.size X w' → Below w.heap.size w w') := hid (fun X hX w' ht => HBZ.out.trans ((hX.mono HBZ.out.size).trans ht.1))
        have HMk : Hid (∀ X, Below Z.heap.size Z X → Marks w.heap.size X.heap.size ds X) := hid (fun X hX =>
          (Marks.turn (A := fun _ _ => False) (n1 := w.heap.size) HM.out.marks ⟨hX.mono HBZ.out.size, fun b' o hb _ => (hX.block b' (Array.getElem?_eq_some_iff.1 hb).1).trans hb⟩ (fun _ _ _ h => h.elim)).mono hX.size)
        cases hrb : Cov.rowB ns r with
        | false =>
          have HY := hid (HBad.out (by rw [hrb]; rfl))
          clear HBad HRow HT HLc hrb HAl
          go_wp2
          have HB2 := hid (HBk.out Z2 HZ2.out.1)
          refine leave_marksV (v := (.int .i64 15)) (HMk.out Z2 HZ2.out.1) (fun w' ht => ⟨?_, ret_int HY.out.symm, HB2.out w' ht⟩)
          simp [results, Tryd.results18, go_sem]
        | true =>
          have hrB := hrb
          rw [HRow.out, Bool.and_eq_true] at hrb
          have hrl := HLc.out hrb.1
          have HRB := hid (And.intro hrB hrl)
          have HA2 := hid (HAl.out hrl Z2 HZ2.out.1)
          rw [hrB, Bool.true_and] at HBad
          rw [hrB, Bool.true_and] at HT
          clear HRow HLc hrb hrB hrl HAl
          go_wp2_with fail
          refine HA2.out.mono ?_
          rintro e Z3 ⟨rfl, hb3⟩
          have zb3 : Below Z.heap.size Z Z3 := HZ2.out.1.trans (hb3.mono (by have := HZ2.out; omega))
          have zs3 : Z.heap.size + 1 ≤ Z3.heap.size := by have := hb3.size; have := HZ2.out; omega
          have zr3 := (hb3.block _ (by have := HZ2.out; omega)).trans HZ2.out.2.2.1
          have zp3 := (hb3.block _ (by have := HZ2.out; have := HZ.out; have := HW2.out; omega)).trans HZ2.out.2.2.2
          have HZ3 := hid (And.intro zb3 (And.intro zs3 (And.intro zr3 zp3)))
          clear c0 c1 c2 c3 hb3 HA2
          cases hal : Cov.allowed F r with
          | false =>
            have HY := hid (HBad.out hal)
            clear HBad HT hal zb3 zs3 zr3 zp3
            go_wp2
            have HB2 := hid (HBk.out Z3 HZ3.out.1)
            refine leave_marksV (v := (.int .i64 15)) (HMk.out Z3 HZ3.out.1) (fun w' ht => ⟨?_, ret_int HY.out.symm, HB2.out w' ht⟩)
            simp [results, Tryd.results18, go_sem]
          | true =>
            rw [hal, HAll.out] at HT
            have HAll2 : Hid ((rows.take (i + 1)).all (fun r => Cov.rowB ns r && Cov.allowed F r) = true) := hid HT.out
            have HRC : Hid (r ∈ Cov.rowsC ns) := hid ((Cov.mem_rowsC ns r).2 HRB.out.1)
            have HPre : Hid (∀ x ∈ rows.take i, x ∈ Cov.rowsC ns) := hid (fun x hx => (Cov.mem_rowsC ns x).2 (by
              have := List.all_eq_true.1 HAll.out x hx
              rw [Bool.and_eq_true] at this
              exact this.1))
            clear HBad HT HAll HBk HMk hal
            have HSets := hid (fun X => psets_any (.slice sa ns.length sc) (.slice fa F.length fc) (.int .i64 tn) ⟨_, _, _, rfl⟩ ⟨_, _, _, rfl⟩ ⟨_, rfl⟩ X)
            have c0 := cell_of_row _ _ 0 _ _ (0, 0) zp3
            have c1 := cell_of_row _ _ 1 _ _ (0, 0) zp3
            have c2 := cell_of_row _ _ 2 _ _ (0, 0) zp3
            simp only [List.getElem?_toArray, List.getElem?_cons_zero, List.getElem?_cons_succ] at c0 c1 c2
            clear zb3 zs3 zr3 zp3
            go_wp2_with fail
            refine (HSets.out _).mono ?_
            rintro e V ⟨rfl, hV⟩
            have hsV : V.heap.size = Z3.heap.size + 1 := by rw [hV]; simp
            have vb : Below Z3.heap.size Z3 V := by rw [hV]; exact (Below.refl _ _).alloc (Nat.le_refl _) _
            have v3 : V.heap[Z3.heap.size]? = some (.cells #[.slice sa ns.length sc, .slice fa F.length fc, .int .i64 tn] 57 (0, 0)) := by rw [hV]; exact heap_new _ _ rfl
            have hzz := HZ.out.2.2
            have hzs := HZ3.out.2.1
            have hbm := HW2.out
            have hzv : Below Z.heap.size Z V := HZ3.out.1.trans (vb.mono (by omega))
            have HSeq : Hid (IterS (α := Nat) Tryd.prog w.heap.size V.heap.size 66 #[.pointer (some ⟨Z3.heap.size, 0, none⟩)] (fun s => #[.int .u64 s]) (fun pre x _ => pre ++ [x] <+: Cov.masks ns.length tn) (fun b o => ¬ book o ∧ b = W2.heap.size) (fun _ _ => False) (fun xs _ => xs = Cov.masks ns.length tn) V) :=
              hid (sets_iter ns.length tn hl htn w.heap.size V.heap.size Z3.heap.size sa sc (.slice fa F.length fc) (fun b o => ¬ book o ∧ b = W2.heap.size) (fun o h => by have h1 := h.2; omega) V (by omega) v3)
            obtain ⟨S1, q1, q2⟩ := HM.out.map
            have v0 : MapS ns.length V W2.heap.size S1 := q1.keep (hzv.block _ (by omega))
            have v1 : V.heap[W2.heap.size + 1]? = _ := (hzv.block _ (by omega)).trans HZ.out.2.1
            have v2 : V.heap[Z.heap.size]? = _ := (vb.block _ (by omega)).trans HZ3.out.2.2.1
            have vR : IntsV (· < Z.heap.size) V (.slice ae r.length ce) r := IntsV.keep (IntsV.mono HRR.out (fun b h _ => h)) (KeepS.of_below hzv (fun _ h => h))
            have vT : TabD V := (HIn.out.2.2.2.2.2).below (HBZ.out.trans (hzv.mono (by omega))) (HIn.out.2.2.2.2.2).lt
            have HV := hid (And.intro v0 (And.intro v1 (And.intro v2 (And.intro vR (And.intro vT (And.intro hzv (And.intro vb hsV)))))))
            have hwV : w.heap.size ≤ V.heap.size := by omega
            have HS1 := hid q2
            clear hV vb v3 c0 c1 c2 HSets q1 q2 v0 v1 v2 vR vT hzv hsV hzz hzs hbm
            go_wp2
            rw [← wpIn_wide (n := 5)]
            refine wpIn_rangeS (α := Nat) (n0 := w.heap.size) (gf := 66) rfl (fn_enters Tryd.func66 (by kernel_rfl) rfl) (fun _ => rfl) HSeq.out hwV (fun _ _ h => h.elim) (fun _ _ h => h.1)
              (fun pre W => TurnT (fun b o => (¬ book o ∧ b = W2.heap.size) ∨ isBook V.heap.size b o) w.heap.size V W ∧ ∃ S', MapS ns.length W W2.heap.size S' ∧ ∀ c, c ∈ S' ↔ c ∈ S1 ∨ c ∈ pre.map (Cov.maskC r)) (fun _ _ => False)
              (fun pre A B h ht => ?hI4) (fun _ _ _ h _ => h) (fun _ _ _ h _ => h) ?h04 ?hround4 ?hdone4 ?hstop4
            case hI4 =>
              obtain ⟨ht0, S', hm, hS'⟩ := h
              obtain ⟨es, cl, ho⟩ := hm.obj
              exact ⟨ht0.trans (ht.mono (fun b o h => h.elim False.elim .inr)), S', hm.keep ((ht.2 _ _ ho (by
                rintro (h | h)
                · exact h
                · simp [isBook, book] at h)).trans ho.symm), hS'⟩
            case h04 => exact ⟨TurnT.refl _ _ _, S1, HV.out.1, fun c => by simp⟩
            case hround4 =>
              rintro l pre s W hlr ⟨ht, S', hm, hS'⟩ hGp
              simp only [List.zip_toArray, List.zip_cons_cons, List.zip_nil_left]
              gi_wp2
              refine ⟨TurnT.refl _ _ _, fun U2 ht2 hs2 hl2 => ?_⟩
              have htx := ht.trans (ht2.mono (A' := fun b o => (¬ book o ∧ b = W2.heap.size) ∨ isBook V.heap.size b o) (fun b o h => .inr h))
              obtain ⟨v0, v1, v2, vR, vT, hzv, vb, hsV⟩ := HV.out
              have hzz := HZ.out.2.2
              have hzs := HZ3.out.2.1
              have hbm := HW2.out
              have q5 := htx.1.size
              have kU : ∀ {b c t}, V.heap[b]? = some (.cells c t (0, 0)) → b ≠ W2.heap.size → U2.heap[b]? = some (.cells c t (0, 0)) := fun h h1 => htx.2 _ _ h (by
                rintro (h | h)
                · exact h1 h.2
                · simp [isBook, book] at h)
              have u1 := kU v1 (by omega)
              have u2 := kU v2 (by omega)
              have hm2 : MapS ns.length U2 W2.heap.size S' := by
                obtain ⟨es, cl, ho⟩ := hm.obj
                exact hm.keep ((ht2.2 _ _ ho (by simp [isBook, book])).trans ho.symm)
              have uR : IntsV (fun b => b < Z.heap.size ∧ b ≠ W2.heap.size) U2 (.slice ae r.length ce) r := IntsV.turn (IntsV.shuns vR v0.nocells) htx (fun b c t fr hb _ h => by
                rcases h with h | h
                · exact hb.2 h.2
                · simp [isBook, book] at h)
              have hbU : Below w.heap.size w U2 := HBZ.out.trans ((hzv.mono (by omega)).trans htx.1)
              have c1 : ∀ Y : Held (fun W => Below U2.heap.size U2 W), Y.1.cell? ⟨W2.heap.size + 1, 0, none⟩ = some (.map (some W2.heap.size)) := fun Y => by rw [Y.2.cell (p := ⟨W2.heap.size + 1, 0, none⟩) (by show W2.heap.size + 1 < _; omega), (one_cell u1).1]
              have c2 : ∀ Y : Held (fun W => Below U2.heap.size U2 W), Y.1.cell? ⟨Z.heap.size, 0, none⟩ = some (.slice ae r.length ce) := fun Y => by rw [Y.2.cell (p := ⟨Z.heap.size, 0, none⟩) (by show Z.heap.size < _; omega), (one_cell u2).1]
              have hs2l : s < 2 ^ r.length := by rw [HRB.out.2]; exact List.mem_range.1 (List.mem_filter.1 (hGp.subset (by simp) : s ∈ Cov.masks ns.length tn)).1
              have HPart := hid (part_any r (by rw [HRB.out.2]; exact hl) s hs2l (.slice ae r.length ce) _ (U2.drewN 1) (IntsV.keep uR (KeepS.below (below_drewN (Below.refl _ _) _))) ((HIn.out.2.2.2.2.2.below hbU HIn.out.2.2.2.2.2.lt).keep rfl))
              have HKey := hid (mask_keyC HO.out.le HRC.out s)
              have hwU : w.heap.size ≤ U2.heap.size := hbU.size
              have hsmall : S'.length ≤ 1000000000 := by
                have := set_small HO.out.le hl hm.nodup (fun c hc => by
                  rcases (hS' c).1 hc with h | h
                  · rcases (HS1.out c).1 h with ⟨x, hx, h⟩ | h
                    · exact mask_combo (HPre.out x hx) tn h
                    · simp at h
                  · refine mask_combo HRC.out tn ?_
                    obtain ⟨s', hs', e⟩ := List.mem_map.1 h
                    exact List.mem_map.2 ⟨s', hGp.subset (List.mem_append_left _ hs'), e⟩)
                omega
              have HU := hid (And.intro htx (And.intro hm2 hS'))
              clear v0 v1 v2 vR vT hzv vb hsV hzz hzs q5 kU u1 u2 hm2 uR hbU hs2l hGp hm hS' ht ht2 hs2 hl2 hlr htx
              gi_wp2
              refine wpIn_region_heldT (r := some l) 4 [(true, 0), (true, 1), (true, 2), (false, 3)] (fun W => Below U2.heap.size U2 W) (by kernel_rfl) (by kernel_rfl) (by kernel_rfl) (below_drewN (Below.refl _ _) 1) ?_
              intro hne
              refine wpSteps_pre 3 (by decide) ?_
              simp only [List.take_succ_cons, List.take_zero]
              repeat (go_big_quiet_step (fail))
              refine wpQuiet_nil ?_
              refine wpSteps_one rfl ?_
              clear c1 c2 hne
              go_wp2_with fail
              refine HPart.out.mono ?_
              rintro e U3 ⟨rfl, hb3⟩
              have hb3' : Below U2.heap.size U2 U3 := (below_drewN (Below.refl _ _) 1).trans hb3
              obtain ⟨htx, hm2, hS'⟩ := HU.out
              obtain ⟨U4, hrun, hm4, ht4⟩ := (hm2.keep (hb3'.block _ hm2.lt)).store hl hsmall HKey.out
              have HQ : Hid (QS (fun b o => ¬ book o ∧ b = W2.heap.size) w.heap.size (fun pre W => TurnT (fun b o => (¬ book o ∧ b = W2.heap.size) ∨ isBook V.heap.size b o) w.heap.size V W ∧ ∃ S', MapS ns.length W W2.heap.size S' ∧ ∀ c, c ∈ S' ↔ c ∈ S1 ∨ c ∈ pre.map (Cov.maskC r)) (fun (_ : List Nat) (_ : World) => False) (pre ++ [s]) U2 .normal { tmps := #[], defers := [] } U4) := by
                have t1 : TurnT (fun b o => ¬ book o ∧ b = W2.heap.size) w.heap.size U2 U4 := (TurnT.of_below hb3' hwU).trans ((TurnT.refl _ _ U3).grown (by have := hb3'.size; omega) ht4 (fun b hb => by
                  subst hb
                  refine ⟨by have := HW2.out; omega, fun o ho => ⟨?_, rfl⟩⟩
                  obtain ⟨es, cl, ho'⟩ := (hm2.keep (hb3'.block _ hm2.lt)).obj
                  rw [ho'] at ho
                  cases ho
                  simp [book]))
                refine hid ⟨t1, htx.trans (t1.mono (fun b o h => .inl h)), _, hm4, fun c => ?_⟩
                rw [mem_addS, hS' c]
                simp only [List.map_append, List.map_cons, List.map_nil, List.mem_append, List.mem_singleton, or_assoc]
              clear hb3 htx hm2 hS' hm4 ht4
              generalize keyV (Cov.maskC r s) = kv at *
              go_wp2
              refine qn_mk ⟨InHeld.of hb3', ?_⟩
              refine wpSteps_done ?_
              simp only [List.drop_succ_cons, List.drop_zero]
              clear hb3'
              gi_wp2
              exact HQ.out
            case hdone4 =>
              rintro D xs W hD rfl ⟨ht, S', hm, hS'⟩ hk
              obtain ⟨v0, v1, v2, vR, vT, hzv, vb, hsV⟩ := HV.out
              have hzz := HZ.out.2.2
              have hzs := HZ3.out.2.1
              have hbm := HW2.out
              have hmm := HM.out
              have HFin : Hid ((rows.take (i + 1)).all (fun r => Cov.rowB ns r && Cov.allowed F r) = true ∧ MetI ns tn w.heap.size W2.heap.size V0 (rows.take (i + 1)) [] ({ target := .collected D, args := #[] } :: ds) W) := by
                refine hid ⟨HAll2.out, ⟨hmm.turn.1.trans ((hzv.mono (by omega)).trans ht.1), fun b' o hb ha => ?_⟩, ⟨S', hm, fun c => ?_⟩, ?_⟩
                · have h1 := hmm.turn.2 b' o hb ha
                  refine ht.2 b' o ((hzv.block b' (Array.getElem?_eq_some_iff.1 h1).1).trans h1) ?_
                  rintro (h | h)
                  · exact ha ⟨h.2, h.1⟩
                  · have := (Array.getElem?_eq_some_iff.1 h1).1
                    have := h.1
                    have := hzv.size
                    omega
                · rw [hS' c, HS1.out c, ← HTk.out]
                  constructor
                  · rintro ((⟨x, hx, h⟩ | h) | h)
                    · exact .inl ⟨x, List.mem_append_left _ hx, h⟩
                    · simp at h
                    · exact .inl ⟨r, by simp, h⟩
                  · rintro (⟨x, hx, h⟩ | h)
                    · rcases List.mem_append.1 hx with hx | hx
                      · exact .inl (.inl ⟨x, hx, h⟩)
                      · rw [List.mem_singleton.1 hx] at h
                        exact .inr h
                    · simp at h
                · exact ((Marks.turn (A := fun _ _ => False) (n1 := w.heap.size) hmm.marks ⟨hzv.mono (by omega), fun b' o hb _ => (hzv.block b' (Array.getElem?_eq_some_iff.1 hb).1).trans hb⟩ (fun _ _ _ h => h.elim)).turn ht (fun b' o hb h => by
                    rcases h with h | h
                    · exact h.1
                    · have := h.1; omega)).push (by omega) (by omega) hk
              clear v0 v1 v2 vR vT hzv vb hsV hzz hzs hmm hm hS' ht hk
              go_wp2
              obtain ⟨n1, n2⟩ := HFin.out
              exact Handed.intro (rows.length - (i + 1)) (by omega) (hJ _ _ _ ⟨rfl, rfl, rfl, rfl, rfl, rfl, rfl, rfl, rfl, i + 1, by omega, rfl, by go_num, n1, n2⟩)
            case hstop4 => rintro D xs W hD h hk; exact h.elim
      · obtain rfl : i = rows.length := by omega
        have HRws : Hid (∀ r ∈ rows, Cov.rowB ns r = true) := hid (fun r hr => by
          have h := HAll.out
          rw [List.take_length] at h
          have := List.all_eq_true.1 h r hr
          rw [Bool.and_eq_true] at this
          exact this.1)
        have HChk3 : Hid (RES = if (((List.range left.length).all fun i => Cov.oneOK ns F tn (Cov.prevOf left i) (left.getD i []) (why.getD i [])) && Cov.coveredB ns tn rows left) = true then 0 else 15) := hid (by
          have h := HAll.out
          rw [List.take_length] at h
          rw [HChk2.out, h, Bool.true_and])
        have HM0 : Hid (MetI ns tn w.heap.size W2.heap.size V0 rows (left.take 0) ds Z) := hid (by have h := HM.out; rw [List.take_length] at h; exact h)
        clear HAll HChk2 HM HZ HBZ hi2 hi hJ hK
        generalize hWb : Z = Wb at *
        clear hWb
        go_wp2
        go_loopw [66] (fun i W => ∃ k : Nat, k ≤ left.length ∧ i = .int .i64 k ∧ Hid (((List.range k).all fun i => Cov.oneOK ns F tn (Cov.prevOf left i) (left.getD i []) (why.getD i [])) = true) ∧ Hid (MetI ns tn w.heap.size W2.heap.size V0 rows (left.take k) ds W)) (fun i _ => left.length - (intOf i).toNat)
        case atStart => exact ⟨0, by omega, rfl, hid rfl, HM0⟩
        case round =>
          obtain ⟨k, hk, rfl, HPre, HMk⟩ := hrel
          have hbZ : Below w.heap.size w wr := HV0.out.2.2.2.1.trans HMk.out.turn.1
          have z0 := HMk.out.turn.2 _ _ HV0.out.2.2.1 (by rintro ⟨h, -⟩; have := HW2.out; omega)
          have z1 := HMk.out.turn.2 _ _ HV0.out.2.1 (by rintro ⟨h, -⟩; omega)
          have hzz := HMk.out.turn.1.size
          rw [HV0.out.2.2.2.2] at hzz
          have hbm := HW2.out
          have HZ := hid (And.intro z0 (And.intro z1 hzz))
          have HBZ := hid hbZ
          by_cases hlt : k < left.length
          · have hk0 : (0 : Int) ≤ k := by omega
            have hk1 : (k : Int) < left.length := by omega
            have hlt2 : k < why.length := by rw [← HLen.out]; exact hlt
            have hk2 : (k : Int) < why.length := by omega
            obtain ⟨hs, hf, hr0, hl0, hw0, hT⟩ := HIn.out
            obtain ⟨ur, hcr, hbr, hrr⟩ := (RowsV.keep hl0 (KeepS.of_below hbZ (fun _ h => h))).at hlt
            obtain ⟨uy, hcy, hby, hyy⟩ := (RowsV.keep hw0 (KeepS.of_below hbZ (fun _ h => h))).at hlt2
            have hby2 : slb ya < wr.heap.size := by have := hbZ.size; omega
            have hzr : w.heap.size < wr.heap.size := by omega
            obtain ⟨ae, ce, rfl, hokc, hcapc, hmaxc⟩ := hrr.form
            obtain ⟨be, de, rfl, hoky2, hcapy2, hmaxy2⟩ := hyy.form
            have HT : Hid (((List.range (k + 1)).all fun i => Cov.oneOK ns F tn (Cov.prevOf left i) (left.getD i []) (why.getD i [])) = Cov.oneOK ns F tn (Cov.prevOf left k) left[k] why[k]) := hid (by
              rw [List.range_succ, List.all_append, HPre.out]
              simp only [List.all_cons, List.all_nil, Bool.and_true, Bool.true_and]
              rw [getD_at hlt, getD_at hlt2])
            have HBad : Hid (Cov.oneOK ns F tn (Cov.prevOf left k) left[k] why[k] = false → RES = 15) := hid (fun h => by
              have : ((List.range left.length).all fun i => Cov.oneOK ns F tn (Cov.prevOf left i) (left.getD i []) (why.getD i [])) = false := List.all_eq_false.2 ⟨k, List.mem_range.2 hlt, by rw [getD_at hlt, getD_at hlt2, h]; decide⟩
              rw [HChk3.out, this]
              rfl)
            have HOne : Hid (Cov.oneOK ns F tn (Cov.prevOf left k) left[k] why[k] = (Cov.comboB ns left[k] && (decide (Cov.vals left[k] = tn) && (risF F.length (-1) why[k] && (Cov.ltO (Cov.prevOf left k) left[k] && Cov.showsB ns F left[k] why[k]))))) := hid (by rw [risF_eq]; rfl)
            have HSt := hid (fun (x : Grew wr) => Calls.grew_of (x := x) (pset_val F.length HO.out.few why[k] (.slice sa ns.length sc) (.int .i64 tn) (.slice be why[k].length de) ⟨_, _, _, rfl⟩ ⟨_, rfl⟩ fa fc (· < w.heap.size) x.1 (IntsV.keep hyy (KeepS.below x.2))))
            have HC := hid (fun X (hX : Below wr.heap.size wr X) => pcombo_any tn ns left[k] (by omega) (fun n hn => by have := HO.out.le n hn; omega) sa sc (.slice fa F.length fc) (.int .i64 tn) (.slice ae left[k].length ce) fa F.length fc tn rfl rfl (· < w.heap.size) (· < w.heap.size) X
                (hs.keep (KeepS.of_below (hbZ.trans (hX.mono hbZ.size)) (fun _ h => h))) (IntsV.keep hrr (KeepS.below hX)))
            have HVl := hid (fun (h : Cov.comboB ns left[k] = true) X (hX : Below wr.heap.size wr X) => pvalues_any left[k] (by rw [Cov.comboB_len ns left[k] h]; omega) (comboB_gaps ns left[k] h) (.slice ae left[k].length ce) (· < w.heap.size) X (IntsV.keep hrr (KeepS.below hX)))
            have HSh := hid (fun (h : Cov.comboB ns left[k] = true) (h2 : risF F.length (-1) why[k] = true) X (hX : Below wr.heap.size wr X) => by
              have hs2 := setN_ok h2 HO.out.few
              have := pshows_any ns HO.out.le HO.out.pos hl F HO.out.gaps HO.out.few left[k] h (setN F.length why[k]) hs2.1 tn sa sc fa fc (.slice ae left[k].length ce) (· < w.heap.size) (· < w.heap.size) (· < w.heap.size) X
                (hs.keep (KeepS.of_below (hbZ.trans (hX.mono hbZ.size)) (fun _ h => h))) (hf.keep (KeepS.of_below (hbZ.trans (hX.mono hbZ.size)) (fun _ h => h))) (IntsV.keep hrr (KeepS.below hX)) (hT.below (hbZ.trans (hX.mono hbZ.size)) hT.lt)
              rw [hs2.2] at this
              exact this)
            have HKy := hid (fun (h : Cov.comboB ns left[k] = true) X (hX : Below wr.heap.size wr X) => keyOf_any left[k] (by rw [Cov.comboB_len ns left[k] h]; exact hl) (.slice ae left[k].length ce) (· < w.heap.size) X (IntsV.keep hrr (KeepS.below hX)))
            have HKC : Hid (Cov.comboB ns left[k] = true → KeyC ns.length left[k]) := hid (fun h => ⟨Cov.comboB_len ns left[k] h, combo_keyC ns HO.out.le left[k] h⟩)
            have HPv : Hid (k = 0 → Cov.ltO (Cov.prevOf left k) left[k] = true) := hid (fun h => by unfold Cov.prevOf; rw [if_pos h]; rfl)
            have HPv2 : Hid (∀ (h0 : 0 < k), Cov.ltO (Cov.prevOf left k) left[k] = Cov.ltL (left[k - 1]'(by omega)) left[k]) := hid (fun h0 => by unfold Cov.prevOf; rw [if_neg (by omega), List.getElem?_eq_getElem (by omega)]; rfl)
            have HBe : Hid (∀ (h0 : 0 < k), ∃ (pa : Option Addr) (pc : Nat), (∀ X, Below wr.heap.size wr X → X.cell? ⟨slb la, slo la + (k - 1), none⟩ = some (.slice pa (left[k - 1]'(by omega)).length pc)) ∧ ∀ X, Below wr.heap.size wr X → Calls Tryd.prog 47 #[.slice pa (left[k - 1]'(by omega)).length pc, .slice ae left[k].length ce] X fun e w'' => e = .returned (.int .i64 (cmpL (left[k - 1]'(by omega)) left[k])) ∧ X = w'') := hid (fun h0 => by
              obtain ⟨up, hcp, hbp, hpp⟩ := (RowsV.keep hl0 (KeepS.of_below hbZ (fun _ h => h))).at (show k - 1 < left.length by omega)
              obtain ⟨pa, pc, rfl, -, -, -⟩ := hpp.form
              exact ⟨pa, pc, fun X hX => (hX.cell (p := ⟨slb la, slo la + (k - 1), none⟩) (by show slb la < _; have := hbZ.size; omega)).trans hcp, fun X hX => cmpCombo_any _ _ _ _ (· < w.heap.size) (· < w.heap.size) X (IntsV.keep hpp (KeepS.below hX)) (IntsV.keep hrr (KeepS.below hX))⟩)
            have HTk := hid (take_snoc hlt)
            have HBk : Hid (∀ X, Below wr.heap.size wr X → ∀ w', TurnT (isBook w.heap.size) w.heap.size X w' → Below w.heap.size w w') := hid (fun X hX w' ht => HBZ.out.trans ((hX.mono HBZ.out.size).trans ht.1))
            have HMr : Hid (∀ X, Below wr.heap.size wr X → Marks w.heap.size X.heap.size ds X) := hid (fun X hX =>
              (Marks.turn (A := fun _ _ => False) (n1 := w.heap.size) HMk.out.marks ⟨hX.mono HBZ.out.size, fun b' o hb _ => (hX.block b' (Array.getElem?_eq_some_iff.1 hb).1).trans hb⟩ (fun _ _ _ h => h.elim)).mono hX.size)
            have HCmb : Hid (∀ c ∈ left.take k, Cov.comboB ns c = true) := hid (fun c hc => by
              obtain ⟨j, hj, rfl⟩ := List.mem_iff_getElem.1 hc
              rw [List.length_take] at hj
              have := List.all_eq_true.1 HPre.out j (List.mem_range.2 (by omega))
              rw [getD_at (show j < left.length by omega)] at this
              unfold Cov.oneOK at this
              rw [Bool.and_eq_true] at this
              rw [List.getElem_take]
              exact this.1)
            have c0 := cell_of_row _ _ 0 _ _ (0, 0) z0
            have c1 := cell_of_row _ _ 1 _ _ (0, 0) z0
            have c2 := cell_of_row _ _ 2 _ _ (0, 0) z0
            simp only [List.getElem?_toArray, List.getElem?_cons_zero, List.getElem?_cons_succ] at c0 c1 c2
            clear hrr hyy hs hf hr0 hl0 hw0 hT hbZ z0 z1
            generalize left[k] = c at *
            generalize why[k] = y at *
            have hg := Grew.cell (w := wr)
            generalize hone : Cov.oneOK ns F tn (Cov.prevOf left k) c y = one at *
            clear hone
            go_wp2
            refine wp_region_quietG (by kernel_rfl) (by kernel_rfl) ?_
            repeat (go_big_quiet_step (first | exact HSt.out _))
            refine wpQuiet_nil ?_
            intro w5 hx
            have hb5 : Below wr.heap.size wr w5 := grew_below hx
            have d0 := (hb5.block _ hzr).trans HZ.out.1
            have c0 := cell_of_row _ _ 0 _ _ (0, 0) d0
            have c1 := cell_of_row _ _ 1 _ _ (0, 0) d0
            have c2 := cell_of_row _ _ 2 _ _ (0, 0) d0
            simp only [List.getElem?_toArray, List.getElem?_cons_zero, List.getElem?_cons_succ] at c0 c1 c2
            have HB5 := hid hb5
            clear hx hg hb5 d0 HSt
            generalize hri : risF F.length (-1) y = ri at *
            clear hri
            cases ri with
            | false =>
              have HY := hid (HBad.out (by rw [HOne.out, Bool.false_and, Bool.and_false, Bool.and_false]))
              clear HBad HOne HT HKy HC HVl HSh
              go_wp2
              have HB2 := hid (HBk.out w5 HB5.out)
              refine leave_marksV (v := (.int .i64 15)) (HMr.out w5 HB5.out) (fun w' ht => ⟨?_, ret_int HY.out.symm, HB2.out w' ht⟩)
              simp [results, Tryd.results18, go_sem]
            | true =>
              have HC5 := hid (HC.out w5 HB5.out)
              go_wp2_with fail
              refine HC5.out.mono ?_
              rintro e w6 ⟨rfl, hb6⟩
              have hb6' : Below wr.heap.size wr w6 := HB5.out.trans (hb6.mono HB5.out.size)
              have d0 := (hb6'.block _ hzr).trans HZ.out.1
              clear c0 c1 c2
              have c0 := cell_of_row _ _ 0 _ _ (0, 0) d0
              have c1 := cell_of_row _ _ 1 _ _ (0, 0) d0
              have c2 := cell_of_row _ _ 2 _ _ (0, 0) d0
              simp only [List.getElem?_toArray, List.getElem?_cons_zero, List.getElem?_cons_succ] at c0 c1 c2
              have HB6 := hid hb6'
              clear hb6 hb6' d0 HC5
              generalize hcb : (Cov.comboB ns c && decide ((tn : Int) ≤ (Cov.vals c : Int))) = cb at *
              cases cb with
              | false =>
                have HY := hid (HBad.out (by
                  have : (Cov.comboB ns c && decide (Cov.vals c = tn)) = false := by
                    cases h : Cov.comboB ns c with
                    | false => rfl
                    | true =>
                      rw [h, Bool.true_and, decide_eq_false_iff_not] at hcb
                      exact decide_eq_false (by omega)
                  rw [HOne.out, ← Bool.and_assoc, this, Bool.false_and]))
                clear HBad HOne HT HKy HC HVl HSh hcb
                go_wp2
                have HB2 := hid (HBk.out w6 HB6.out)
                refine leave_marksV (v := (.int .i64 15)) (HMr.out w6 HB6.out) (fun w' ht => ⟨?_, ret_int HY.out.symm, HB2.out w' ht⟩)
                simp [results, Tryd.results18, go_sem]
              | true =>
                rw [Bool.and_eq_true] at hcb
                have hcb1 := hcb.1
                clear hcb
                have HV6 := hid (HVl.out hcb1 w6 HB6.out)
                go_wp2_with fail
                refine HV6.out.mono ?_
                rintro e w6' ⟨rfl, rfl⟩
                by_cases hvr : Cov.vals c = tn
                · have hd : (((Cov.vals c : Nat) : Int) != (tn : Int)) = false := bneF (by omega)
                  have HCB := hid (And.intro hcb1 hvr)
                  clear hcb1 hvr HV6
                  by_cases h3 : 0 < k
                  · have hk3 : (0 : Int) < k := by omega
                    obtain ⟨pa, pc, hcp, hcmp⟩ := HBe.out h3
                    have HLt := hid (HPv2.out h3)
                    have hcp6 := hcp w6 HB6.out
                    have HCm := hid (hcmp w6 HB6.out)
                    have htn2 : ((k : Int) - 1).toNat = k - 1 := by omega
                    have hix : ∀ X, (Instr.indexAt 29 (.slice la left.length lc) (.int .i64 ((k : Int) - 1))).run Tryd.prog X = .ok (.pointer (some ⟨slb la, slo la + (k - 1), none⟩)) X := fun X => by
                      have h := run_indexAt_var (P := Tryd.prog) X 29 la left.length lc .i64 ((k : Int) - 1) (by kernel_rfl) hokl (by omega) (by omega)
                      have hs1 : (sizeOf (Tryd.prog.elem 29)).run Tryd.prog X = .ok 1 X := rfl
                      rw [h, hs1, htn2]
                      simp [Result.andThen]
                    clear HPv HPv2 HBe hcp hcmp htn2
                    generalize left[k - 1] = pv at *
                    have HCg := hid (cmpL_ge pv c)
                    generalize Cov.ltO (Cov.prevOf left k) c = lto at *
                    obtain rfl := HLt.out
                    clear HLt
                    go_wp2_with fail
                    refine HCm.out.mono ?_
                    rintro e w6' ⟨rfl, rfl⟩
                    clear hix hcp6 HCm
                    generalize cmpL pv c = cm at *
                    generalize Cov.ltL pv c = lto at *
                    cases lto with
                    | false =>
                      have hcm : (0 : Int) ≤ cm := of_decide_eq_true HCg.out
                      have HY := hid (HBad.out (by rw [HOne.out, Bool.false_and, Bool.and_false, Bool.and_false, Bool.and_false]))
                      clear HBad HOne HT HKy HC HVl HSh HCg
                      go_wp2
                      have HB2 := hid (HBk.out w6 HB6.out)
                      refine leave_marksV (v := (.int .i64 15)) (HMr.out w6 HB6.out) (fun w' ht => ⟨?_, ret_int HY.out.symm, HB2.out w' ht⟩)
                      simp [results, Tryd.results18, go_sem]
                    | true =>
                      have hcm : ¬ (0 : Int) ≤ cm := of_decide_eq_false HCg.out
                      clear HCg
                      have HS6 := hid (HSh.out HCB.out.1 trivial w6 HB6.out)
                      go_wp2_with fail
                      refine HS6.out.mono ?_
                      rintro e w7 ⟨rfl, hb7⟩
                      have hb7' : Below wr.heap.size wr w7 := HB6.out.trans (hb7.mono HB6.out.size)
                      have HB7 := hid hb7'
                      clear c0 c1 c2 hb7 hb7' HS6
                      generalize hsb : Cov.showsB ns F c y = sb at *
                      clear hsb
                      cases sb with
                      | false =>
                        have HY := hid (HBad.out (by rw [HOne.out, Bool.and_false, Bool.and_false, Bool.and_false, Bool.and_false]))
                        clear HBad HOne HT HKy HC HVl HSh
                        go_wp2
                        have HB2 := hid (HBk.out w7 HB7.out)
                        refine leave_marksV (v := (.int .i64 15)) (HMr.out w7 HB7.out) (fun w' ht => ⟨?_, ret_int HY.out.symm, HB2.out w' ht⟩)
                        simp [results, Tryd.results18, go_sem]
                      | true =>
                        have HN : Hid (((List.range (k + 1)).all fun i => Cov.oneOK ns F tn (Cov.prevOf left i) (left.getD i []) (why.getD i [])) = true) := hid (by rw [HT.out, HOne.out, HCB.out.1, decide_eq_true HCB.out.2]; rfl)
                        have HKy7 := hid (HKy.out HCB.out.1 (w7.drewN 1) (below_drewN HB7.out 1))
                        have z7 := (HB7.out.block _ (by have := HZ.out; omega)).trans HZ.out.2.1
                        have hz7 := HB7.out.size
                        have c1 : ∀ Y : Held (fun W => Below w7.heap.size w7 W), Y.1.cell? ⟨W2.heap.size + 1, 0, none⟩ = some (.map (some W2.heap.size)) := fun Y => by rw [Y.2.cell (p := ⟨W2.heap.size + 1, 0, none⟩) (by show W2.heap.size + 1 < _; omega), (one_cell z7).1]
                        clear HBad HOne HT HC HVl HSh HKy z7 hz7
                        go_wp2
                        refine wp_region_held 3 [(true, 0), (true, 1), (false, 2)] (fun W => Below w7.heap.size w7 W) (by kernel_rfl) (by kernel_rfl) (below_drewN (Below.refl _ _) 1) ?_
                        intro hne
                        refine wpSteps_pre 2 (by decide) ?_
                        simp only [List.take_succ_cons, List.take_zero]
                        repeat (go_big_quiet_step (fail))
                        refine wpQuiet_nil ?_
                        refine wpSteps_one rfl ?_
                        clear c1 hne
                        go_wp2_with fail
                        refine HKy7.out.mono ?_
                        rintro e w8 ⟨rfl, hb8⟩
                        have hb8' : Below w7.heap.size w7 w8 := (below_drewN (Below.refl _ _) 1).trans hb8
                        have hb8w : Below wr.heap.size wr w8 := HB7.out.trans (hb8'.mono HB7.out.size)
                        obtain ⟨S1, q1, q2⟩ := HMk.out.map
                        have hsmall : S1.length ≤ 1000000000 := by
                          have := set_small HO.out.le hl q1.nodup (fun c' hc' => by
                            rcases (q2 c').1 hc' with ⟨x, hx, h⟩ | h
                            · exact mask_combo ((Cov.mem_rowsC ns x).2 (HRws.out x hx)) tn h
                            · exact HCmb.out c' h)
                          omega
                        have q8 : MapS ns.length w8 W2.heap.size S1 := q1.keep (hb8w.block _ q1.lt)
                        obtain ⟨w9, hrun, hm9, ht9⟩ := q8.store hl hsmall (HKC.out HCB.out.1)
                        have hww : w.heap.size ≤ wr.heap.size := HBZ.out.size
                        have HR : Hid (MetI ns tn w.heap.size W2.heap.size V0 rows (left.take (k + 1)) ds w9) := by
                          have t1 : TurnT (fun b o => b = W2.heap.size ∧ ¬ book o) w.heap.size wr w9 := (TurnT.of_below hb8w hww).trans ((TurnT.refl _ _ w8).grown (by have := hb8w.size; omega) ht9 (fun b hb => by
                            subst hb
                            refine ⟨by have := HW2.out; omega, fun o ho => ⟨rfl, ?_⟩⟩
                            obtain ⟨es, cl, ho'⟩ := q8.obj
                            rw [ho'] at ho
                            cases ho
                            simp [book]))
                          refine hid ⟨HMk.out.turn.trans t1, ⟨_, hm9, fun c' => ?_⟩, (HMk.out.marks.turn t1 (fun b o _ h => h.2)).mono t1.1.size⟩
                          rw [mem_addS, q2 c', ← HTk.out]
                          simp only [List.mem_append, List.mem_singleton, or_assoc]
                        clear hb8 hb8w q1 q2 q8 hm9 ht9 hww
                        generalize keyV c = kv at *
                        go_wp2
                        refine qn_mk ⟨InHeld.of hb8', ?_⟩
                        refine wpSteps_done ?_
                        simp only [List.drop_succ_cons, List.drop_zero]
                        clear hb8'
                        go_wp2
                        go_roundw
                        case rel => exact ⟨k + 1, by omega, by go_num, HN, HR⟩
                        case measure => simp [intOf]; omega
                  · have hk3 : ¬ (0 : Int) < k := by omega
                    have HLt := hid (HPv.out (by omega))
                    clear HPv HPv2 HBe
                    generalize Cov.ltO (Cov.prevOf left k) c = lto at *
                    obtain rfl := HLt.out
                    clear HLt h3
                    have HS6 := hid (HSh.out HCB.out.1 trivial w6 HB6.out)
                    go_wp2_with fail
                    refine HS6.out.mono ?_
                    rintro e w7 ⟨rfl, hb7⟩
                    have hb7' : Below wr.heap.size wr w7 := HB6.out.trans (hb7.mono HB6.out.size)
                    have HB7 := hid hb7'
                    clear c0 c1 c2 hb7 hb7' HS6
                    generalize hsb : Cov.showsB ns F c y = sb at *
                    clear hsb
                    cases sb with
                    | false =>
                      have HY := hid (HBad.out (by rw [HOne.out, Bool.and_false, Bool.and_false, Bool.and_false, Bool.and_false]))
                      clear HBad HOne HT HKy HC HVl HSh
                      go_wp2
                      have HB2 := hid (HBk.out w7 HB7.out)
                      refine leave_marksV (v := (.int .i64 15)) (HMr.out w7 HB7.out) (fun w' ht => ⟨?_, ret_int HY.out.symm, HB2.out w' ht⟩)
                      simp [results, Tryd.results18, go_sem]
                    | true =>
                      have HN : Hid (((List.range (k + 1)).all fun i => Cov.oneOK ns F tn (Cov.prevOf left i) (left.getD i []) (why.getD i [])) = true) := hid (by rw [HT.out, HOne.out, HCB.out.1, decide_eq_true HCB.out.2]; rfl)
                      have HKy7 := hid (HKy.out HCB.out.1 (w7.drewN 1) (below_drewN HB7.out 1))
                      have z7 := (HB7.out.block _ (by have := HZ.out; omega)).trans HZ.out.2.1
                      have hz7 := HB7.out.size
                      have c1 : ∀ Y : Held (fun W => Below w7.heap.size w7 W), Y.1.cell? ⟨W2.heap.size + 1, 0, none⟩ = some (.map (some W2.heap.size)) := fun Y => by rw [Y.2.cell (p := ⟨W2.heap.size + 1, 0, none⟩) (by show W2.heap.size + 1 < _; omega), (one_cell z7).1]
                      clear HBad HOne HT HC HVl HSh HKy z7 hz7
                      go_wp2
                      refine wp_region_held 3 [(true, 0), (true, 1), (false, 2)] (fun W => Below w7.heap.size w7 W) (by kernel_rfl) (by kernel_rfl) (below_drewN (Below.refl _ _) 1) ?_
                      intro hne
                      refine wpSteps_pre 2 (by decide) ?_
                      simp only [List.take_succ_cons, List.take_zero]
                      repeat (go_big_quiet_step (fail))
                      refine wpQuiet_nil ?_
                      refine wpSteps_one rfl ?_
                      clear c1 hne
                      go_wp2_with fail
                      refine HKy7.out.mono ?_
                      rintro e w8 ⟨rfl, hb8⟩
                      have hb8' : Below w7.heap.size w7 w8 := (below_drewN (Below.refl _ _) 1).trans hb8
                      have hb8w : Below wr.heap.size wr w8 := HB7.out.trans (hb8'.mono HB7.out.size)
                      obtain ⟨S1, q1, q2⟩ := HMk.out.map
                      have hsmall : S1.length ≤ 1000000000 := by
                        have := set_small HO.out.le hl q1.nodup (fun c' hc' => by
                          rcases (q2 c').1 hc' with ⟨x, hx, h⟩ | h
                          · exact mask_combo ((Cov.mem_rowsC ns x).2 (HRws.out x hx)) tn h
                          · exact HCmb.out c' h)
                        omega
                      have q8 : MapS ns.length w8 W2.heap.size S1 := q1.keep (hb8w.block _ q1.lt)
                      obtain ⟨w9, hrun, hm9, ht9⟩ := q8.store hl hsmall (HKC.out HCB.out.1)
                      have hww : w.heap.size ≤ wr.heap.size := HBZ.out.size
                      have HR : Hid (MetI ns tn w.heap.size W2.heap.size V0 rows (left.take (k + 1)) ds w9) := by
                        have t1 : TurnT (fun b o => b = W2.heap.size ∧ ¬ book o) w.heap.size wr w9 := (TurnT.of_below hb8w hww).trans ((TurnT.refl _ _ w8).grown (by have := hb8w.size; omega) ht9 (fun b hb => by
                          subst hb
                          refine ⟨by have := HW2.out; omega, fun o ho => ⟨rfl, ?_⟩⟩
                          obtain ⟨es, cl, ho'⟩ := q8.obj
                          rw [ho'] at ho
                          cases ho
                          simp [book]))
                        refine hid ⟨HMk.out.turn.trans t1, ⟨_, hm9, fun c' => ?_⟩, (HMk.out.marks.turn t1 (fun b o _ h => h.2)).mono t1.1.size⟩
                        rw [mem_addS, q2 c', ← HTk.out]
                        simp only [List.mem_append, List.mem_singleton, or_assoc]
                      clear hb8 hb8w q1 q2 q8 hm9 ht9 hww
                      generalize keyV c = kv at *
                      go_wp2
                      refine qn_mk ⟨InHeld.of hb8', ?_⟩
                      refine wpSteps_done ?_
                      simp only [List.drop_succ_cons, List.drop_zero]
                      clear hb8'
                      go_wp2
                      go_roundw
                      case rel => exact ⟨k + 1, by omega, by go_num, HN, HR⟩
                      case measure => simp [intOf]; omega
                · have hd : (((Cov.vals c : Nat) : Int) != (tn : Int)) = true := bneT (by omega)
                  have HY := hid (HBad.out (by rw [HOne.out, decide_eq_false hvr, Bool.false_and, Bool.and_false]))
                  clear HBad HOne HT HKy HC HVl HSh hcb1 hvr HV6
                  go_wp2
                  have HB2 := hid (HBk.out w6 HB6.out)
                  refine leave_marksV (v := (.int .i64 15)) (HMr.out w6 HB6.out) (fun w' ht => ⟨?_, ret_int HY.out.symm, HB2.out w' ht⟩)
                  simp [results, Tryd.results18, go_sem]
          · obtain rfl : k = left.length := by omega
            obtain ⟨S1, m1, m2⟩ := HMk.out.map
            rw [List.take_length] at m2
            have HLf := hid (HLeft.out wr hbZ S1 W2.heap.size m1)
            have HIff := hid (Cov.covered_iff ns tn rows left S1 HRws.out m2)
            have c0 := cell_of_row _ _ 0 _ _ (0, 0) z0
            have c1 := cell_of_row _ _ 1 _ _ (0, 0) z0
            have c2 := cell_of_row _ _ 2 _ _ (0, 0) z0
            have c3 := (one_cell z1).1
            simp only [List.getElem?_toArray, List.getElem?_cons_zero, List.getElem?_cons_succ] at c0 c1 c2
            clear m1 m2 z0 z1 hbZ
            go_wp2_with fail
            refine HLf.out.mono ?_
            rintro e w5 ⟨x, rfl, hx, hb5⟩
            clear c0 c1 c2 c3
            generalize ((Cov.asked ns tn).filter fun c => !decide (c ∈ S1)) = LL at *
            obtain ⟨xa, xc, rfl, -, -, hmx⟩ := hx.form
            have HB5 := hid hb5
            have HMr : Hid (Marks w.heap.size w5.heap.size ds w5) := hid
              ((Marks.turn (A := fun _ _ => False) (n1 := w.heap.size) HMk.out.marks ⟨hb5.mono HBZ.out.size, fun b' o hb _ => (hb5.block b' (Array.getElem?_eq_some_iff.1 hb).1).trans hb⟩ (fun _ _ _ h => h.elim)).mono hb5.size)
            have HBk : Hid (∀ w', TurnT (isBook w.heap.size) w.heap.size w5 w' → Below w.heap.size w w') := hid (fun w' ht => HBZ.out.trans ((HB5.out.mono HBZ.out.size).trans ht.1))
            clear hx hb5
            by_cases hz : LL.length = 0
            · have HY : Hid (RES = 0) := hid (by rw [HChk3.out, HPre.out, HIff.out.1 hz]; rfl)
              have hz1 : ¬ (0 : Int) < (LL.length : Int) := by omega
              clear HIff hz
              go_wp2
              refine leave_marksV (v := (.int .i64 0)) HMr.out (fun w' ht => ⟨?_, ret_int HY.out.symm, HBk.out w' ht⟩)
              simp [results, Tryd.results18, go_sem]
            · have HY : Hid (RES = 15) := hid (by
                have : Cov.coveredB ns tn rows left = false := by
                  cases h : Cov.coveredB ns tn rows left with
                  | false => rfl
                  | true => exact absurd (HIff.out.2 h) hz
                rw [HChk3.out, this, Bool.and_false]; rfl)
              have hz1 : (0 : Int) < (LL.length : Int) := by omega
              clear HIff hz
              go_wp2
              refine leave_marksV (v := (.int .i64 15)) HMr.out (fun w' ht => ⟨?_, ret_int HY.out.symm, HBk.out w' ht⟩)
              simp [results, Tryd.results18, go_sem]
  · have dl : ((left.length : Int) != (why.length : Int)) = true := bneT (by omega)
    have HY : Hid (RES = 15) := hid (by
      rw [HRes.out, HChk.out, decide_eq_false hlen, Bool.false_and, Bool.and_false]; rfl)
    have HB2 := hid H2.out.1
    clear HRes HChk hlen
    go_wp2
    refine leave_marksV (v := (.int .i64 15)) (Marks.nil w.heap.size w.heap.size _) (fun w' ht => ⟨?_, ret_int HY.out.symm, HB2.out.trans ht.1⟩)
    simp [results, Tryd.results18, go_sem]

end Go.Proofs.YtjaejnacdanpkaaDoor
