/- Cover of the program. -/
import Derived.Test.YtjaejnacdanpkaaDoorC44
import Derived.Test.YtjaejnacdanpkaaDoorB34
import Derived.Test.YtjaejnacdanpkaaDoorB25
import Derived.Deep.LoopGhost
namespace Go.Proofs.YtjaejnacdanpkaaDoor
open Go.RowKit

attribute [local go_sem] Oper.semAt_some

/-- A frame, slot by slot. -/
theorem frame_of (N : Nat) (t : Array Value) (h : t.size = N) : ∃ u : Nat → Value, t = ((List.range N).map u).toArray := by
  refine ⟨fun i => t.getD i undef, ?_⟩
  apply Array.ext
  · simp [h]
  · intro i h1 h2
    simp at h2
    simp [Array.getD, h1]
theorem range117 : List.range 117 = [0,1,2,3,4,5,6,7,8,9,10,11,12,13,14,15,16,17,18,19,20,21,22,23,24,25,26,27,28,29,30,31,32,33,34,35,36,37,38,39,40,41,42,43,44,45,46,47,48,49,50,51,52,53,54,55,56,57,58,59,60,61,62,63,64,65,66,67,68,69,70,71,72,73,74,75,76,77,78,79,80,81,82,83,84,85,86,87,88,89,90,91,92,93,94,95,96,97,98,99,100,101,102,103,104,105,106,107,108,109,110,111,112,113,114,115,116] := by decide

/-- A block that holds no cells is none of a reading's blocks. -/
theorem IntsV.shuns {S : Nat → Prop} {W : World} {v : Value} {xs : List Int} {bm : Nat} (h : IntsV S W v xs) (hm : ∀ c t fr, W.heap[bm]? ≠ some (.cells c t fr)) : IntsV (fun b => S b ∧ b ≠ bm) W v xs := by
  obtain ⟨a, cap, rfl, h1, h2, h3, h4, h5⟩ := h
  refine ⟨a, cap, rfl, h1, h2, h3, fun hl => ⟨h4 hl, fun e => ?_⟩, h5⟩
  obtain ⟨u, hu, _⟩ := h5 0 hl
  obtain ⟨c, t, fr, hc⟩ := cellB_of hu
  rw [e] at hc
  exact hm _ _ _ hc
theorem RowsV.shuns {S : Nat → Prop} {W : World} {v : Value} {xs : List (List Int)} {bm : Nat} (h : RowsV S W v xs) (hm : ∀ c t fr, W.heap[bm]? ≠ some (.cells c t fr)) : RowsV (fun b => S b ∧ b ≠ bm) W v xs := by
  obtain ⟨a, cap, rfl, h1, h2, h3, h4, h5⟩ := h
  refine ⟨a, cap, rfl, h1, h2, h3, fun hl => ⟨h4 hl, fun e => ?_⟩, fun j hj => ?_⟩
  · obtain ⟨u, hu, _⟩ := h5 0 hl
    obtain ⟨c, t, fr, hc⟩ := cellB_of hu
    rw [e] at hc
    exact hm _ _ _ hc
  · obtain ⟨u, hu, hr⟩ := h5 j hj
    exact ⟨u, hu, hr.shuns hm⟩
theorem MapS.nocells {m : Nat} {w : World} {b : Nat} {S : List (List Int)} (h : MapS m w b S) : ∀ c t fr, w.heap[b]? ≠ some (.cells c t fr) := by
  obtain ⟨es, cl, ho⟩ := h.obj
  intro c t fr e
  rw [ho] at e
  cases e

theorem greedy_len (rows : List (List Int)) : ∀ (n : Nat) (op : List (List Int)), (Cov.greedy rows n op).length ≤ n
  | 0, _ => by simp [Cov.greedy]
  | n + 1, op => by
    unfold Cov.greedy
    split
    · simp
    · simp only [List.length_cons]
      have := greedy_len rows n (op.filter fun c => !Cov.has (rows.getD (Cov.bestL op rows 0 (0, -1)).1 []) c)
      omega

/-- What stands between two rounds of the greedy choice. -/
structure GreedyI (n n0 : Nat) (bm : Nat) (V : World) (Al : Nat → Prop) (op rows : List (List Int)) (rv : Value) (ds : List Deferred) (W : World) : Prop where
  turn : TurnT (fun b o => b = bm ∧ ¬ book o) n0 V W
  map : ∃ S, MapS n W bm S ∧ (∀ c, c ∈ S ↔ c ∈ op) ∧ S.length = op.length
  rows : OwnS V.heap.size Al W rv rows
  marks : Marks n0 W.heap.size ds W

set_option maxRecDepth 100000 in
set_option maxHeartbeats 8000000 in
theorem pcover_ok (ns : List Nat) (hns : ∀ n ∈ ns, n ≤ 8) (hl0 : 0 < ns.length) (hl : ns.length ≤ 8) (F : List (List Int)) (hF : GapsF ns.length F) (hFl : F.length ≤ 12) (tn : Nat) (htn : tn ≤ 100) (hv : validE (szI ns) F tn = 0) (sa : Option Addr) (sc : Nat) (fa : Option Addr) (fc : Nat) (S T : Nat → Prop) (w : World)
    (hsz : IntsV S w (.slice sa ns.length sc) (szI ns)) (hf : RowsV T w (.slice fa F.length fc) F) (hT : TabD w) :
    Calls Tryd.prog 11 #[.slice sa ns.length sc, .slice fa F.length fc, .int .i64 tn] w fun e w' => ∃ x y z, e = .returned (.tuple #[x, y, z, .int .i64 0]) ∧ RowsV AnyB w' x (Cov.coverRows ns F tn) ∧ RowsV AnyB w' y (Cov.leftL ns F tn) ∧ RowsV AnyB w' z ((Cov.leftL ns F tn).map (Cov.whyL ns F)) ∧ Below w.heap.size w w' := by
  have hsz0 : IntsV (· < w.heap.size) w (.slice sa ns.length sc) (szI ns) := IntsV.mono hsz (fun b h _ => h)
  have hf0 : RowsV (· < w.heap.size) w (.slice fa F.length fc) F := RowsV.mono hf (fun b h _ => h)
  obtain ⟨sa', sc', es, hoks, hcaps, hmaxs⟩ := hsz.form
  rw [List.length_map] at es hoks hcaps
  cases es
  obtain ⟨fa', fc', ef, hokf, hcapf, hmaxf⟩ := hf.form
  cases ef
  obtain ⟨W1, hW1⟩ : ∃ W1, W1 = w.alloc (.cells #[.slice sa ns.length sc, .slice fa F.length fc, .int .i64 tn] 57) := ⟨_, rfl⟩
  have hb1 : Below w.heap.size w W1 := by rw [hW1]; exact (Below.refl _ _).alloc (Nat.le_refl _) _
  have hs1 : W1.heap.size = w.heap.size + 1 := by rw [hW1]; simp
  have p0 : W1.heap[w.heap.size]? = some (.cells #[.slice sa ns.length sc, .slice fa F.length fc, .int .i64 tn] 57 (0, 0)) := by rw [hW1]; exact heap_new _ _ rfl
  have HVal := hid (by have := pvalid_any (szI ns) (by simp; omega) F tn sa sc fa fc (· < w.heap.size) (· < w.heap.size) W1 (by simpa using hsz0.keep (KeepS.of_below hb1 (fun _ h => h))) (hf0.keep (KeepS.of_below hb1 (fun _ h => h))); rw [hv, List.length_map] at this; exact this)
  have HPos := hid (fun X (hb : Below w.heap.size w X) => ppossible_any ns hns hl0 hl F hF hFl tn htn sa sc fa fc (· < w.heap.size) (· < w.heap.size) X (hsz0.keep (KeepS.of_below hb (fun _ h => h))) (hf0.keep (KeepS.of_below hb (fun _ h => h))) (hT.below hb hT.lt))
  have HLeft := hid (fun X (hb : Below w.heap.size w X) SS bm hm => pleft_any ns hns hl0 hl tn htn SS bm sa sc fa F.length fc (· < w.heap.size) X (hsz0.keep (KeepS.of_below hb (fun _ h => h))) hm)
  have HWhy := hid (fun X (hb : Below w.heap.size w X) c (hc : Cov.comboB ns c = true) cv Sc (hcv : IntsV Sc X cv c) => pwhy_any ns hns hl0 hl F hF hFl c hc tn sa sc fa fc cv (· < w.heap.size) (· < w.heap.size) Sc X (hsz0.keep (KeepS.of_below hb (fun _ h => h))) (hf0.keep (KeepS.of_below hb (fun _ h => h))) hcv (hT.below hb hT.lt))
  have H1 := hid (And.intro hb1 (And.intro hs1 p0))
  have HIn := hid (And.intro hsz0 (And.intro hf0 hT))
  have HFG := hid hF
  have HNS := hid hns
  have HVV := hid hv
  clear hsz hf hsz0 hf0 hT hb1 p0 hF hns hs1 hv
  rw [← callsIn_wide (n := 5)]
  refine callsIn_of_wp_marks Tryd.func11 rfl trivial ?_ rfl
  simp only [Tryd.ntmps11, List.size_toArray, List.length_cons, List.length_nil, Nat.reduceAdd, Nat.reduceSub, Array.replicate_succ, Array.replicate_zero, List.push_toArray, List.append_toArray, List.nil_append, List.cons_append]
  rw [wpIn_wide]
  go_wp2_with fail
  rw [← hW1]
  clear hW1
  refine HVal.out.mono ?_
  rintro e W2 ⟨rfl, hb2⟩
  obtain ⟨hb1, hs1, p0⟩ := H1.out
  have r0 := (hb2.block _ (by omega)).trans p0
  have c0 := cell_of_row _ _ 0 _ _ (0, 0) r0
  have c1 := cell_of_row _ _ 1 _ _ (0, 0) r0
  have c2 := cell_of_row _ _ 2 _ _ (0, 0) r0
  simp only [List.getElem?_toArray, List.getElem?_cons_zero, List.getElem?_cons_succ] at c0 c1 c2
  have hbw2 : Below w.heap.size w W2 := hb1.trans (hb2.mono (by omega))
  have HP2 := hid (HPos.out W2 hbw2)
  have hs2 := hb2.size
  have H2 := hid (And.intro hbw2 (And.intro hs2 (And.intro hs1 r0)))
  clear hb1 hs1 p0 r0 hbw2 hs2 hb2 HVal
  go_wp2_with fail
  refine HP2.out.mono ?_
  rintro e W3 ⟨bm, xr, SS, rfl, m1, m2, m3, m4, m5⟩
  obtain ⟨xa, xc, rfl, -, -, -⟩ := m3.form
  obtain ⟨hbw2, hs2, hs1, r0⟩ := H2.out
  have hs3 := m5.size
  have r3 := (m5.block _ (by omega)).trans r0
  have hbw3 : Below w.heap.size w W3 := hbw2.trans (m5.mono (by omega))
  obtain ⟨W4, hW4⟩ : ∃ W4, W4 = (W3.alloc (.cells #[.map (some bm)] 59)).alloc (.cells #[.slice xa (Cov.okRows ns F).length xc] 23) := ⟨_, rfl⟩
  have hb34 : Below W3.heap.size W3 W4 := by rw [hW4]; exact ((Below.refl _ _).alloc (Nat.le_refl _) _).alloc (by simp) _
  have hs4 : W4.heap.size = W3.heap.size + 2 := by rw [hW4]; simp
  have r4 : W4.heap[w.heap.size]? = _ := (hb34.block _ (by omega)).trans r3
  have b1 : W4.heap[W3.heap.size]? = some (.cells #[.map (some bm)] 59 (0, 0)) := by rw [hW4]; exact heap_step _ (heap_new _ _ rfl)
  have b2 : W4.heap[W3.heap.size + 1]? = some (.cells #[.slice xa (Cov.okRows ns F).length xc] 23 (0, 0)) := by rw [hW4]; exact heap_new _ _ (by simp)
  have hbw4 : Below w.heap.size w W4 := hbw3.trans (hb34.mono hbw3.size)
  have m1' : MapS ns.length W4 bm SS := m1.keep (hb34.block _ m1.lt)
  have HL4 := hid (HLeft.out W4 hbw4 SS bm m1')
  have H4 := hid (And.intro hbw4 (And.intro m1' (And.intro m2 (And.intro (m3.keep (KeepS.below hb34)) (And.intro m4 (And.intro r4 (And.intro b1 b2)))))))
  have HS4 := hid (And.intro hs4 (And.intro hs3 (And.intro hs2 (And.intro hs1 m1.lt))))
  rw [hW4] at r4 b1
  have c0 := cell_of_row _ _ 0 _ _ (0, 0) r4
  have c1 := cell_of_row _ _ 1 _ _ (0, 0) r4
  have c2 := cell_of_row _ _ 2 _ _ (0, 0) r4
  have c3 := (one_cell b1).1
  simp only [List.getElem?_toArray, List.getElem?_cons_zero, List.getElem?_cons_succ] at c0 c1 c2
  have HW4 := hid hW4
  clear hW4 hbw2 hs2 hs1 r0 hs3 m1 m2 m3 m4 m5 r3 hbw3 HPos H1 H2 hb34 hs4 r4 b1 b2 hbw4 m1' HLeft HP2
  go_wp2_with fail
  rw [← HW4.out]
  clear c0 c1 c2 c3
  refine HL4.out.mono ?_
  rintro e W5 ⟨xl, rfl, l1, l2⟩
  have hLL : ((Cov.asked ns tn).filter fun c => !decide (c ∈ SS)) = Cov.leftL ns F tn := by
    unfold Cov.leftL
    refine List.filter_congr fun c hc => ?_
    congr 1
    have h1 := H4.out.2.2.1 c
    unfold Cov.openL at h1
    rw [List.mem_filter] at h1
    cases hi : Cov.inR (Cov.okRows ns F) c with
    | true => exact decide_eq_true (h1.2 ⟨hc, hi⟩)
    | false => exact decide_eq_false (fun h => by have := (h1.1 h).2; rw [hi] at this; cases this)
  rw [hLL] at l1
  clear hLL
  have hLc : ∀ c ∈ Cov.leftL ns F tn, Cov.comboB ns c = true := fun c hc => (Cov.mem_asked.1 (List.mem_filter.1 hc).1).1
  have hLs : (Cov.leftL ns F tn).length ≤ 43046721 := by
    have h1 := List.length_filter_le (fun c => !Cov.inR (Cov.okRows ns F) c) (Cov.asked ns tn)
    have h2 := set_small HNS.out hl (Cov.nodup_of_sorted (Cov.asked_sorted ns tn)) (fun c hc => (Cov.mem_asked.1 hc).1)
    exact Nat.le_trans h1 h2
  obtain ⟨LL, hLL⟩ : ∃ LL, LL = Cov.leftL ns F tn := ⟨_, rfl⟩
  rw [← hLL] at l1 hLc hLs
  have HLc := hid hLc
  clear hLc
  have HLL := hid hLL
  clear hLL
  obtain ⟨la, lc, rfl, hokl, hcapl, hmaxl⟩ := l1.form
  have H5 := hid (And.intro l1 l2)
  clear l1 l2 HL4
  go_wp2
  go_loopw [15, 47] (fun v i wr => ∃ k : Nat, k ≤ LL.length ∧ i = .int .i64 k ∧ Hid (OwnS W5.heap.size (fun b => W5.heap.size ≤ b ∧ b < wr.heap.size ∧ ¬ OB v b) wr v ((LL.take k).map (Cov.whyL ns F)) ∧ Below W5.heap.size W5 wr)) (fun _ i _ => LL.length - (intOf i).toNat)
  case atStart => exact ⟨0, by omega, rfl, hid ⟨OwnS.nil _ _ _, Below.refl _ _⟩⟩
  case round =>
    obtain ⟨k, hk, rfl, HR⟩ := hrel
    by_cases hlt : k < LL.length
    · obtain ⟨hown, hbr⟩ := HR.out
      obtain ⟨l1, l2⟩ := H5.out
      obtain ⟨hs4, hs3, hs2, hs1, hbm⟩ := HS4.out
      have hs5 := l2.size
      have hsr := hbr.size
      have r5 := (hbr.block _ (by omega)).trans ((l2.block _ (by omega)).trans H4.out.2.2.2.2.2.1)
      have c0 := cell_of_row _ _ 0 _ _ (0, 0) r5
      have c1 := cell_of_row _ _ 1 _ _ (0, 0) r5
      have c2 := cell_of_row _ _ 2 _ _ (0, 0) r5
      simp only [List.getElem?_toArray, List.getElem?_cons_zero, List.getElem?_cons_succ] at c0 c1 c2
      obtain ⟨u, hcu, -, hu⟩ := (l1.keep (KeepS.below hbr)).at hlt
      have hbwr : Below w.heap.size w wr := H4.out.1.trans ((l2.mono (by omega)).trans (hbr.mono (by omega)))
      have HW := hid (HWhy.out wr hbwr LL[k] (HLc.out _ (List.getElem_mem hlt)) u _ hu)
      obtain ⟨ua, uc, rfl, -, -, -⟩ := hu.form
      obtain ⟨va1, va2, va3, rfl⟩ : ∃ a l c, u15 = .slice a l c := by obtain ⟨a, c', h, -⟩ := (hown.sl (S := fun _ => True) (fun _ _ => trivial) (fun _ _ _ => trivial)).form; exact ⟨_, _, _, h⟩
      have hk0 : (0 : Int) ≤ k := by omega
      have hk1 : (k : Int) < LL.length := by omega
      have HT := hid (take_snoc hlt)
      have hsL : ((LL.take k).map (Cov.whyL ns F)).length + 1 ≤ 1000000000 := by simp; omega
      have HSZ := hid (And.intro hs4 (And.intro hs3 (And.intro hs2 (And.intro hs1 (And.intro hs5 hsr)))))
      clear hown hbr l1 l2 hs4 hs3 hs2 hs1 hbm hs5 hsr r5 hu hbwr
      generalize hLk : LL[k] = lk at *
      go_wp2_with fail
      refine HW.out.mono ?_
      rintro e w7 ⟨y, rfl, hy, hb7⟩
      obtain ⟨ya, yl, yc, rfl⟩ : ∃ a l c, y = .slice a l c := by obtain ⟨a, c', h, -⟩ := hy.form; exact ⟨_, _, _, h⟩
      obtain ⟨hown, hbr⟩ := HR.out
      have hlo := hown.lt
      have hs7 := hb7.size
      have hown7 : OwnS W5.heap.size (fun b => W5.heap.size ≤ b ∧ b < w7.heap.size ∧ ¬ OB (.slice va1 va2 va3) b) w7 (.slice va1 va2 va3) ((LL.take k).map (Cov.whyL ns F)) :=
        (hown.kept (fun b hlt _ => hb7.block b hlt)).mono (fun b _ g => ⟨g.1, Nat.lt_of_lt_of_le g.2.1 hs7, g.2.2⟩)
      have hsr : W5.heap.size ≤ wr.heap.size := hbr.size
      have hy7 : IntsV (fun b => W5.heap.size ≤ b ∧ b < w7.heap.size ∧ ¬ OB (.slice va1 va2 va3) b) w7 (.slice ya yl yc) (Cov.whyL ns F lk) := IntsV.mono hy (fun b h1 (h2 : wr.heap.size ≤ b) => ⟨by omega, h1, fun hob => by have := (hlo b hob).2; omega⟩)
      have hs57 : W5.heap.size ≤ w7.heap.size := by omega
      have HB7 := hid (hbr.trans (hb7.mono hsr))
      have HLO := hid hlo
      clear hown hbr hlo hy hb7
      go_wp2_with (at_builtin; go_must (refine wpList_appS1 rfl _ _ rfl Tryd.app63 rfl hown7 (fun b _ h1 h2 => h1.2.2 h2) rfl (Cov.whyL ns F lk) hy7 rfl hsL hs57 ?_))
      intro v8 w8 hown8 ht8 hn8
      rw [← List.map_take] at hown8
      have HR8 : Hid (OwnS W5.heap.size (fun b => W5.heap.size ≤ b ∧ b < w8.heap.size ∧ ¬ OB v8 b) w8 v8 ((LL.take (k + 1)).map (Cov.whyL ns F)) ∧ Below W5.heap.size W5 w8) := by
        have e : (LL.take (k + 1)).map (Cov.whyL ns F) = (LL.take k).map (Cov.whyL ns F) ++ [Cov.whyL ns F lk] := by rw [← HT.out, List.map_append]; rfl
        rw [e]
        refine hid ⟨hown8.mono (fun b hb1 hb2 => ⟨hb2.1, hb1, fun h => ?_⟩), HB7.out.trans (ht8.below hs57 (fun b hb => (HLO.out b hb).1))⟩
        rcases hn8 b h with h | h
        · exact hb2.2.2 h
        · have := hb2.2.1; omega
      clear hown8 ht8 hn8 hown7 hy7 hs7 hLk
      go_wp2
      go_roundw
      case rel => exact ⟨k + 1, by omega, by go_num, HR8⟩
      case measure => simp [intOf]; omega
    · obtain rfl : k = LL.length := by omega
      generalize hWb : wr = Wb at *
      clear hWb
      obtain ⟨hown, hbr⟩ := HR.out
      rw [List.take_length] at hown
      have HR6 := hid (And.intro hown hbr)
      clear hown hbr HR
      go_wp2
      refine wp_loop_ghost_k (fun k a W => a.tmps.size = 117 ∧ a.tmps.getD 10 undef = .pointer (some ⟨w.heap.size, 0, none⟩) ∧ a.tmps.getD 12 undef = .pointer (some ⟨W3.heap.size, 0, none⟩) ∧ a.tmps.getD 13 undef = .pointer (some ⟨W3.heap.size + 1, 0, none⟩) ∧
        a.tmps.getD 14 undef = .slice la LL.length lc ∧ a.tmps.getD 15 undef = u15 ∧ ∃ op rows, (∀ r ∈ rows, r.length = ns.length) ∧ op.length = k ∧ (∀ c ∈ op, Cov.inR (Cov.okRows ns F) c = true) ∧ op.Nodup ∧ (∀ c ∈ op, Cov.comboB ns c = true ∧ Cov.vals c = tn) ∧ rows ++ Cov.greedy (Cov.okRows ns F) op.length op = Cov.coverRows ns F tn ∧
          GreedyI ns.length w.heap.size bm Wb (fun b => b < W5.heap.size ∧ b ≠ bm) op rows (a.tmps.getD 18 undef) a.defers W) (Cov.openL ns F tn).length ?h0 ?round2
      case h0 =>
        obtain ⟨hown, hbr⟩ := HR6.out
        obtain ⟨l1, l2⟩ := H5.out
        obtain ⟨f1, f2, f3, -⟩ := H4.out
        have hz := HS4.out
        have hnd : (Cov.openL ns F tn).Nodup := List.Pairwise.filter _ (Cov.nodup_of_sorted (Cov.asked_sorted ns tn))
        refine ⟨rfl, rfl, rfl, rfl, rfl, rfl, Cov.openL ns F tn, [], by simp, rfl, fun c hc => (List.mem_filter.1 hc).2, hnd, fun c hc => Cov.mem_asked.1 (List.mem_filter.1 hc).1, rfl, TurnT.refl _ _ _, ⟨SS, ?_, f3, Cov.len_of_mem SS _ f2.nodup hnd f3⟩, OwnS.nil _ _ _, Marks.nil _ _ _⟩
        exact f2.keep ((hbr.block bm (by have := l2.size; omega)).trans (l2.block bm (by omega)))
      case round2 =>
        rintro k ⟨t, ds⟩ X ⟨hts, h10, h12, h13, h14, h15, op, rows, hrn, hok, hin, hnd, hcb, hgr, hG⟩ J K hJ hK
        obtain ⟨uu, rfl⟩ := frame_of 117 t hts
        simp only [range117, List.map_cons, List.map_nil] at h10 h12 h13 h14 h15 hG ⊢
        have h10' : uu 10 = .pointer (some ⟨w.heap.size, 0, none⟩) := h10
        have h12' : uu 12 = .pointer (some ⟨W3.heap.size, 0, none⟩) := h12
        have h13' : uu 13 = .pointer (some ⟨W3.heap.size + 1, 0, none⟩) := h13
        have h14' : uu 14 = .slice la LL.length lc := h14
        have h15' : uu 15 = u15 := h15
        have hG' : GreedyI ns.length w.heap.size bm Wb (fun b => b < W5.heap.size ∧ b ≠ bm) op rows (uu 18) ds X := hG
        rw [h10', h12', h13', h14', h15']
        clear h10 h12 h13 h14 h15 hG h10' h12' h13' h14' h15' hts
        obtain ⟨g1, ⟨SX, g2, g3, g4⟩, g5, g6⟩ := hG'
        obtain ⟨hown, hbr⟩ := HR6.out
        obtain ⟨hs4, hs3, hs2, hs1, hbm⟩ := HS4.out
        obtain ⟨l1, l2⟩ := H5.out
        obtain ⟨f1, f2, f3, f4, f5, f6, f7, f8⟩ := H4.out
        have hs5 := l2.size
        have hsr := hbr.size
        have kx : ∀ {b : Nat} {c : Array Value} {t : TypeId}, W4.heap[b]? = some (.cells c t (0, 0)) → X.heap[b]? = some (.cells c t (0, 0)) := fun {b c t} h => by
          have hlt := (Array.getElem?_eq_some_iff.1 h).1
          have h5 : Wb.heap[b]? = some (.cells c t (0, 0)) := (hbr.block b (by omega)).trans ((l2.block b hlt).trans h)
          refine g1.2 _ _ h5 ?_
          rintro ⟨rfl, -⟩
          obtain ⟨es, cl, ho⟩ := f2.obj
          rw [h] at ho
          cases ho
        have x0 := kx f6
        have x1 := kx f7
        have x2 := kx f8
        have c3 := (one_cell x1).1
        have hlen := g2.size 3
        have hk0 : (0 : Int) ≤ k := by omega
        rw [g4, hok] at hlen
        have HX := hid (And.intro g1 (And.intro g2 (And.intro g3 (And.intro g4 (And.intro g5 (And.intro g6 (And.intro x0 (And.intro x1 x2))))))))
        have HRN := hid hrn
        have HAllX : Hid (RowsV (fun b => b < W4.heap.size ∧ b ≠ bm) X (.slice xa (Cov.okRows ns F).length xc) (Cov.okRows ns F)) := by
          have k2 := (RowsV.mono f4 (S' := fun b => b < W4.heap.size) (fun b h _ => h)).shuns f2.nocells
          have k4 := (k2.keep (KeepS.of_below l2 (fun b h => h.1))).keep (KeepS.of_below hbr (fun b h => by have := h.1; omega))
          exact hid (RowsV.turn k4 g1 (fun b c t fr hb _ h => hb.2 h.1))
        have HOp := hid (And.intro hok (And.intro hin (And.intro hnd (And.intro hcb hgr))))
        have g5' := g5
        obtain ⟨ra, rc, hrv, hokr, hcapr, hmaxr⟩ := (g5.sl (S := fun _ => True) (fun _ _ => trivial) (fun _ _ _ => trivial)).form
        rw [hrv] at g5'
        have HRV := hid g5'
        have c4 : (X.alloc (.cells #[.int .i64 0] 3)).cell? ⟨W3.heap.size + 1, 0, none⟩ = some (.slice xa (Cov.okRows ns F).length xc) := (one_cell (heap_step _ x2)).1
        clear g5' g1 g2 g3 g4 g5 g6 hown hbr hs4 hs3 hs2 hs1 hbm l1 l2 f1 f2 f3 f4 f5 f6 f7 f8 hs5 hsr kx x0 x1 x2 hok hin hnd hcb hgr hrn
        rw [hrv]
        clear hrv
        by_cases hz : k = 0
        · subst hz
          clear c4
          go_wp2
          go_loopw [103] (fun i wx => ∃ j : Nat, j ≤ rows.length ∧ i = .int .i64 j ∧ Hid (OwnS Wb.heap.size (fun b => b < W5.heap.size ∨ (Wb.heap.size ≤ b ∧ b < wx.heap.size ∧ ¬ OB (.slice ra rows.length rc) b)) wx (.slice ra rows.length rc) rows ∧ TurnT (fun b o => OB (.slice ra rows.length rc) b ∧ ¬ book o) w.heap.size X wx)) (fun i _ => rows.length - (intOf i).toNat)
          case atStart => exact ⟨0, by omega, rfl, hid ⟨HRV.out.mono (fun b _ h => .inl h.1), TurnT.refl _ _ _⟩⟩
          case round =>
            obtain ⟨j, hj, rfl, HR⟩ := hrel
            by_cases hlt : j < rows.length
            · obtain ⟨hown, htt⟩ := HR.out
              have hGA := HX.out.1
              obtain ⟨us, ⟨o1, o2⟩, o3, o4⟩ := hown
              rcases o2 with ⟨e, o2⟩ | ⟨g, cap, cur, e, hbg, hg, hroom, hcm, hsz, htk⟩
              · omega
              · cases e
                have hju : j < us.length := by omega
                have hcur : cur[j]? = some us[j] := by
                  have e2 : (cur.toList.take (rows.length * 1))[j]? = us[j]? := by rw [htk]
                  rw [List.getElem?_take, if_pos (by omega), List.getElem?_eq_getElem hju] at e2
                  simpa using e2
                have hc1 : wr.cell? ⟨g, j, none⟩ = some us[j] := by simp [World.cell?, hg, hcur]
                have hc2 : wr.frozen? ⟨g, j, none⟩ = false := by simp [World.frozen?, hg]
                have hu := o4 j hju hlt
                have HCl := hid (clone_any rows[j] (by rw [HRN.out _ (List.getElem_mem hlt)]; omega) us[j] _ wr hu)
                obtain ⟨ua, uc, hue, -, -, -⟩ := hu.form
                have hj0 : (0 : Int) ≤ j := by omega
                have hj1 : (j : Int) < rows.length := by omega
                have HO : Hid (∀ w9 x, Below wr.heap.size wr w9 → IntsF (wr.heap.size ≤ ·) w9 x rows[j] → w9.cell? ⟨g, j, none⟩ = some us[j] ∧ w9.frozen? ⟨g, j, none⟩ = false ∧
                    OwnS Wb.heap.size (fun b => b < W5.heap.size ∨ (Wb.heap.size ≤ b ∧ b < (w9.setCell ⟨g, j, none⟩ x).heap.size ∧ ¬ OB (.slice (some ⟨g, 0, none⟩) rows.length rc) b)) (w9.setCell ⟨g, j, none⟩ x) (.slice (some ⟨g, 0, none⟩) rows.length rc) rows ∧ TurnT (fun b o => OB (.slice (some ⟨g, 0, none⟩) rows.length rc) b ∧ ¬ book o) w.heap.size X (w9.setCell ⟨g, j, none⟩ x)) := by
                  refine hid fun w9 x hb9 hx => ?_
                  have hlg := (Array.getElem?_eq_some_iff.1 hg).1
                  have hg9 := (hb9.block g hlg).trans hg
                  have hW5 := HR6.out.2.size
                  have hWX := hGA.1.size
                  have hXr := htt.1.size
                  have hs9 := hb9.size
                  have hn0 : w.heap.size ≤ Wb.heap.size := by
                    have := HS4.out
                    have := H5.out.2.size
                    omega
                  have hz : (w9.setCell ⟨g, j, none⟩ x).heap.size = w9.heap.size := by simp
                  have hk : ∀ S : Nat → Prop, (∀ b, S b → b ≠ g) → KeepS S w9 (w9.setCell ⟨g, j, none⟩ x) := fun S h b hb _ => Below.heap_setCell _ _ _ _ (h b hb)
                  refine ⟨by simp [World.cell?, hg9, hcur], by simp [World.frozen?, hg9], ⟨us.set j x, ownsRow_set ⟨o1, .inr ⟨g, _, cur, rfl, hbg, hg9, hroom, hcm, hsz, htk⟩⟩ j x, by simp [o3], fun i k1 k2 => ?_⟩, ?_⟩
                  · rw [List.length_set] at k1
                    rw [List.getElem_set]
                    split
                    · rename_i hij
                      subst hij
                      refine (IntsV.mono hx.sl (S' := fun b => Wb.heap.size ≤ b ∧ b < w9.heap.size ∧ b ≠ g) (fun b h1 (h2 : wr.heap.size ≤ b) => ⟨by omega, h1, by omega⟩)).keep (hk _ (fun b h => h.2.2)) |>.mono (fun b _ h => .inr ⟨h.1, by omega, fun hob => h.2.2 (by simpa [OB, Value.ownBlock] using hob)⟩)
                    · have h4 := o4 i k1 k2
                      refine ((IntsV.mono h4 (S' := fun b => (b < W5.heap.size ∨ (Wb.heap.size ≤ b ∧ b < wr.heap.size)) ∧ b ≠ g) (fun b _ h => ?_)).keep (KeepS.below hb9)).keep (hk _ (fun b h => h.2)) |>.mono (fun b _ h => ?_)
                      · rcases h with h | h
                        · exact ⟨.inl h, by omega⟩
                        · exact ⟨.inr ⟨h.1, h.2.1⟩, fun e => h.2.2 (by simp [OB, Value.ownBlock, e])⟩
                      · rcases h.1 with h1 | h1
                        · exact .inl h1
                        · exact .inr ⟨h1.1, by omega, fun hob => h.2 (by simpa [OB, Value.ownBlock] using hob)⟩
                  · exact htt.trans (TurnT.setCell (p := ⟨g, j, none⟩) (TurnT.of_below hb9 (by omega)) hg9 ⟨rfl, by simp [book]⟩ (by show w.heap.size ≤ g; omega) _)
                rw [hue] at hc1 HCl HO
                clear hue hu hcur o1 o3 o4 hbg hg hroom hcm hsz htk htt hju hGA
                generalize hrj : rows[j] = rj at *
                go_wp2_with fail
                refine HCl.out.mono ?_
                rintro e w9 ⟨x, rfl, hx, hb9⟩
                obtain ⟨xa', xl', xc', rfl⟩ : ∃ a l c, x = .slice a l c := by obtain ⟨a, c', h, -⟩ := hx.sl.form; exact ⟨_, _, _, h⟩
                obtain ⟨d1, d2, d3, d4⟩ := HO.out w9 _ hb9 hx
                have HN := hid (And.intro d3 d4)
                clear d3 d4 hb9 hx hrj
                go_wp2
                go_roundw
                case rel => exact ⟨j + 1, by omega, by go_num, HN⟩
                case measure => simp [intOf]; omega
            · obtain rfl : j = rows.length := by omega
              obtain ⟨hown, htt⟩ := HR.out
              obtain ⟨g1, g2, g3, g4, g5, g6, x0, x1, x2⟩ := HX.out
              have HM := hid (g6.turn htt (fun b o _ h => h.2))
              have hlo := hown.lt
              obtain ⟨hownY, hbr⟩ := HR6.out
              obtain ⟨l1, l2⟩ := H5.out
              obtain ⟨hs4, hs3, hs2, hs1, hbm⟩ := HS4.out
              have hs5 := l2.size
              have hsr := hbr.size
              have HFin : Hid (∀ w', TurnT (isBook w.heap.size) w.heap.size wr w' → RowsV AnyB w' (.slice ra rows.length rc) (Cov.coverRows ns F tn) ∧ RowsV AnyB w' (.slice la LL.length lc) (Cov.leftL ns F tn) ∧ RowsV AnyB w' u15 ((Cov.leftL ns F tn).map (Cov.whyL ns F)) ∧ Below w.heap.size w w') := by
                refine hid fun w' ht => ?_
                have hrows : rows = Cov.coverRows ns F tn := by
                  have := HOp.out.2.2.2.2
                  rw [HOp.out.1] at this
                  simpa [Cov.greedy] using this
                refine ⟨?_, ?_, ?_, H4.out.1.trans ((l2.mono (by omega)).trans ((hbr.mono (by omega)).trans (g1.1.trans (htt.1.trans ht.1))))⟩
                · rw [← hrows]
                  exact (hown.turn ht (fun b c t fr _ _ => by simp [isBook, book]) (fun b c t fr _ _ => by simp [isBook, book])).sl (fun _ _ => trivial) (fun _ _ _ => trivial)
                · rw [← HLL.out]
                  have k1 : RowsV (fun b => W4.heap.size ≤ b ∧ b < W5.heap.size) W5 (.slice la LL.length lc) LL := RowsV.mono l1 (fun b h1 h2 => ⟨h2, h1⟩)
                  have k2 := k1.keep (KeepS.of_below hbr (fun b h => h.2))
                  have k3 := RowsV.turn k2 g1 (fun b c t fr hb _ h => by have := h.1; omega)
                  have k4 := RowsV.turn k3 htt (fun b c t fr hb _ h => by have := (hlo b h.1).1; omega)
                  exact RowsV.mono (RowsV.turn k4 ht (fun b c t fr hb _ => by simp [isBook, book])) (fun _ _ _ => trivial)
                · rw [← HLL.out]
                  have hloY := hownY.lt
                  have k2 : RowsV (fun b => W5.heap.size ≤ b ∧ b < Wb.heap.size) Wb u15 (LL.map (Cov.whyL ns F)) := hownY.sl (fun b hb => hloY b hb) (fun b hlt hb => ⟨hb.1, hlt⟩)
                  have k3 := RowsV.turn k2 g1 (fun b c t fr hb _ h => by have := h.1; omega)
                  have k4 := RowsV.turn k3 htt (fun b c t fr hb _ h => by have := (hlo b h.1).1; omega)
                  exact RowsV.mono (RowsV.turn k4 ht (fun b c t fr hb _ => by simp [isBook, book])) (fun _ _ _ => trivial)
              clear hown htt g1 g2 g3 g4 g5 g6 x0 x1 x2 hlo hownY hbr l1 l2 hs4 hs3 hs2 hs1 hbm hs5 hsr
              go_wp2
              refine leave_marksV (v := .tuple #[.slice ra rows.length rc, .slice la LL.length lc, u15, .int .i64 0]) HM.out (fun w' ht => ⟨?_, ?_⟩)
              · simp [results, Tryd.results11, go_sem]
              · obtain ⟨k1, k2, k3, k4⟩ := HFin.out w' ht
                exact ⟨_, _, _, rfl, k1, k2, k3, k4⟩
        · have hkp : (0 : Int) < k := by omega
          go_wp2
          obtain ⟨Y0, hY0⟩ : ∃ Y0, Y0 = X.alloc (.cells #[.int .i64 0] 3) := ⟨_, rfl⟩
          rw [← hY0]
          obtain ⟨bb, hbb⟩ : ∃ bb, bb = X.heap.size := ⟨_, rfl⟩
          rw [← hbb]
          have y0 : Y0.heap[bb]? = some (.cells #[.int .i64 0] 3 (0, 0)) := by rw [hY0, hbb]; exact heap_new _ _ rfl
          have yb : Below X.heap.size X Y0 := by rw [hY0]; exact (Below.refl _ _).alloc (Nat.le_refl _) _
          have ys : Y0.heap.size = bb + 1 := by rw [hY0, hbb]; simp
          have HY := hid (And.intro y0 (And.intro yb (And.intro ys hbb)))
          clear y0 yb ys hY0 hbb c4 c3 hlen
          refine wp_loop_ghost_k (fun k a W => a.tmps.size = 117 ∧ a.tmps.getD 10 undef = .pointer (some ⟨w.heap.size, 0, none⟩) ∧ a.tmps.getD 12 undef = .pointer (some ⟨W3.heap.size, 0, none⟩) ∧ a.tmps.getD 13 undef = .pointer (some ⟨W3.heap.size + 1, 0, none⟩) ∧
            a.tmps.getD 14 undef = .slice la LL.length lc ∧ a.tmps.getD 15 undef = u15 ∧ a.tmps.getD 18 undef = .slice ra rows.length rc ∧ a.tmps.getD 19 undef = .pointer (some ⟨bb, 0, none⟩) ∧ a.tmps.getD 61 undef = .slice xa (Cov.okRows ns F).length xc ∧ a.tmps.getD 62 undef = .int .i64 (Cov.okRows ns F).length ∧
            ∃ (i : Nat) (b : Nat × Int), i ≤ (Cov.okRows ns F).length ∧ k = (Cov.okRows ns F).length - i ∧ a.tmps.getD 63 undef = .int .i64 i ∧ a.tmps.getD 20 undef = .int .i64 b.2 ∧ -1 ≤ b.2 ∧ b.2 ≤ 1000 ∧ (b.1 = 0 ∨ b.1 < (Cov.okRows ns F).length) ∧
              Cov.bestL op ((Cov.okRows ns F).drop i) i b = Cov.bestL op (Cov.okRows ns F) 0 (0, -1) ∧ W.heap[bb]? = some (.cells #[.int .i64 b.1] 3 (0, 0)) ∧ TurnT (fun b o => b = bb ∧ ¬ book o) w.heap.size Y0 W ∧ Marks w.heap.size W.heap.size a.defers W) (Cov.okRows ns F).length ?h3 ?round3
          case h3 =>
            obtain ⟨y0, yb, ys, hbb⟩ := HY.out
            exact ⟨rfl, rfl, rfl, rfl, rfl, rfl, rfl, rfl, rfl, rfl, 0, (0, -1), by omega, by omega, rfl, rfl, by decide, by decide, .inl rfl, by simp, y0, TurnT.refl _ _ _, by
              obtain ⟨g1, g2, g3, g4, g5, g6, -⟩ := HX.out
              exact (Marks.turn (A := fun _ _ => False) g6 ⟨yb.mono (by have := g1.1.size; have := HS4.out; have := H5.out.2.size; have := HR6.out.2.size; omega), fun b o hb _ => (yb.block b (Array.getElem?_eq_some_iff.1 hb).1).trans hb⟩ (fun _ _ _ h => h.elim)).mono yb.size⟩
          case round3 =>
            rintro k3 ⟨t, ds3⟩ Z ⟨hts, h10, h12, h13, h14, h15, h18, h19, h61, h62, i, b, hi, rfl, h63, h20, hb1, hb2, hb3, hbest, hbox, htz, hmk⟩ J3 K3 hJ3 hK3
            obtain ⟨vv, rfl⟩ := frame_of 117 t hts
            simp only [range117, List.map_cons, List.map_nil] at h10 h12 h13 h14 h15 h18 h19 h61 h62 h63 h20 hmk ⊢
            rw [show vv 10 = _ from h10, show vv 12 = _ from h12, show vv 13 = _ from h13, show vv 14 = _ from h14, show vv 15 = _ from h15, show vv 18 = _ from h18, show vv 19 = _ from h19, show vv 61 = _ from h61, show vv 62 = _ from h62, show vv 63 = _ from h63, show vv 20 = _ from h20]
            have hmk' : Marks w.heap.size Z.heap.size ds3 Z := hmk
            clear h10 h12 h13 h14 h15 h18 h19 h61 h62 h63 h20 hmk hts
            by_cases hi2 : i < (Cov.okRows ns F).length
            · obtain ⟨y0, yb, ys, hbb⟩ := HY.out
              obtain ⟨g1, g2, g3, g4, g5, g6, x0, x1, x2⟩ := HX.out
              have hYs := yb.size
              have hZs := htz.1.size
              have hWbs : W4.heap.size ≤ X.heap.size := by have := g1.1.size; have := HR6.out.2.size; have := H5.out.2.size; omega
              have hWbs3 : W3.heap.size + 1 < X.heap.size := by have := HS4.out; omega
              have kz : ∀ {b : Nat} {c : Array Value} {t : TypeId}, X.heap[b]? = some (.cells c t (0, 0)) → Z.heap[b]? = some (.cells c t (0, 0)) := fun {b c t} h => by
                have hlt := (Array.getElem?_eq_some_iff.1 h).1
                refine htz.2 _ _ ((yb.block b hlt).trans h) ?_
                rintro ⟨rfl, -⟩
                omega
              have z0 := kz x0
              have z1 := kz x1
              have k7 := RowsV.turn (HAllX.out.keep (KeepS.below yb)) htz (fun b c t fr hb _ h => by have := hb.1; have := h.1; omega)
              obtain ⟨u, hcu, -, hu⟩ := k7.at hi2
              obtain ⟨xa', xc', exa, hoka, hcapa, hmaxa⟩ := k7.form
              cases exa
              have hrC : (Cov.okRows ns F)[i] ∈ Cov.rowsC ns := (List.mem_filter.1 (List.getElem_mem hi2)).1
              have hi0 : (0 : Int) ≤ i := by omega
              have hi1 : (i : Int) < (Cov.okRows ns F).length := by omega
              obtain ⟨r, hr⟩ : ∃ r, r = (Cov.okRows ns F)[i] := ⟨_, rfl⟩
              rw [← hr] at hu hrC
              obtain ⟨ua, uc, rfl, -, -, -⟩ := hu.form
              have rz : ((Z.alloc (.cells #[.slice ua r.length uc] 22)).alloc (.cells #[.int .i64 0] 3)).heap[w.heap.size]? = some (.cells #[.slice sa ns.length sc, .slice fa F.length fc, .int .i64 tn] 57 (0, 0)) := heap_step _ (heap_step _ z0)
              have c0 := cell_of_row _ _ 0 _ _ (0, 0) rz
              have c1 := cell_of_row _ _ 1 _ _ (0, 0) rz
              have c2 := cell_of_row _ _ 2 _ _ (0, 0) rz
              simp only [List.getElem?_toArray, List.getElem?_cons_zero, List.getElem?_cons_succ] at c0 c1 c2
              have HSets := hid (fun X => psets_any (.slice sa ns.length sc) (.slice fa F.length fc) (.int .i64 tn) ⟨_, _, _, rfl⟩ ⟨_, _, _, rfl⟩ ⟨_, rfl⟩ X)
              have HZ := hid (And.intro z0 (And.intro z1 (And.intro hu (And.intro hrC (And.intro hr (And.intro hbest (And.intro hbox (And.intro htz hmk'))))))))
              clear z0 z1 k7 kz hu hrC hr hbest hbox htz hmk' rz g1 g2 g3 g4 g5 g6 x0 x1 x2 y0 yb ys hbb hYs hZs hWbs hWbs3
              go_wp2_with fail
              refine (HSets.out _).mono ?_
              rintro e V ⟨rfl, hV⟩
              have hsV : V.heap.size = Z.heap.size + 3 := by rw [hV]; simp
              have vb : Below Z.heap.size Z V := by rw [hV]; exact (((Below.refl _ _).alloc (Nat.le_refl _) _).alloc (by simp) _).alloc (by simp; omega) _
              have v1 : V.heap[Z.heap.size]? = some (.cells #[.slice ua r.length uc] 22 (0, 0)) := by rw [hV]; exact heap_step _ (heap_step _ (heap_new _ _ rfl))
              have v2 : V.heap[Z.heap.size + 1]? = some (.cells #[.int .i64 0] 3 (0, 0)) := by rw [hV]; exact heap_step _ (heap_new _ _ (by simp))
              have v3 : V.heap[Z.heap.size + 2]? = some (.cells #[.slice sa ns.length sc, .slice fa F.length fc, .int .i64 tn] 57 (0, 0)) := by rw [hV]; exact heap_new _ _ (by simp)
              have hwZ : w.heap.size ≤ Z.heap.size := by
                have := HZ.out.2.2.2.2.2.2.2.1.1.size
                have := HY.out.2.1.size
                have := HX.out.1.1.size
                have := HR6.out.2.size
                have := H5.out.2.size
                have := HS4.out
                omega
              have HSeq : Hid (IterS (α := Nat) Tryd.prog w.heap.size V.heap.size 66 #[.pointer (some ⟨Z.heap.size + 2, 0, none⟩)] (fun s => #[.int .u64 s]) (fun pre x _ => pre ++ [x] <+: Cov.masks ns.length tn) (fun b o => ¬ book o ∧ b = Z.heap.size + 1) (fun _ _ => False) (fun xs _ => xs = Cov.masks ns.length tn) V) :=
                hid (sets_iter ns.length tn hl htn w.heap.size V.heap.size (Z.heap.size + 2) sa sc (.slice fa F.length fc) (fun b o => ¬ book o ∧ b = Z.heap.size + 1) (fun o h => by have := h.2; omega) V (by omega) v3)
              have HV := hid (And.intro vb (And.intro v1 v2))
              have hwV : w.heap.size ≤ V.heap.size := by omega
              clear hV vb v1 v2 v3 c0 c1 c2 HSets
              go_wp2
              rw [← wpIn_wide (n := 5)]
              refine wpIn_rangeS (α := Nat) (n0 := w.heap.size) (gf := 66) rfl (fn_enters Tryd.func66 (by kernel_rfl) rfl) (fun _ => rfl) HSeq.out hwV (fun _ _ h => h.elim) (fun _ _ h => h.1)
                (fun pre W => TurnT (fun b o => (¬ book o ∧ b = Z.heap.size + 1) ∨ isBook V.heap.size b o) w.heap.size V W ∧ W.heap[Z.heap.size + 1]? = some (.cells #[.int .i64 ((pre.filter fun s => decide (Cov.maskC r s ∈ op)).length : Nat)] 3 (0, 0))) (fun _ _ => False)
                (fun pre A B h ht => ⟨h.1.trans (ht.mono (fun b o h => h.elim False.elim .inr)), ht.2 _ _ h.2 (by simp [isBook, book])⟩) (fun _ _ _ h _ => h) (fun _ _ _ h _ => h) ⟨TurnT.refl _ _ _, HV.out.2.2⟩ ?hroundC ?hdoneC ?hstopC
              case hroundC =>
                rintro l pre s W hlr ⟨ht, hnb⟩ hGp
                simp only [List.zip_toArray, List.zip_cons_cons, List.zip_nil_left]
                gi_wp2
                refine ⟨TurnT.refl _ _ _, fun U2 ht2 hs2 hl2 => ?_⟩
                have htx := ht.trans (ht2.mono (A' := fun b o => (¬ book o ∧ b = Z.heap.size + 1) ∨ isBook V.heap.size b o) (fun b o h => .inr h))
                have n2 := ht2.2 _ _ hnb (by simp [isBook, book])
                obtain ⟨z0, z1, hu, hrC, hr, hbest, hbox, htz, hmk'⟩ := HZ.out
                obtain ⟨y0, yb, ys, hbb⟩ := HY.out
                obtain ⟨g1, g2, g3, g4, g5, g6, x0, x1, x2⟩ := HX.out
                obtain ⟨vb, v1, v2⟩ := HV.out
                obtain ⟨hs4, hs3, hs2', hs1, hbm⟩ := HS4.out
                have q1 := HR6.out.2.size
                have q2 := H5.out.2.size
                have q3 := g1.1.size
                have q4 := htz.1.size
                have q5 := htx.1.size
                have kU : ∀ {b o}, V.heap[b]? = some o → b ≠ Z.heap.size + 1 → ¬ book o → U2.heap[b]? = some o := fun h h1 h2 => htx.2 _ _ h (by
                  rintro (h | h)
                  · exact h1 h.2
                  · exact h2 h.2)
                have kV : ∀ {b o}, Z.heap[b]? = some o → V.heap[b]? = some o := fun h => (vb.block _ (Array.getElem?_eq_some_iff.1 h).1).trans h
                have m0 : MapS ns.length U2 bm SX := by
                  obtain ⟨es, cl, ho⟩ := g2.obj
                  have h1 : Z.heap[bm]? = some (.map es cl) := htz.2 _ _ ((yb.block bm g2.lt).trans ho) (by
                    rintro ⟨h, -⟩
                    omega)
                  exact g2.keep ((kU (kV h1) (by omega) (by simp [book])).trans ho.symm)
                have u1 := kU (kV z1) (by omega) (by simp [book])
                have u2 := kU v1 (by omega) (by simp [book])
                have hur : IntsV (fun b => b < W4.heap.size ∧ b ≠ bm) U2 (.slice ua r.length uc) r := IntsV.turn (hu.keep (KeepS.below vb)) htx (fun b c t fr hb _ h => by
                  rcases h with h | h
                  · have := hb.1; have := h.2; omega
                  · simp [isBook, book] at h)
                have c1 : ∀ Y : Held (fun W => Below U2.heap.size U2 W), Y.1.cell? ⟨W3.heap.size, 0, none⟩ = some (.map (some bm)) := fun Y => by rw [Y.2.cell (p := ⟨W3.heap.size, 0, none⟩) (by show W3.heap.size < _; omega), (one_cell u1).1]
                have c2 : ∀ Y : Held (fun W => Below U2.heap.size U2 W), Y.1.cell? ⟨Z.heap.size, 0, none⟩ = some (.slice ua r.length uc) := fun Y => by rw [Y.2.cell (p := ⟨Z.heap.size, 0, none⟩) (by show Z.heap.size < _; omega), (one_cell u2).1]
                have hrl : r.length = ns.length := Cov.comboB_len ns r (Cov.rowB_combo ns r ((Cov.mem_rowsC ns r).1 hrC))
                have hs2l : s < 2 ^ r.length := by rw [hrl]; exact List.mem_range.1 (List.mem_filter.1 (hGp.subset (by simp) : s ∈ Cov.masks ns.length tn)).1
                have hbU : Below w.heap.size w U2 := H4.out.1.trans ((H5.out.2.mono (by omega)).trans ((HR6.out.2.mono (by omega)).trans (g1.1.trans ((yb.mono (by omega)).trans (htz.1.trans ((vb.mono (by omega)).trans htx.1))))))
                have HPart := hid (part_any r (by rw [hrl]; exact hl) s hs2l (.slice ua r.length uc) _ (U2.drewN 1) (IntsV.keep hur (KeepS.below (below_drewN (Below.refl _ _) _))) ((HIn.out.2.2.below hbU HIn.out.2.2.lt).keep rfl))
                have HKey := hid (mask_keyC HNS.out hrC s)
                have hcnt : (pre.filter fun s => decide (Cov.maskC r s ∈ op)).length ≤ 256 := by
                  have e1 := hGp.length_le
                  have e2 := List.length_filter_le (fun s => decide (Cov.pop ns.length s = tn)) (List.range (2 ^ ns.length))
                  have e3 := List.length_filter_le (fun s => decide (Cov.maskC r s ∈ op)) pre
                  have e4 : 2 ^ ns.length ≤ 2 ^ 8 := Nat.pow_le_pow_right (by omega) hl
                  rw [List.length_range] at e2
                  simp only [List.length_append, List.length_singleton, Cov.masks] at e1
                  omega
                have HU := hid (And.intro htx (And.intro n2 (And.intro m0 (And.intro g3 q5))))
                clear htx n2 z0 z1 hu hrC hr hbest hbox htz hmk' y0 yb ys hbb g1 g2 g3 g4 g5 g6 x0 x1 x2 vb v1 v2 hs4 hs3 hs2' hs1 hbm q1 q2 q3 q4 q5 kU kV m0 u1 u2 hur hrl hs2l hbU ht hnb hGp hlr ht2 hs2 hl2
                have HsV := hid hsV
                clear hsV
                gi_wp2
                refine wpIn_region_heldT (r := some l) 4 [(true, 0), (true, 1), (true, 2), (false, 3)] (fun W => Below U2.heap.size U2 W) (by kernel_rfl) (by kernel_rfl) (by kernel_rfl) (below_drewN (Below.refl _ _) 1) ?_
                intro hne
                refine wpSteps_pre 3 (by decide) ?_
                simp only [List.take_succ_cons, List.take_zero]
                repeat (go_big_quiet_step (fail))
                refine wpQuiet_nil ?_
                refine wpSteps_one rfl ?_
                clear c1 c2 hne
                go_wp2_with fail
                refine HPart.out.mono ?_
                rintro e U3 ⟨rfl, hb3⟩
                have hb3' : Below U2.heap.size U2 U3 := (below_drewN (Below.refl _ _) 1).trans hb3
                obtain ⟨htx, n2, m0, g3, q5⟩ := HU.out
                have hlt2 := (Array.getElem?_eq_some_iff.1 n2).1
                have n3 := (hb3'.block _ hlt2).trans n2
                have hlook := (m0.keep (hb3'.block _ m0.lt)).look hl HKey.out
                have hdd : decide (Cov.maskC r s ∈ SX) = decide (Cov.maskC r s ∈ op) := by rw [decide_eq_decide]; exact g3 _
                rw [hdd] at hlook
                have c5 := (one_cell n3).1
                have c6 := (one_cell n3).2
                have T3 : TurnT (fun b o => ¬ book o ∧ b = Z.heap.size + 1) w.heap.size U2 U3 := TurnT.of_below hb3' (by omega)
                have hnew : (List.filter (fun s => decide (Cov.maskC r s ∈ op)) (pre ++ [s])).length = (pre.filter fun s => decide (Cov.maskC r s ∈ op)).length + (if decide (Cov.maskC r s ∈ op) = true then 1 else 0) := by
                  rw [List.filter_append, List.length_append]
                  simp only [List.filter_cons, List.filter_nil]
                  split <;> rfl
                have HNew := hid hnew
                generalize hcc : (pre.filter fun s => decide (Cov.maskC r s ∈ op)).length = cnt at *
                clear hcc hnew hdd
                cases hd : decide (Cov.maskC r s ∈ op) with
                | false =>
                  rw [hd] at hlook
                  have HQ : Hid (QS (fun b o => ¬ book o ∧ b = Z.heap.size + 1) w.heap.size (fun pre W => TurnT (fun b o => (¬ book o ∧ b = Z.heap.size + 1) ∨ isBook V.heap.size b o) w.heap.size V W ∧ W.heap[Z.heap.size + 1]? = some (.cells #[.int .i64 ((pre.filter fun s => decide (Cov.maskC r s ∈ op)).length : Nat)] 3 (0, 0))) (fun (_ : List Nat) (_ : World) => False) (pre ++ [s]) U2 .normal { tmps := #[], defers := [] } U3) := by
                    refine hid ⟨T3, htx.trans (T3.mono (fun b o h => .inl h)), ?_⟩
                    have := HNew.out
                    rw [hd] at this
                    rw [this]
                    exact n3
                  clear hb3 htx n2 m0 g3 q5 hlt2 n3 T3 hd
                  generalize keyV (Cov.maskC r s) = kv at *
                  go_wp2
                  refine qn_mk ⟨InHeld.of hb3', ?_⟩
                  refine wpSteps_done ?_
                  simp only [List.drop_succ_cons, List.drop_zero]
                  clear hb3'
                  gi_wp2
                  exact HQ.out
                | true =>
                  rw [hd] at hlook
                  have T4 : TurnT (fun b o => ¬ book o ∧ b = Z.heap.size + 1) w.heap.size U2 (U3.setCell ⟨Z.heap.size + 1, 0, none⟩ (.int .i64 ((cnt + 1 : Nat) : Int))) := TurnT.setCell (p := ⟨Z.heap.size + 1, 0, none⟩) T3 n3 ⟨by simp [book], rfl⟩ (by show w.heap.size ≤ Z.heap.size + 1; omega) _
                  have HQ : Hid (QS (fun b o => ¬ book o ∧ b = Z.heap.size + 1) w.heap.size (fun pre W => TurnT (fun b o => (¬ book o ∧ b = Z.heap.size + 1) ∨ isBook V.heap.size b o) w.heap.size V W ∧ W.heap[Z.heap.size + 1]? = some (.cells #[.int .i64 ((pre.filter fun s => decide (Cov.maskC r s ∈ op)).length : Nat)] 3 (0, 0))) (fun (_ : List Nat) (_ : World) => False) (pre ++ [s]) U2 .normal { tmps := #[], defers := [] } (U3.setCell ⟨Z.heap.size + 1, 0, none⟩ (.int .i64 ((cnt : Int) + 1)))) := by
                    refine hid ⟨T4, htx.trans (T4.mono (fun b o h => .inl h)), ?_⟩
                    have := HNew.out
                    rw [hd] at this
                    rw [this]
                    exact one_set _ n3
                  clear hb3 htx n2 m0 g3 q5 hlt2 n3 T3 T4 hd
                  generalize keyV (Cov.maskC r s) = kv at *
                  have hc0 : (0 : Int) ≤ cnt := by omega
                  have hc3 : (cnt : Int) ≤ 256 := by omega
                  go_wp2
                  refine qn_mk ⟨InHeld.of hb3', ?_⟩
                  refine wpSteps_done ?_
                  simp only [List.drop_succ_cons, List.drop_zero]
                  clear hb3'
                  gi_wp2
                  exact HQ.out
              case hdoneC =>
                rintro D xs W hD rfl ⟨ht, hnb⟩ hk
                obtain ⟨z0, z1, hu, hrC, hr, hbest, hbox, htz, hmk'⟩ := HZ.out
                obtain ⟨y0, yb, ys, hbb⟩ := HY.out
                obtain ⟨vb, v1, v2⟩ := HV.out
                have q4 := htz.1.size
                have q5 := ht.1.size
                rw [Cov.count_parts ((Cov.mem_rowsC ns r).1 hrC) tn op HOp.out.2.2.1 HOp.out.2.2.2.1] at hnb
                have hcnt : (op.filter fun c => Cov.has r c).length ≤ 256 := by
                  rw [← Cov.count_parts ((Cov.mem_rowsC ns r).1 hrC) tn op HOp.out.2.2.1 HOp.out.2.2.2.1]
                  have e1 := List.length_filter_le (fun s => decide (Cov.maskC r s ∈ op)) (Cov.masks ns.length tn)
                  have e2 := List.length_filter_le (fun s => decide (Cov.pop ns.length s = tn)) (List.range (2 ^ ns.length))
                  have e4 : 2 ^ ns.length ≤ 2 ^ 8 := Nat.pow_le_pow_right (by omega) hl
                  rw [List.length_range] at e2
                  have e5 : (Cov.masks ns.length tn).length ≤ 2 ^ ns.length := e2
                  omega
                have hstep : Cov.bestL op ((Cov.okRows ns F).drop (i + 1)) (i + 1) (if b.2 < ((op.filter fun c => Cov.has r c).length : Int) then (i, ((op.filter fun c => Cov.has r c).length : Int)) else b) = Cov.bestL op (Cov.okRows ns F) 0 (0, -1) := by
                  rw [← hbest, List.drop_eq_getElem_cons hi2, ← hr]
                  rfl
                have hB : W.heap[bb]? = some (.cells #[.int .i64 b.1] 3 (0, 0)) := ht.2 _ _ ((vb.block _ (by omega)).trans hbox) (by
                  rintro (h | h)
                  · have := h.2; omega
                  · simp [isBook, book] at h)
                have hTW : TurnT (fun b o => b = bb ∧ ¬ book o) w.heap.size Y0 W := ⟨htz.1.trans ((vb.mono hwZ).trans ht.1), fun b' o hb ha => by
                  have h1 := htz.2 b' o hb ha
                  have hl1 := (Array.getElem?_eq_some_iff.1 h1).1
                  exact ht.2 b' o ((vb.block b' hl1).trans h1) (by
                    rintro (h | h)
                    · have := h.2; omega
                    · have := h.1; omega)⟩
                have hM : Marks w.heap.size W.heap.size ({ target := .collected D, args := #[] } :: ds3) W :=
                  ((hmk'.turn (A := fun _ _ => False) (n1 := w.heap.size) ⟨vb.mono hwZ, fun b' o hb _ => (vb.block b' (Array.getElem?_eq_some_iff.1 hb).1).trans hb⟩ (fun _ _ _ h => h.elim)).turn ht (fun b' o hb h => by
                    rcases h with h | h
                    · exact h.1
                    · have := h.1; omega)).push (by omega) (by omega) hk
                generalize hC : (op.filter fun c => Cov.has r c).length = C at *
                have c5 := (one_cell hnb).1
                have c6 := (one_cell hB).1
                have c7 := (one_cell hB).2
                have HW := hid (And.intro hstep (And.intro hB (And.intro hTW hM)))
                have hnb' := hnb
                have hbZ : bb < Z.heap.size := by omega
                clear z0 z1 hu hrC hr hbest hbox htz hmk' y0 yb ys hbb vb v1 v2 ht hnb hk hstep hB hTW hM hC
                have hC0 : (0 : Int) ≤ C := by omega
                by_cases hbC : b.2 < (C : Int)
                · rw [if_pos hbC] at HW
                  have HN := hid hnb'
                  clear hnb'
                  go_wp2
                  have c8 : ∀ Y : Held (fun U => U.heap[Z.heap.size + 1]? = some (.cells #[.int .i64 (C : Int)] 3 (0, 0))), Y.1.cell? ⟨Z.heap.size + 1, 0, none⟩ = some (.int .i64 (C : Int)) := fun Y => (one_cell Y.2).1
                  refine wp_region_held 3 [(true, 0), (true, 1), (false, 2)] (fun U => U.heap[Z.heap.size + 1]? = some (.cells #[.int .i64 (C : Int)] 3 (0, 0))) (by kernel_rfl) (by kernel_rfl) HN.out ?_
                  intro hne
                  refine wpSteps_pre 2 (by decide) ?_
                  simp only [List.take_succ_cons, List.take_zero]
                  repeat (go_big_quiet_step (fail))
                  refine wpQuiet_nil ?_
                  refine wpSteps_one rfl ?_
                  clear c8 hne
                  go_wp2
                  refine qn_mk ⟨⟨⟨(W.drewN 1).setCell ⟨bb, 0, none⟩ (.int .i64 i), (Below.heap_setCell (W.drewN 1) ⟨bb, 0, none⟩ (.int .i64 i) _ (show Z.heap.size + 1 ≠ bb by omega)).trans HN.out⟩, rfl⟩, ?_⟩
                  refine wpSteps_done ?_
                  simp only [List.drop_succ_cons, List.drop_zero]
                  go_wp2
                  obtain ⟨w1, w2, w3, w4⟩ := HW.out
                  have T5 : TurnT (fun b o => b = bb ∧ ¬ book o) w.heap.size W ((W.drewN 1).setCell ⟨bb, 0, none⟩ (.int .i64 i)) := TurnT.setCell (p := ⟨bb, 0, none⟩) ((TurnT.refl _ _ _).drewN 1) w2 ⟨rfl, by simp [book]⟩ (by show w.heap.size ≤ bb; have := HY.out.2.2.2; have := HX.out.1.1.size; have := HR6.out.2.size; have := H5.out.2.size; have := HS4.out; omega) _
                  exact Handed.intro ((Cov.okRows ns F).length - (i + 1)) (by omega) (hJ3 _ _ _ ⟨rfl, rfl, rfl, rfl, rfl, rfl, rfl, rfl, rfl, rfl, i + 1, (i, (C : Int)), by omega, rfl, rfl, rfl, by show -1 ≤ (C : Int); omega, by show (C : Int) ≤ 1000; omega, .inr hi2, w1, one_set _ w2, w3.trans T5, (w4.turn T5 (fun _ _ _ h => h.2)).mono T5.1.size⟩)
                · rw [if_neg hbC] at HW
                  go_wp2
                  obtain ⟨w1, w2, w3, w4⟩ := HW.out
                  refine Handed.intro ((Cov.okRows ns F).length - (i + 1)) (by omega) (hJ3 _ _ _ ⟨rfl, ?_, ?_, ?_, ?_, ?_, ?_, ?_, ?_, ?_, i + 1, b, by omega, ?_, ?_, ?_, hb1, hb2, hb3, w1, w2, w3, w4⟩)
                  all_goals rfl
              case hstopC => rintro D xs W hD h hk; exact h.elim
            · obtain rfl : i = (Cov.okRows ns F).length := by omega
              obtain ⟨y0, yb, ys, hbb⟩ := HY.out
              obtain ⟨g1, g2, g3, g4, g5, g6, x0, x1, x2⟩ := HX.out
              obtain ⟨hok, hin, hnd, hcb, hgr⟩ := HOp.out
              obtain ⟨hs4, hs3, hs2, hs1, hbm⟩ := HS4.out
              have q1 := HR6.out.2.size
              have q2 := H5.out.2.size
              have q3 := g1.1.size
              have q4 := htz.1.size
              have q6 := yb.size
              have f5 := H4.out.2.2.2.2.1
              rw [List.drop_length] at hbest
              have hbe : b = Cov.bestL op (Cov.okRows ns F) 0 (0, -1) := hbest
              have hne : op ≠ [] := by rintro rfl; simp at hok; omega
              have hbl : b.1 < (Cov.okRows ns F).length := by rw [hbe]; exact (Cov.best_ok hne hin).1
              have hless := Cov.best_less hne hin
              have hcons := Cov.greedy_cons hne hin
              rw [← hbe] at hless hcons
              obtain ⟨r, hr⟩ : ∃ r, r = (Cov.okRows ns F)[b.1] := ⟨_, rfl⟩
              have hgd : (Cov.okRows ns F).getD b.1 [] = r := by rw [List.getD_eq_getElem?_getD, List.getElem?_eq_getElem hbl, hr]; rfl
              rw [hgd] at hless hcons
              have hrC : r ∈ Cov.rowsC ns := by rw [hr]; exact (List.mem_filter.1 (List.getElem_mem hbl)).1
              have hrl : r.length = ns.length := Cov.comboB_len ns r (Cov.rowB_combo ns r ((Cov.mem_rowsC ns r).1 hrC))
              have hrs : rows.length + 1 ≤ 1000000000 := by
                have h1 := congrArg List.length hgr
                have h2 := greedy_len (Cov.okRows ns F) (Cov.openL ns F tn).length (Cov.openL ns F tn)
                have h3 := set_small HNS.out hl (S := Cov.openL ns F tn) (List.Pairwise.filter _ (Cov.nodup_of_sorted (Cov.asked_sorted ns tn))) (fun c hc => (Cov.mem_asked.1 (List.mem_filter.1 hc).1).1)
                rw [List.length_append] at h1
                unfold Cov.coverRows at h1
                omega
              have kz : ∀ {b o}, X.heap[b]? = some o → Z.heap[b]? = some o := fun {b o} h => by
                have hlt := (Array.getElem?_eq_some_iff.1 h).1
                refine htz.2 _ _ ((yb.block b hlt).trans h) ?_
                rintro ⟨rfl, -⟩
                omega
              have z0 := kz x0
              have z1 := kz x1
              have z2 := kz x2
              have k7 := RowsV.turn (HAllX.out.keep (KeepS.below yb)) htz (fun b c t fr hb _ h => by have := hb.1; have := h.1; omega)
              obtain ⟨u, hcu, -, hu⟩ := k7.at hbl
              obtain ⟨xa', xc', exa, hoka, hcapa, hmaxa⟩ := k7.form
              cases exa
              rw [← hr] at hu
              obtain ⟨ua, uc, rfl, -, -, -⟩ := hu.form
              have hloX := HRV.out.lt
              have hownZ : OwnS Wb.heap.size (fun b => b < W5.heap.size ∧ b ≠ bm) Z (.slice ra rows.length rc) rows :=
                (HRV.out.kept (fun b hlt _ => yb.block b hlt)).turn htz (fun b' c t fr hb _ h => by have := (hloX _ hb).2; have := h.1; omega) (fun b' c t fr hb _ h => by have := hb.1; have := h.1; omega)
              have c0 := (one_cell hbox).1
              have c1 := (one_cell z2).1
              have hb0 : (0 : Int) ≤ b.1 := by omega
              have hb4 : (b.1 : Int) < (Cov.okRows ns F).length := by omega
              have huZ : IntsV (fun b => b < W5.heap.size ∧ b ≠ bm) Z (.slice ua r.length uc) r := IntsV.mono hu (fun b _ h => ⟨by have := h.1; omega, h.2⟩)
              have hEZ : ∀ b, b < Z.heap.size → (b < W5.heap.size ∧ b ≠ bm) → ¬ OB (.slice ra rows.length rc) b := fun b _ h1 h2 => by have := (hloX _ h2).1; have := h1.1; omega
              have hBZ : Wb.heap.size ≤ Z.heap.size := by omega
              have HZ := hid (And.intro z0 (And.intro z1 (And.intro z2 (And.intro hbox (And.intro htz (And.intro hmk' (And.intro hloX (And.intro hrC (And.intro hrl (And.intro hless hcons))))))))))
              have HRL := hid hrl
              have HR2 := hid hr
              clear z0 z1 z2 k7 kz hu hrC hr hbest hbox htz hmk' g1 g2 g3 g4 g5 g6 x0 x1 x2 y0 yb ys hbb hok hin hnd hcb hgr hs4 hs3 hs2 hs1 hbm q1 q2 q3 q4 q6 f5 hbe hne hless hcons hgd hrl hloX
              go_wp2_with (at_builtin; go_must (refine wpList_appS1 rfl _ _ rfl Tryd.app63 rfl hownZ hEZ rfl r huZ rfl hrs hBZ ?_))
              intro v8 w8 hown8 ht8 hn8
              obtain ⟨z0, z1, z2, hbox, htz, hmk', hloX, hrC, hrl, hless, hcons⟩ := HZ.out
              obtain ⟨y0, yb, ys, hbb⟩ := HY.out
              obtain ⟨g1, g2, g3, g4, g5, g6, x0, x1, x2⟩ := HX.out
              obtain ⟨hs4, hs3, hs2, hs1, hbm⟩ := HS4.out
              have q1 := HR6.out.2.size
              have q2 := H5.out.2.size
              have q3 := g1.1.size
              have q4 := htz.1.size
              have q6 := yb.size
              have q8 := ht8.size
              have f5 := H4.out.2.2.2.2.1
              have k8 : ∀ {b o}, Z.heap[b]? = some o → b < X.heap.size → b < Wb.heap.size ∨ b = bb ∨ X.heap.size ≤ b → w8.heap[b]? = some o := fun {b o} h _ hb => (ht8.block b (fun hob => by
                have h1 := hloX b hob
                rcases hb with h | h | h
                · omega
                · omega
                · omega) (Array.getElem?_eq_some_iff.1 h).1).trans h
              have r0 := k8 z0 (by omega) (.inl (by omega))
              have r1 := k8 z1 (by omega) (.inl (by omega))
              have r2 := k8 z2 (by omega) (.inl (by omega))
              have r3 : w8.heap[bb]? = _ := (ht8.block bb (fun hob => by have := hloX bb hob; omega) (Array.getElem?_eq_some_iff.1 hbox).1).trans hbox
              have T8 : TurnT (fun b o => OB (.slice ra rows.length rc) b ∧ ¬ book o) w.heap.size Z w8 := (TurnT.refl _ _ Z).grown (by omega) ht8 (fun b hb => ⟨by have := (hloX b hb).1; omega, fun o ho => ⟨hb, hownZ.obj b hb o ho⟩⟩)
              have m8 : MapS ns.length w8 bm SX := by
                obtain ⟨es, cl, ho⟩ := g2.obj
                have h1 : Z.heap[bm]? = some (.map es cl) := htz.2 _ _ ((yb.block bm g2.lt).trans ho) (by
                  rintro ⟨h, -⟩
                  omega)
                exact g2.keep ((k8 h1 (by omega) (.inl (by omega))).trans ho.symm)
              have k9 : RowsV (fun b => b < W4.heap.size ∧ b ≠ bm) w8 (.slice xa (Cov.okRows ns F).length xc) (Cov.okRows ns F) := by
                have k7 := RowsV.turn (HAllX.out.keep (KeepS.below yb)) htz (fun b c t fr hb _ h => by have := hb.1; have := h.1; omega)
                exact RowsV.turn k7 T8 (fun b c t fr hb _ h => by have := hb.1; have := (hloX b h.1).1; omega)
              have M8 := (hmk'.turn T8 (fun b o _ h => h.2)).mono q8
              have c0 := cell_of_row _ _ 0 _ _ (0, 0) r0
              have c1 := cell_of_row _ _ 1 _ _ (0, 0) r0
              have c2 := cell_of_row _ _ 2 _ _ (0, 0) r0
              simp only [List.getElem?_toArray, List.getElem?_cons_zero, List.getElem?_cons_succ] at c0 c1 c2
              obtain ⟨va1, va2, va3, rfl⟩ : ∃ a l c, v8 = .slice a l c := by obtain ⟨a, c', h, -⟩ := (hown8.sl (S := fun _ => True) (fun _ _ => trivial) (fun _ _ _ => trivial)).form; exact ⟨_, _, _, h⟩
              have HSets := hid (fun X => psets_any (.slice sa ns.length sc) (.slice fa F.length fc) (.int .i64 tn) ⟨_, _, _, rfl⟩ ⟨_, _, _, rfl⟩ ⟨_, rfl⟩ X)
              have hN8 : ∀ b, OB (.slice va1 va2 va3) b → Wb.heap.size ≤ b := fun b hb => (hown8.lt b hb).1
              have H8 := hid (And.intro r0 (And.intro r1 (And.intro r2 (And.intro r3 (And.intro T8 (And.intro m8 (And.intro k9 (And.intro M8 (And.intro hown8 hN8)))))))))
              clear z0 z1 z2 hbox htz hmk' hloX hrC hrl hless hcons y0 yb ys hbb g1 g2 g3 g4 g5 g6 x0 x1 x2 hs4 hs3 hs2 hs1 hbm q1 q2 q3 q4 q6 q8 f5 k8 r0 r1 r2 r3 T8 m8 k9 M8 hown8 ht8 hn8 hN8 hownZ huZ hEZ hBZ
              go_wp2_with fail
              refine (HSets.out _).mono ?_
              rintro e V ⟨rfl, hV⟩
              have hsV : V.heap.size = w8.heap.size + 1 := by rw [hV]; simp
              have vb : Below w8.heap.size w8 V := by rw [hV]; exact (Below.refl _ _).alloc (Nat.le_refl _) _
              have v3 : V.heap[w8.heap.size]? = some (.cells #[.slice sa ns.length sc, .slice fa F.length fc, .int .i64 tn] 57 (0, 0)) := by rw [hV]; exact heap_new _ _ rfl
              have hw8 : w.heap.size ≤ w8.heap.size := by
                have := (Array.getElem?_eq_some_iff.1 H8.out.1).1
                omega
              have HSeq : Hid (IterS (α := Nat) Tryd.prog w.heap.size V.heap.size 66 #[.pointer (some ⟨w8.heap.size, 0, none⟩)] (fun s => #[.int .u64 s]) (fun pre x _ => pre ++ [x] <+: Cov.masks ns.length tn) (fun b o => ¬ book o ∧ b = bm) (fun _ _ => False) (fun xs _ => xs = Cov.masks ns.length tn) V) :=
                hid (sets_iter ns.length tn hl htn w.heap.size V.heap.size w8.heap.size sa sc (.slice fa F.length fc) (fun b o => ¬ book o ∧ b = bm) (fun o h => by have h1 := h.2; have h2 := H8.out.2.2.2.2.2.1.lt; omega) V (by omega) v3)
              have HV := hid vb
              have hwV : w.heap.size ≤ V.heap.size := by omega
              clear hV vb v3 c0 c1 c2 HSets
              go_wp2
              rw [← wpIn_wide (n := 5)]
              refine wpIn_rangeS (α := Nat) (n0 := w.heap.size) (gf := 66) rfl (fn_enters Tryd.func66 (by kernel_rfl) rfl) (fun _ => rfl) HSeq.out hwV (fun _ _ h => h.elim) (fun _ _ h => h.1)
                (fun pre W => TurnT (fun b o => (¬ book o ∧ b = bm) ∨ isBook V.heap.size b o) w.heap.size V W ∧ ∃ S', MapS ns.length W bm S' ∧ ∀ c, c ∈ S' ↔ c ∈ SX ∧ c ∉ pre.map (Cov.maskC r)) (fun _ _ => False)
                (fun pre A B h ht => ?hI4) (fun _ _ _ h _ => h) (fun _ _ _ h _ => h) ?h04 ?hround4 ?hdone4 ?hstop4
              case hI4 =>
                obtain ⟨ht0, S', hm, hS'⟩ := h
                obtain ⟨es, cl, ho⟩ := hm.obj
                exact ⟨ht0.trans (ht.mono (fun b o h => h.elim False.elim .inr)), S', hm.keep ((ht.2 _ _ ho (by
                  rintro (h | h)
                  · exact h
                  · simp [isBook, book] at h)).trans ho.symm), hS'⟩
              case h04 => exact ⟨TurnT.refl _ _ _, SX, H8.out.2.2.2.2.2.1.keep (HV.out.block bm H8.out.2.2.2.2.2.1.lt), fun c => by simp⟩
              case hround4 =>
                rintro l pre s W hlr ⟨ht, S', hm, hS'⟩ hGp
                simp only [List.zip_toArray, List.zip_cons_cons, List.zip_nil_left]
                gi_wp2
                refine ⟨TurnT.refl _ _ _, fun U2 ht2 hs2 hl2 => ?_⟩
                have htx := ht.trans (ht2.mono (A' := fun b o => (¬ book o ∧ b = bm) ∨ isBook V.heap.size b o) (fun b o h => .inr h))
                obtain ⟨r0, r1, r2, r3, T8, m8, k9, M8, hown8, hN8⟩ := H8.out
                have q5 := htx.1.size
                have kU : ∀ {b c t}, w8.heap[b]? = some (.cells c t (0, 0)) → b ≠ bm → U2.heap[b]? = some (.cells c t (0, 0)) := fun h h1 => htx.2 _ _ ((HV.out.block _ (Array.getElem?_eq_some_iff.1 h).1).trans h) (by
                  rintro (h | h)
                  · exact h1 h.2
                  · simp [isBook, book] at h)
                have hbmc := m8.nocells
                have u0 := kU r1 (fun e => hbmc _ _ _ (e ▸ r1))
                have u1 := kU r2 (fun e => hbmc _ _ _ (e ▸ r2))
                have u2 := kU r3 (fun e => hbmc _ _ _ (e ▸ r3))
                have l0 := (Array.getElem?_eq_some_iff.1 u0).1
                have l1 := (Array.getElem?_eq_some_iff.1 u1).1
                have l2 := (Array.getElem?_eq_some_iff.1 u2).1
                have kR : RowsV (fun b => b < W4.heap.size ∧ b ≠ bm) U2 (.slice xa (Cov.okRows ns F).length xc) (Cov.okRows ns F) := RowsV.turn (k9.keep (KeepS.below HV.out)) htx (fun b c t fr hb _ h => by
                  rcases h with h | h
                  · exact hb.2 h.2
                  · simp [isBook, book] at h)
                obtain ⟨u, hcu, hbu, hu⟩ := kR.at hbl
                rw [← HR2.out] at hu
                obtain ⟨ua', uc', hue, -, -, -⟩ := hu.form
                rw [hue] at hcu hu
                have hm2 : MapS ns.length U2 bm S' := by
                  obtain ⟨es, cl, ho⟩ := hm.obj
                  exact hm.keep ((ht2.2 _ _ ho (by simp [isBook, book])).trans ho.symm)
                have c1 : ∀ Y : Held (fun W => Below U2.heap.size U2 W), Y.1.cell? ⟨W3.heap.size, 0, none⟩ = some (.map (some bm)) := fun Y => by rw [Y.2.cell (p := ⟨W3.heap.size, 0, none⟩) (by show W3.heap.size < _; omega), (one_cell u0).1]
                have c2 : ∀ Y : Held (fun W => Below U2.heap.size U2 W), Y.1.cell? ⟨W3.heap.size + 1, 0, none⟩ = some (.slice xa (Cov.okRows ns F).length xc) := fun Y => by rw [Y.2.cell (p := ⟨W3.heap.size + 1, 0, none⟩) (by show W3.heap.size + 1 < _; omega), (one_cell u1).1]
                have c3 : ∀ Y : Held (fun W => Below U2.heap.size U2 W), Y.1.cell? ⟨bb, 0, none⟩ = some (.int .i64 b.1) := fun Y => by rw [Y.2.cell (p := ⟨bb, 0, none⟩) (by show bb < _; omega), (one_cell u2).1]
                have c4 : ∀ Y : Held (fun W => Below U2.heap.size U2 W), Y.1.cell? ⟨slb xa, slo xa + b.1, none⟩ = some (.slice ua' r.length uc') := fun Y => by rw [Y.2.cell (p := ⟨slb xa, slo xa + b.1, none⟩) hbu, hcu]
                have hs2l : s < 2 ^ r.length := by rw [HRL.out]; exact List.mem_range.1 (List.mem_filter.1 (hGp.subset (by simp) : s ∈ Cov.masks ns.length tn)).1
                have hbU : Below w.heap.size w U2 := by
                  obtain ⟨z0, z1, z2, hbox, htz, -⟩ := HZ.out
                  obtain ⟨y0, yb, ys, hbb⟩ := HY.out
                  obtain ⟨hs4, hs3, hs2', hs1, hbm⟩ := HS4.out
                  have q1 := HR6.out.2.size
                  have q2 := H5.out.2.size
                  have q3 := HX.out.1.1.size
                  exact H4.out.1.trans ((H5.out.2.mono (by omega)).trans ((HR6.out.2.mono (by omega)).trans (HX.out.1.1.trans ((yb.mono (by omega)).trans (htz.1.trans (T8.1.trans ((HV.out.mono (by omega)).trans htx.1)))))))
                have HPart := hid (part_any r (by rw [HRL.out]; exact hl) s hs2l (.slice ua' r.length uc') _ (U2.drewN 1) (IntsV.keep hu (KeepS.below (below_drewN (Below.refl _ _) _))) ((HIn.out.2.2.below hbU HIn.out.2.2.lt).keep rfl))
                have HKey := hid (mask_keyC HNS.out HZ.out.2.2.2.2.2.2.2.1 s)
                have hwU : w.heap.size ≤ U2.heap.size := hbU.size
                have hbmw : w.heap.size ≤ bm := by have := H4.out.2.2.2.2.1; have := HS4.out; omega
                have HU := hid (And.intro htx (And.intro hm2 hS'))
                clear r0 r1 r2 r3 T8 m8 k9 M8 hown8 hN8 htx kU u0 u1 u2 kR hu hue hm2 hm hS' ht ht2 hs2 hl2 hlr hbU hs2l hGp q5 hbmc
                gi_wp2
                refine wpIn_region_heldT (r := some l) 7 [(true, 0), (true, 1), (true, 2), (true, 3), (true, 4), (true, 5), (false, 6)] (fun W => Below U2.heap.size U2 W) (by kernel_rfl) (by kernel_rfl) (by kernel_rfl) (below_drewN (Below.refl _ _) 1) ?_
                intro hne
                refine wpSteps_pre 6 (by decide) ?_
                simp only [List.take_succ_cons, List.take_zero]
                repeat (go_big_quiet_step (fail))
                refine wpQuiet_nil ?_
                refine wpSteps_one rfl ?_
                clear c1 c2 c3 c4 hne
                go_wp2_with fail
                refine HPart.out.mono ?_
                rintro e U3 ⟨rfl, hb3⟩
                have hb3' : Below U2.heap.size U2 U3 := (below_drewN (Below.refl _ _) 1).trans hb3
                obtain ⟨htx, hm2, hS'⟩ := HU.out
                obtain ⟨U4, hrun, hm4, ht4⟩ := (hm2.keep (hb3'.block _ hm2.lt)).drop hl HKey.out 0
                have HQ : Hid (QS (fun b o => ¬ book o ∧ b = bm) w.heap.size (fun pre W => TurnT (fun b o => (¬ book o ∧ b = bm) ∨ isBook V.heap.size b o) w.heap.size V W ∧ ∃ S', MapS ns.length W bm S' ∧ ∀ c, c ∈ S' ↔ c ∈ SX ∧ c ∉ pre.map (Cov.maskC r)) (fun (_ : List Nat) (_ : World) => False) (pre ++ [s]) U2 .normal { tmps := #[], defers := [] } U4) := by
                  have t1 : TurnT (fun b o => ¬ book o ∧ b = bm) w.heap.size U2 U4 := (TurnT.of_below hb3' hwU).trans ((TurnT.refl _ _ U3).grown (by have := hb3'.size; omega) ht4 (fun b hb => by
                    subst hb
                    refine ⟨hbmw, fun o ho => ⟨?_, rfl⟩⟩
                    obtain ⟨es, cl, ho'⟩ := (hm2.keep (hb3'.block _ hm2.lt)).obj
                    rw [ho'] at ho
                    cases ho
                    simp [book]))
                  refine hid ⟨t1, htx.trans (t1.mono (fun b o h => .inl h)), _, hm4, fun c => ?_⟩
                  rw [List.mem_filter, hS' c, decide_eq_true_eq, List.map_append, List.mem_append, List.map_cons, List.map_nil, List.mem_singleton, not_or, and_assoc]
                clear hb3 htx hm2 hS' hm4 ht4
                generalize keyV (Cov.maskC r s) = kv at *
                go_wp2
                refine qn_mk ⟨InHeld.of hb3', ?_⟩
                refine wpSteps_done ?_
                simp only [List.drop_succ_cons, List.drop_zero]
                clear hb3'
                gi_wp2
                exact HQ.out
              case hdone4 =>
                rintro D xs W hD rfl ⟨ht, S', hm, hS'⟩ hk
                obtain ⟨z0, z1, z2, hbox, htz, hmk', hloX, hrC, hrl, hless, hcons⟩ := HZ.out
                obtain ⟨y0, yb, ys, hbb⟩ := HY.out
                obtain ⟨g1, g2, g3, g4, g5, g6, x0, x1, x2⟩ := HX.out
                obtain ⟨hok, hin, hnd, hcb, hgr⟩ := HOp.out
                obtain ⟨r0, r1, r2, r3, T8, m8, k9, M8, hown8, hN8⟩ := H8.out
                obtain ⟨hs4, hs3, hs2, hs1, hbm⟩ := HS4.out
                have q1 := HR6.out.2.size
                have q2 := H5.out.2.size
                have q3 := g1.1.size
                have q4 := htz.1.size
                have q5 := ht.1.size
                have q6 := yb.size
                have q8 := T8.1.size
                have hrB := (Cov.mem_rowsC ns r).1 hrC
                have hmem : ∀ c, c ∈ S' ↔ c ∈ op.filter (fun c => !Cov.has r c) := fun c => by
                  rw [hS' c, g3 c, List.mem_filter]
                  constructor
                  · rintro ⟨h1, h2⟩
                    refine ⟨h1, ?_⟩
                    cases hh : Cov.has r c with
                    | false => rfl
                    | true => exact absurd ((Cov.mem_parts hrB tn c).2 ⟨(hcb c h1).1, (hcb c h1).2, hh⟩) h2
                  · rintro ⟨h1, h2⟩
                    refine ⟨h1, fun h3 => ?_⟩
                    rw [((Cov.mem_parts hrB tn c).1 h3).2.2] at h2
                    exact absurd h2 (by decide)
                have hTW : TurnT (fun b o => b = bm ∧ ¬ book o) w.heap.size Wb W := ⟨g1.1.trans ((yb.mono (by omega)).trans (htz.1.trans (T8.1.trans ((HV.out.mono (by omega)).trans ht.1)))), fun b' o hb ha => by
                  have hlt := (Array.getElem?_eq_some_iff.1 hb).1
                  have h1 := g1.2 b' o hb ha
                  have h2 := htz.2 b' o ((yb.block b' (Array.getElem?_eq_some_iff.1 h1).1).trans h1) (by rintro ⟨h, -⟩; omega)
                  have h3 := T8.2 b' o h2 (by rintro ⟨h, -⟩; have := (hloX _ h).1; omega)
                  exact ht.2 b' o ((HV.out.block b' (Array.getElem?_eq_some_iff.1 h3).1).trans h3) (by
                    rintro (h | h)
                    · exact ha ⟨h.2, h.1⟩
                    · have := h.1; omega)⟩
                have hownW : OwnS Wb.heap.size (fun b => b < W5.heap.size ∧ b ≠ bm) W (.slice va1 va2 va3) (rows ++ [r]) :=
                  (hown8.kept (fun b hlt _ => HV.out.block b hlt)).turn ht (fun b' c t fr hb _ h => by
                    have h1 := hN8 b' hb
                    rcases h with h | h
                    · have := h.2; omega
                    · simp [isBook, book] at h) (fun b' c t fr hb _ h => by
                    rcases h with h | h
                    · exact hb.2 h.2
                    · simp [isBook, book] at h)
                have hM : Marks w.heap.size W.heap.size ({ target := .collected D, args := #[] } :: ds3) W :=
                  ((M8.turn (A := fun _ _ => False) (n1 := w.heap.size) ⟨HV.out.mono hw8, fun b' o hb _ => (HV.out.block b' (Array.getElem?_eq_some_iff.1 hb).1).trans hb⟩ (fun _ _ _ h => h.elim)).turn ht (fun b' o hb h => by
                    rcases h with h | h
                    · exact h.1
                    · have := h.1; omega)).push (by omega) (by omega) hk
                have HFin : Hid (((∀ x ∈ rows ++ [r], x.length = ns.length) ∧ (∀ c ∈ op.filter (fun c => !Cov.has r c), Cov.inR (Cov.okRows ns F) c = true) ∧ (op.filter (fun c => !Cov.has r c)).Nodup ∧ (∀ c ∈ op.filter (fun c => !Cov.has r c), Cov.comboB ns c = true ∧ Cov.vals c = tn) ∧ (rows ++ [r]) ++ Cov.greedy (Cov.okRows ns F) (op.filter (fun c => !Cov.has r c)).length (op.filter (fun c => !Cov.has r c)) = Cov.coverRows ns F tn) ∧
                    GreedyI ns.length w.heap.size bm Wb (fun b => b < W5.heap.size ∧ b ≠ bm) (op.filter (fun c => !Cov.has r c)) (rows ++ [r]) (.slice va1 va2 va3) ({ target := .collected D, args := #[] } :: ds3) W) := by
                  refine hid ⟨⟨fun x hx => ?_, fun c hc => hin c (List.mem_filter.1 hc).1, hnd.filter _, fun c hc => hcb c (List.mem_filter.1 hc).1, ?_⟩, hTW, ⟨S', hm, hmem, Cov.len_of_mem S' _ hm.nodup (hnd.filter _) hmem⟩, hownW, hM⟩
                  · rcases List.mem_append.1 hx with hx | hx
                    · exact HRN.out x hx
                    · rw [List.mem_singleton.1 hx]; exact hrl
                  · rw [← hgr, hcons, List.append_assoc]; rfl
                have hless2 : (op.filter (fun c => !Cov.has r c)).length < k := by rw [← hok]; exact hless
                clear z0 z1 z2 hbox htz hmk' hloX hrC hrl hless hcons y0 yb ys hbb g1 g2 g3 g4 g5 g6 x0 x1 x2 hok hin hnd hcb hgr r0 r1 r2 r3 T8 m8 k9 M8 hown8 hN8 hs4 hs3 hs2 hs1 hbm q1 q2 q3 q4 q5 q6 q8 hrB hmem hTW hownW hM hm hS' ht hk
                go_wp2
                obtain ⟨⟨n1, n2, n3, n4, n5⟩, n6⟩ := HFin.out
                exact Handed.intro _ hless2 (hJ _ _ _ ⟨rfl, rfl, rfl, rfl, rfl, rfl, _, _, n1, rfl, n2, n3, n4, n5, n6⟩)
              case hstop4 => rintro D xs W hD h hk; exact h.elim

end Go.Proofs.YtjaejnacdanpkaaDoor
