/- left of the program. -/
import Derived.Test.YtjaejnacdanpkaaDoorB41
import Derived.Carry
namespace Go.Proofs.YtjaejnacdanpkaaDoor
open Go.RowKit

attribute [local go_sem] Oper.semAt_some

/-- What stands between two rounds: the list so far, in blocks of R. -/
structure OutI (n0 A2 : Nat) (V : World) (R : Nat → Prop) (L : List (List Int)) (W : World) : Prop where
  below : Below n0 V W
  rows : ∃ va, W.heap[A2]? = some (.cells #[va] 29 (0, 0)) ∧ (∀ b, OB va b → R b) ∧ OwnE 53 V.heap.size (fun b => R b ∧ b < W.heap.size ∧ ¬ OB va b) W va L

theorem OutI.turn {n0 A2 : Nat} {V : World} {R : Nat → Prop} {L : List (List Int)} {W W' : World} (h : OutI n0 A2 V R L W) {A : Nat → Obj → Prop} (ht : TurnT A n0 W W') (h2 : ∀ c t fr, ¬ A A2 (.cells c t fr))
    (hO : ∀ b c t fr, R b → b < W.heap.size → ¬ A b (.cells c t fr)) : OutI n0 A2 V R L W' := by
  obtain ⟨va, hb, hva, hr⟩ := h.rows
  refine ⟨h.below.trans ht.1, va, ht.2 _ _ hb (h2 _ _ _), hva, ?_⟩
  exact (hr.turn ht (fun b c t fr hb1 hlt => hO b c t fr (hva b hb1) hlt) (fun b c t fr hb1 hlt => hO b c t fr hb1.1 hlt)).mono (fun b _ hb => ⟨hb.1, Nat.lt_of_lt_of_le hb.2.1 ht.1.size, hb.2.2⟩)
theorem OutI.below' {n0 A2 : Nat} {V : World} {R : Nat → Prop} {L : List (List Int)} {W W' : World} (h : OutI n0 A2 V R L W) (hb : Below W.heap.size W W') (hn : n0 ≤ W.heap.size) : OutI n0 A2 V R L W' := by
  obtain ⟨va, hv, hva, hr⟩ := h.rows
  have k : ∀ {b o}, W.heap[b]? = some o → W'.heap[b]? = some o := fun hb' => (hb.block _ (Array.getElem?_eq_some_iff.1 hb').1).trans hb'
  exact ⟨h.below.trans (hb.mono hn), va, k hv, hva, (hr.kept (fun b hlt _ => hb.block b hlt)).mono (fun b _ g => ⟨g.1, Nat.lt_of_lt_of_le g.2.1 hb.size, g.2.2⟩)⟩
theorem OutI.mono {n0 A2 : Nat} {V : World} {R R' : Nat → Prop} {L : List (List Int)} {W : World} (h : OutI n0 A2 V R L W) (hR : ∀ b, b < W.heap.size → R b → R' b) : OutI n0 A2 V R' L W := by
  obtain ⟨va, hv, hva, hr⟩ := h.rows
  exact ⟨h.below, va, hv, fun b hb => hR b (hr.lt b hb).2 (hva b hb), hr.mono (fun b hlt g => ⟨hR b hlt g.1, g.2⟩)⟩

theorem combo_keyC : ∀ (ns : List Nat) (_hn : ∀ n ∈ ns, n ≤ 8) (c : List Int), Cov.comboB ns c = true → ∀ x ∈ c, -1 ≤ x ∧ x ≤ 100
  | [], _, [], _, x, hx => by simp at hx
  | n :: ns, hn, y :: c, h, x, hx => by
    simp only [Cov.comboB, Bool.and_eq_true, decide_eq_true_eq] at h
    rcases List.mem_cons.1 hx with rfl | hx
    · have := hn n (List.mem_cons_self ..)
      omega
    · exact combo_keyC ns (fun m hm => hn m (List.mem_cons_of_mem _ hm)) c h.2 x hx
  | [], _, _ :: _, h, _, _ => by simp [Cov.comboB] at h
  | _ :: _, _, [], h, _, _ => by simp [Cov.comboB] at h

theorem Tryd.app29 : AppT Tryd.prog 29 53 1 24 := appT_mk (z := .slice none 0 0) (by kernel_rfl) (by kernel_rfl) rfl (by omega) (by omega)

/-- What a set's combinations add to the list. -/
def addM (ns : List Nat) (S : List (List Int)) (s : Nat) : List (List Int) := (Cov.fillS (Cov.openM ns s)).filter fun c => !decide (c ∈ S)

theorem listM_small (ns : List Nat) (hns : ∀ n ∈ ns, n ≤ 8) (hl : ns.length ≤ 8) (t : Nat) (p : List Int → Bool) : (Cov.listM ns t p).length ≤ 43046721 :=
  set_small hns hl (Cov.nodup_listM ns t p) (fun c hc => by
    have := (List.mem_filter.1 (Cov.mem_listM.1 hc)).1
    exact (Cov.mem_asked.1 this).1)
theorem left_small (ns : List Nat) (hns : ∀ n ∈ ns, n ≤ 8) (hl : ns.length ≤ 8) (t : Nat) (S : List (List Int)) {pre : List Nat} {s : Nat} {pre2 : List (List Int)} {c : List Int} (h1 : pre ++ [s] <+: Cov.masks ns.length t) (h2 : pre2 ++ [c] <+: Cov.fillS (Cov.openM ns s)) :
    (pre.flatMap (addM ns S) ++ pre2.filter (fun c => !decide (c ∈ S))).length ≤ 43046721 := by
  have hm := listM_small ns hns hl t (fun c => decide (c ∈ S))
  obtain ⟨r, hr⟩ := h1
  have e : Cov.listM ns t (fun c => decide (c ∈ S)) = pre.flatMap (addM ns S) ++ addM ns S s ++ r.flatMap (addM ns S) := by
    show (Cov.masks ns.length t).flatMap (addM ns S) = _
    rw [← hr]
    simp
  have h3 : (pre2.filter (fun c => !decide (c ∈ S))).length ≤ (addM ns S s).length := by
    have := ((List.prefix_append pre2 [c]).trans h2).filter (fun c => !decide (c ∈ S))
    exact this.length_le
  rw [e] at hm
  simp only [List.length_append] at hm ⊢
  omega

set_option maxRecDepth 100000 in
set_option maxHeartbeats 4000000 in
theorem pleft_any (ns : List Nat) (hns : ∀ n ∈ ns, n ≤ 8) (hl0 : 0 < ns.length) (hl : ns.length ≤ 8) (tn : Nat) (htn : tn ≤ 100) (S : List (List Int)) (bm : Nat) (sa : Option Addr) (sc : Nat) (fa : Option Addr) (fl fc : Nat) (Sz : Nat → Prop) (w : World)
    (hsz : IntsV Sz w (.slice sa ns.length sc) (szI ns)) (hm : MapS ns.length w bm S) :
    Calls Tryd.prog 34 #[.agg #[.slice sa ns.length sc, .slice fa fl fc, .int .i64 tn], .map (some bm)] w fun e w' => ∃ x, e = .returned x ∧
      RowsV (w.heap.size ≤ ·) w' x ((Cov.asked ns tn).filter fun c => !decide (c ∈ S)) ∧ Below w.heap.size w w' := by
  have hsz0 : IntsV (· < w.heap.size) w (.slice sa ns.length sc) (szI ns) := IntsV.mono hsz (fun b h _ => h)
  obtain ⟨sa', sc', es, hoks, hcaps, hmaxs⟩ := hsz.form
  rw [List.length_map] at es hoks hcaps
  cases es
  obtain ⟨W1, hW1⟩ : ∃ W1, W1 = ((w.alloc (.cells #[.slice sa ns.length sc, .slice fa fl fc, .int .i64 tn] 57)).alloc (.cells #[.map (some bm)] 59)).alloc (.cells #[.slice none 0 0] 29) := ⟨_, rfl⟩
  have hb1 : Below w.heap.size w W1 := by rw [hW1]; exact (((Below.refl _ _).alloc (Nat.le_refl _) _).alloc (by simp) _).alloc (by simp; omega) _
  have hs1 : W1.heap.size = w.heap.size + 3 := by rw [hW1]; simp
  have p0 : W1.heap[w.heap.size]? = some (.cells #[.slice sa ns.length sc, .slice fa fl fc, .int .i64 tn] 57 (0, 0)) := by rw [hW1]; exact heap_step _ (heap_step _ (heap_new _ _ rfl))
  have p1 : W1.heap[w.heap.size + 1]? = some (.cells #[.map (some bm)] 59 (0, 0)) := by rw [hW1]; exact heap_step _ (heap_new _ _ (by simp))
  have p2 : W1.heap[w.heap.size + 2]? = some (.cells #[.slice none 0 0] 29 (0, 0)) := by rw [hW1]; exact heap_new _ _ (by simp)
  have c0 := cell_of_row _ _ 0 _ _ (0, 0) p0
  have c1 := cell_of_row _ _ 1 _ _ (0, 0) p0
  have c2 := cell_of_row _ _ 2 _ _ (0, 0) p0
  simp only [List.getElem?_toArray, List.getElem?_cons_zero, List.getElem?_cons_succ] at c0 c1 c2
  have HSets := hid (fun X => psets_any (.slice sa ns.length sc) (.slice fa fl fc) (.int .i64 tn) ⟨_, _, _, rfl⟩ ⟨_, _, _, rfl⟩ ⟨_, rfl⟩ X)
  have H1 := hid (And.intro hb1 (And.intro hs1 (And.intro p0 (And.intro p1 p2))))
  have HIn := hid (And.intro hsz0 hm)
  have HNS := hid hns
  clear hsz hsz0 hm hb1 p0 p1 p2 hns hs1
  rw [← callsIn_wide (n := 5)]
  refine callsIn_of_wp_marks Tryd.func34 rfl trivial ?_ rfl
  simp only [Tryd.ntmps34, List.size_toArray, List.length_cons, List.length_nil, Nat.reduceAdd, Nat.reduceSub, Array.replicate_succ, Array.replicate_zero, List.push_toArray, List.append_toArray, List.nil_append, List.cons_append]
  rw [wpIn_wide]
  go_wp2_with fail
  refine (HSets.out _).mono ?_
  rintro e V ⟨rfl, hV⟩
  rw [← hW1] at hV
  obtain ⟨hb1, hs1, p0, p1, p2⟩ := H1.out
  have hbV : Below w.heap.size w V := hb1.trans (by rw [hV]; exact (Below.refl _ _).alloc (by omega) _)
  have hsV : V.heap.size = w.heap.size + 4 := by rw [hV]; simp [hs1]
  have kV : ∀ {b o}, W1.heap[b]? = some o → V.heap[b]? = some o := fun h => by rw [hV]; exact heap_step _ h
  have v0 := kV p0
  have v1 := kV p1
  have v2 := kV p2
  have v3 : V.heap[w.heap.size + 3]? = some (.cells #[.slice sa ns.length sc, .slice fa fl fc, .int .i64 tn] 57 (0, 0)) := by rw [hV]; exact heap_new _ _ hs1.symm
  have HSeq : Hid (IterS (α := Nat) Tryd.prog (w.heap.size + 2) V.heap.size 66 #[.pointer (some ⟨w.heap.size + 3, 0, none⟩)] (fun s => #[.int .u64 s]) (fun pre x _ => pre ++ [x] <+: Cov.masks ns.length tn) (fun b o => ¬ book o ∧ (b = w.heap.size + 2 ∨ V.heap.size ≤ b)) (fun _ _ => False) (fun xs _ => xs = Cov.masks ns.length tn) V) :=
    hid (sets_iter ns.length tn hl htn (w.heap.size + 2) V.heap.size (w.heap.size + 3) sa sc (.slice fa fl fc) (fun b o => ¬ book o ∧ (b = w.heap.size + 2 ∨ V.heap.size ≤ b)) (fun o h => by have := h.2; omega) V (by omega) v3)
  have HI0 : Hid (OutI (w.heap.size + 2) (w.heap.size + 2) V (V.heap.size ≤ ·) [] V) := hid ⟨Below.refl _ _, _, v2, fun b hb => by simp [OB, Value.ownBlock] at hb, OwnE.nil _ _ _ _⟩
  have HV := hid (And.intro hbV (And.intro v0 v1))
  clear kV hV hb1 hs1 p0 p1 p2 hbV v0 v1 v2 v3 hW1 c0 c1 c2 H1 HSets
  go_wp2
  rw [← wpIn_wide (n := 5)]
  refine wpIn_rangeS (α := Nat) (n0 := w.heap.size + 2) (gf := 66) rfl (fn_enters Tryd.func66 (by kernel_rfl) rfl) (fun _ => rfl) HSeq.out (by omega) (fun _ _ h => h.elim) (fun _ _ h => h.1)
    (fun pre W => OutI (w.heap.size + 2) (w.heap.size + 2) V (V.heap.size ≤ ·) (pre.flatMap (addM ns S)) W) (fun _ _ => False)
    (fun pre A B h ht => h.turn ht (fun c t fr => by simp [isBook, book]) (fun b c t fr _ _ => by simp [isBook, book])) (fun _ _ _ h _ => h) (fun _ _ _ h _ => h) HI0.out ?hround ?hdone ?hstop
  case hround =>
    rintro l pre s W hlr hI hGp
    simp only [List.zip_toArray, List.zip_cons_cons, List.zip_nil_left]
    have hWs := hI.below.size
    gi_wp2
    refine ⟨(TurnT.refl _ _ _).alloc (by omega) _, fun W2 ht2 hs2 hl2 => ?_⟩
    have hturn : TurnT (isBook V.heap.size) (w.heap.size + 2) W W2 := ((TurnT.refl _ _ _).alloc (by omega) _).trans ht2
    have rset : W2.heap[W.heap.size]? = some (.cells #[.int .u64 s] 67 (0, 0)) := ht2.2 _ _ (World.alloc_heap_new _ _) (by simp [isBook, book])
    have hI2 : OutI (w.heap.size + 2) (w.heap.size + 2) V (fun b => V.heap.size ≤ b ∧ b < W.heap.size) (pre.flatMap (addM ns S)) W2 :=
      (hI.mono (fun b h1 h2 => ⟨h2, h1⟩)).turn hturn (fun c t fr => by simp [isBook, book]) (fun b c t fr _ _ => by simp [isBook, book])
    have hsm : s ∈ Cov.masks ns.length tn := hGp.subset (by simp)
    have HGP := hid hGp
    have hsl : s < 2 ^ ns.length := List.mem_range.1 (List.mem_filter.1 hsm).1
    have hs256 : s < 256 := Nat.lt_of_lt_of_le hsl (Nat.le_trans (Nat.pow_le_pow_right (by omega) hl) (by decide))
    obtain ⟨hbV, v0, v1⟩ := HV.out
    have r0 : W2.heap[w.heap.size]? = _ := (hI2.below.block _ (by omega)).trans v0
    have hW2s : W2.heap.size = W.heap.size + 1 := by rw [hs2]; simp
    have c0 : ∀ X : Held (fun W => Below W2.heap.size W2 W), X.1.cell? ⟨w.heap.size, 0, none⟩ = some (.slice sa ns.length sc) := fun X => by rw [X.2.cell (p := ⟨w.heap.size, 0, none⟩) (by show w.heap.size < _; omega), cell_of_row _ _ 0 _ _ (0, 0) r0]; rfl
    have c1 : ∀ X : Held (fun W => Below W2.heap.size W2 W), X.1.cell? ⟨w.heap.size, 1, none⟩ = some (.slice fa fl fc) := fun X => by rw [X.2.cell (p := ⟨w.heap.size, 1, none⟩) (by show w.heap.size < _; omega), cell_of_row _ _ 1 _ _ (0, 0) r0]; rfl
    have c2 : ∀ X : Held (fun W => Below W2.heap.size W2 W), X.1.cell? ⟨w.heap.size, 2, none⟩ = some (.int .i64 tn) := fun X => by rw [X.2.cell (p := ⟨w.heap.size, 2, none⟩) (by show w.heap.size < _; omega), cell_of_row _ _ 2 _ _ (0, 0) r0]; rfl
    have HEmp := hid (empty_any ns.length hl0 hl sa sc (.slice fa fl fc) (.int .i64 tn) ⟨_, _, _, rfl⟩ ⟨_, rfl⟩ (W2.drewN 1))
    have HFill := hid (fun X v (Sv : Nat → Prop) (h : IntsV Sv X v (emptyC ns.length)) => fill_any (emptyC ns.length) (by simpa using hl0) (by simpa using hl) sa ns.length sc (.slice fa fl fc) (.int .i64 tn) v (.func (.func 60) #[] #[.pointer (some ⟨W.heap.size, 0, none⟩)]) ⟨_, _, _, rfl⟩ ⟨_, rfl⟩ ⟨_, _, _, rfl⟩ Sv X h)
    have H2 := hid (And.intro hI2 (And.intro rset (And.intro hsl (And.intro hs256 hl2))))
    have HW2s := hid hW2s
    clear hW2s hI hGp hlr ht2 hs2 hl2 hturn rset hI2 hsm hsl hs256 hbV v0 v1 r0
    gi_wp2
    refine wpIn_region_heldT (r := some l) 4 [(true, 0), (true, 1), (true, 3), (false, 2)] (fun W => Below W2.heap.size W2 W) (by kernel_rfl) (by kernel_rfl) (by kernel_rfl) (below_drewN (Below.refl _ _) 1) ?_
    intro hne
    refine wpSteps_pre 2 (by decide) ?_
    simp only [List.take_succ_cons, List.take_zero]
    repeat (go_big_quiet_step (fail))
    refine wpQuiet_nil ?_
    refine wpSteps_quiet rfl ?_
    repeat (go_big_quiet_step (fail))
    refine wpQuiet_nil ?_
    refine wpSteps_one rfl ?_
    clear c0 c1 c2 hne
    go_wp2_with fail
    refine HEmp.out.mono ?_
    rintro e X3 ⟨ev, rfl, hev, hb3⟩
    obtain ⟨ea, el, ec, rfl⟩ : ∃ a l c, ev = .slice a l c := by obtain ⟨a, c', h, -⟩ := hev.sl.form; exact ⟨_, _, _, h⟩
    have hb3' : Below W2.heap.size W2 X3 := (below_drewN (Below.refl _ _) 1).trans hb3
    have HF3 := hid (HFill.out X3 _ _ hev.sl)
    have HB3 := hid hb3'
    clear hev hb3 HEmp HFill
    go_wp2
    refine qn_mk ⟨InHeld.of hb3', ?_⟩
    refine wpSteps_done ?_
    simp only [List.drop_succ_cons, List.drop_zero]
    clear hb3'
    gi_wp2_with fail
    refine ⟨trivial, rfl, callsIn_wideR.2 (HF3.out.mono ?_)⟩
    rintro e V4 ⟨bN, bO, bF, bP, g, cap, rfl, q1, q2, q3, q4⟩
    obtain ⟨hI2, rset, hsl, hs256, hl2⟩ := H2.out
    have hB4 : Below W2.heap.size W2 V4 := HB3.out.trans (q3.mono HB3.out.size)
    have hW2s := HW2s.out
    have hX3s := HB3.out.size
    have hV4s := q3.size
    simp only [emptyC, List.length_replicate] at q1 q2
    have hg4 : g < V4.heap.size := by
      obtain ⟨c', hc'⟩ := q2.obj
      exact (Array.getElem?_eq_some_iff.1 hc').1
    have lN := (Array.getElem?_eq_some_iff.1 q1.hN).1
    have lO := (Array.getElem?_eq_some_iff.1 q1.hO).1
    have lF := (Array.getElem?_eq_some_iff.1 q1.hF).1
    have lP := (Array.getElem?_eq_some_iff.1 q1.hP).1
    have hI4 := hI2.below' hB4 (by omega)
    have hlV : ∃ r, V4.heap[l]? = some (.loop r) := by
      obtain ⟨r', hr'⟩ := hl2
      exact ⟨r', (hB4.block _ (Array.getElem?_eq_some_iff.1 hr').1).trans hr'⟩
    have rset4 : V4.heap[W.heap.size]? = some (.cells #[.int .u64 s] 67 (0, 0)) := (hB4.block _ (by omega)).trans rset
    have hbV4 : Below w.heap.size w V4 := HV.out.1.trans (hI4.below.mono (by omega))
    have HIter : Hid (IterS (α := List Int) Tryd.prog (w.heap.size + 2) V4.heap.size 77 #[.pointer (some ⟨bF, 0, none⟩)] (fun _ => #[.slice (some ⟨g, 0, none⟩) ns.length cap])
        (fun pre x W => pre ++ [x] <+: Cov.fillS (Cov.openM ns s) ∧ NowIs g ns.length cap W x) (fun b o => ¬ book o ∧ (b = w.heap.size + 2 ∨ (V.heap.size ≤ b ∧ b < W.heap.size) ∨ V4.heap.size ≤ b)) (fun b o => b = g ∧ ¬ book o) (fun xs _ => xs = Cov.fillS (Cov.openM ns s)) V4) := by
      have h := fill_iter (Cov.openM ns s) (fun o ho => by
          have : o.1 ∈ (Cov.openM ns s).map (·.1) := List.mem_map.2 ⟨o, ho, rfl⟩
          rw [openM_fst] at this
          exact HNS.out _ this) (by rw [openM_len]; exact hl) (w.heap.size + 2) V4.heap.size bN bO bF bP g cap 60 #[.pointer (some ⟨W.heap.size, 0, none⟩)] sa sc (.slice fa fl fc) (.int .i64 tn) V4 (by omega) (by omega)
        (fun b o => ¬ book o ∧ (b = w.heap.size + 2 ∨ (V.heap.size ≤ b ∧ b < W.heap.size) ∨ V4.heap.size ≤ b)) (fun b o hb h => by have := h.2; omega)
        (by rw [openM_len]; exact q1) (by rw [openM_len, openM_snd]; exact q2) (by rw [openM_len, openM_fst]; exact IntsV.mono (HIn.out.1.keep (KeepS.of_below hbV4 (fun _ h => h))) (fun b _ h => by have : b < w.heap.size := h; omega))
        (fn_enters Tryd.func60 (by kernel_rfl) rfl) (fun X ht i hi => by
          rw [openM_at ns s i hi]
          rw [openM_len] at hi
          refine left1_any s i hs256 (by omega) W.heap.size X (ht.2 _ _ rset4 ?_)
          rintro ((h | h) | h)
          · have := h.2; omega
          · simp [isBook, book] at h
          · omega)
      rw [openM_len] at h
      exact hid h
    have HI4 : Hid (OutI (w.heap.size + 2) (w.heap.size + 2) V (fun b => (V.heap.size ≤ b ∧ b < W.heap.size) ∨ V4.heap.size ≤ b) (pre.flatMap (addM ns S) ++ [].filter (fun c => !decide (c ∈ S))) V4) := hid (by simpa using hI4.mono (fun b _ h => .inl h))
    have HB4 := hid hB4
    have hgW : W.heap.size < g := by omega
    clear hI2 rset hsl hs256 hl2 hB4 hX3s hV4s q1 q2 q3 q4 lN lO lF lP hI4 rset4 hbV4 HF3 HB3 hW2s
    have hV4V : w.heap.size + 2 ≤ V4.heap.size := by omega
    gi_wp2
    refine wpIn_rangeN (α := List Int) (n0 := w.heap.size + 2) (gf := 77) hlV rfl (fn_enters Tryd.func77 (by kernel_rfl) rfl) (fun _ => rfl) HIter.out hV4V (fun _ _ h => h.2) (fun _ _ h => h.1)
      (fun pre2 X => TurnT (fun b o => ((¬ book o ∧ (b = w.heap.size + 2 ∨ (V.heap.size ≤ b ∧ b < W.heap.size) ∨ V4.heap.size ≤ b)) ∨ (b = g ∧ ¬ book o)) ∨ isBook V4.heap.size b o) (w.heap.size + 2) V4 X ∧ OutI (w.heap.size + 2) (w.heap.size + 2) V (fun b => (V.heap.size ≤ b ∧ b < W.heap.size) ∨ V4.heap.size ≤ b) (pre.flatMap (addM ns S) ++ pre2.filter (fun c => !decide (c ∈ S))) X) (fun _ _ => False)
      (fun pre2 A B h ht => ⟨h.1.trans (ht.mono (fun b o h => h.elim (fun h => .inl (.inr h)) .inr)), h.2.turn ht (fun c t fr h => by
        rcases h with h | h
        · have := h.1; omega
        · simp [isBook, book] at h) (fun b c t fr hR _ h => by
        rcases h with h | h
        · have := h.1; omega
        · simp [isBook, book] at h)⟩) (fun _ _ _ h _ => h) (fun _ _ _ h _ => h) ⟨TurnT.refl _ _ _, HI4.out⟩ ?hr2 ?hd2 (fun _ _ h => h.elim)
    case hr2 =>
      rintro l2 pre2 c X hl3 ⟨ht, hO⟩ ⟨hGc, hGn⟩
      simp only [List.zip_toArray, List.zip_cons_cons, List.zip_nil_left]
      gi_wp2
      refine ⟨TurnT.refl _ _ _, fun X2 ht2 hs2 hl4 => ?_⟩
      have htx := ht.trans (ht2.mono (A' := (fun b o => ((¬ book o ∧ (b = w.heap.size + 2 ∨ (V.heap.size ≤ b ∧ b < W.heap.size) ∨ V4.heap.size ≤ b)) ∨ (b = g ∧ ¬ book o)) ∨ isBook V4.heap.size b o)) (fun b o h => .inr h))
      have hO2 := hO.turn ht2 (fun c t fr => by simp [isBook, book]) (fun b c t fr _ _ => by simp [isBook, book])
      have hX2s : V4.heap.size ≤ X2.heap.size := htx.1.size
      have hn2 : NowIs g ns.length cap X2 c := hGn.keep (by
        obtain ⟨c', hc'⟩ := hGn.obj
        rw [ht2.2 _ _ hc' (by simp [isBook, book]), hc'])
      have hcb : Cov.comboB ns c = true := ((Cov.mem_fillM ns s H2.out.2.2.1 c).1 (hGc.subset (by simp))).1
      have hcl := Cov.comboB_len ns c hcb
      have hkey : KeyC ns.length c := ⟨hcl, combo_keyC ns HNS.out c hcb⟩
      have hbX : Below w.heap.size w X2 := HV.out.1.trans (hO2.below.mono (by omega))
      have x1 : X2.heap[w.heap.size + 1]? = _ := (hO2.below.block _ (by omega)).trans HV.out.2.2
      have xm : MapS ns.length X2 bm S := HIn.out.2.keep (hbX.block _ HIn.out.2.lt)
      have c1 : ∀ Y : Held (fun W => Below X2.heap.size X2 W), Y.1.cell? ⟨w.heap.size + 1, 0, none⟩ = some (.map (some bm)) := fun Y => by rw [Y.2.cell (p := ⟨w.heap.size + 1, 0, none⟩) (by show w.heap.size + 1 < _; omega), (one_cell x1).1]
      have HKey := hid (keyOf_any c (by omega) (.slice (some ⟨g, 0, none⟩) ns.length cap) (· = g) (X2.drewN 1) (IntsV.keep hn2.ints (KeepS.below (below_drewN (Below.refl _ _) _))))
      have HX := hid (And.intro htx (And.intro hO2 (And.intro hn2 (And.intro xm hkey))))
      have HCL := hid hcl
      have hsm : (pre.flatMap (addM ns S) ++ pre2.filter (fun c => !decide (c ∈ S))).length + 1 ≤ 1000000000 := by
        have := left_small ns HNS.out hl tn S HGP.out hGc
        omega
      have HSM := hid hsm
      clear hO hGc hGn ht ht2 hs2 hl4 hl3 htx hO2 hn2 hcb hcl hkey hbX x1 xm hsm
      gi_wp2
      refine wpIn_region_heldT (r := some l2) 3 [(true, 0), (true, 1), (false, 2)] (fun W => Below X2.heap.size X2 W) (by kernel_rfl) (by kernel_rfl) (by kernel_rfl) (below_drewN (Below.refl _ _) 1) ?_
      intro hne
      refine wpSteps_pre 2 (by decide) ?_
      simp only [List.take_succ_cons, List.take_zero]
      repeat (go_big_quiet_step (fail))
      refine wpQuiet_nil ?_
      refine wpSteps_one rfl ?_
      clear c1 hne
      go_wp2_with fail
      refine HKey.out.mono ?_
      rintro e X3 ⟨rfl, hb3⟩
      have hb3' : Below X2.heap.size X2 X3 := (below_drewN (Below.refl _ _) 1).trans hb3
      obtain ⟨htx, hO2, hn2, xm, hkey⟩ := HX.out
      have xm3 : MapS ns.length X3 bm S := xm.keep (hb3'.block _ xm.lt)
      have hlook := xm3.look hl hkey
      have HB3 := hid hb3'
      clear hb3 htx hO2 hn2 xm hkey xm3 HKey
      by_cases hcS : c ∈ S
      · have hd : decide (c ∈ S) = true := decide_eq_true hcS
        rw [hd] at hlook
        have HQ : Hid (QS (fun b o => ¬ book o ∧ (b = w.heap.size + 2 ∨ (V.heap.size ≤ b ∧ b < W.heap.size) ∨ V4.heap.size ≤ b)) (w.heap.size + 2) (fun pre2 X => TurnT (fun b o => ((¬ book o ∧ (b = w.heap.size + 2 ∨ (V.heap.size ≤ b ∧ b < W.heap.size) ∨ V4.heap.size ≤ b)) ∨ (b = g ∧ ¬ book o)) ∨ isBook V4.heap.size b o) (w.heap.size + 2) V4 X ∧ OutI (w.heap.size + 2) (w.heap.size + 2) V (fun b => (V.heap.size ≤ b ∧ b < W.heap.size) ∨ V4.heap.size ≤ b) (pre.flatMap (addM ns S) ++ pre2.filter (fun c => !decide (c ∈ S))) X) (fun (_ : List (List Int)) (_ : World) => False) (pre2 ++ [c]) X2 .normal { tmps := #[], defers := [] } X3) := by
          obtain ⟨htx, hO2, hn2, xm, hkey⟩ := HX.out
          refine hid ⟨TurnT.of_below HB3.out (by omega), htx.trans (TurnT.of_below HB3.out (by omega)), ?_⟩
          have e : (pre.flatMap (addM ns S) ++ (pre2 ++ [c]).filter (fun c => !decide (c ∈ S))) = (pre.flatMap (addM ns S) ++ pre2.filter (fun c => !decide (c ∈ S))) := by rw [List.filter_append]; simp [hcS]
          show OutI _ _ _ _ (pre.flatMap (addM ns S) ++ (pre2 ++ [c]).filter (fun c => !decide (c ∈ S))) _
          rw [e]
          exact hO2.below' HB3.out (by omega)
        clear hd hcS
        generalize keyV c = kv at *
        go_wp2
        refine qn_mk ⟨InHeld.of hb3', ?_⟩
        refine wpSteps_done ?_
        simp only [List.drop_succ_cons, List.drop_zero]
        clear hb3'
        gi_wp2
        exact HQ.out
      · have hd : decide (c ∈ S) = false := decide_eq_false hcS
        rw [hd] at hlook
        have HNS2 := hid hcS
        clear hd hcS
        obtain ⟨kv, hkv⟩ : ∃ kv, kv = keyV c := ⟨_, rfl⟩
        rw [← hkv] at hlook ⊢
        clear hkv
        go_wp2
        refine qn_mk ⟨InHeld.of hb3', ?_⟩
        refine wpSteps_done ?_
        simp only [List.drop_succ_cons, List.drop_zero]
        clear hb3'
        gi_wp2
        obtain ⟨htx, hO2, hn2, xm, hkey⟩ := HX.out
        have hb3 := HB3.out
        have hX3s := hb3.size
        have hO3 := hO2.below' hb3 (by omega)
        obtain ⟨va, p3, hRa, hva⟩ := hO3.rows
        obtain ⟨aa, al, ac, rfl⟩ : ∃ a l c, va = .slice a l c := by obtain ⟨a, c', h, -⟩ := (hva.sl (S := fun _ => True) (fun _ _ => trivial) (fun _ _ _ => trivial)).form; exact ⟨_, _, _, h⟩
        have hn3 : NowIs g ns.length cap X3 c := hn2.keep (by
          obtain ⟨c', hc'⟩ := hn2.obj
          exact hb3.block _ (Array.getElem?_eq_some_iff.1 hc').1)
        have c3 : ∀ Y : Held (fun W => Below X3.heap.size X3 W), Y.1.cell? ⟨w.heap.size + 1 + 1, 0, none⟩ = some (.slice aa al ac) := fun Y => by show Y.1.cell? ⟨w.heap.size + 2, 0, none⟩ = _; rw [Y.2.cell (p := ⟨w.heap.size + 2, 0, none⟩) (by show w.heap.size + 2 < _; omega), (one_cell p3).1]
        have HCl := hid (clone_any c (by rw [HCL.out]; omega) (.slice (some ⟨g, 0, none⟩) ns.length cap) (· = g) (X3.drewN 1) (IntsV.keep hn3.ints (KeepS.below (below_drewN (Below.refl _ _) _))))
        have H3 := hid (And.intro hO3 (And.intro p3 (And.intro hRa hva)))
        clear htx hO2 hn2 xm hkey hb3 hO3 p3 hRa hva hn3 hlook
        gi_wp2
        refine wpIn_region_heldT (r := some l2) 4 [(true, 0), (true, 1), (false, 2), (false, 3)] (fun W => Below X3.heap.size X3 W) (by kernel_rfl) (by kernel_rfl) (by kernel_rfl) (below_drewN (Below.refl _ _) 1) ?_
        intro hne
        refine wpSteps_pre 2 (by decide) ?_
        simp only [List.take_succ_cons, List.take_zero]
        repeat (go_big_quiet_step (fail))
        refine wpQuiet_nil ?_
        refine wpSteps_one rfl ?_
        clear c3 hne
        go_wp2_with fail
        refine HCl.out.mono ?_
        rintro e w5 ⟨x, rfl, hx, hb5⟩
        have hb5' : Below X3.heap.size X3 w5 := (below_drewN (Below.refl _ _) 1).trans hb5
        have H5 := hid (And.intro hx hb5')
        clear hx hb5
        obtain ⟨xa, xl, xc, rfl⟩ : ∃ a l c, x = .slice a l c := by obtain ⟨a, c', h, -⟩ := H5.out.1.sl.form; exact ⟨_, _, _, h⟩
        go_wp2
        refine qn_mk ⟨InHeld.of hb5', ?_⟩
        refine wpSteps_one rfl ?_
        go_wp2
        refine qn_mk ⟨InHeld.of (hb5'.alloc hb5'.size _), ?_⟩
        refine wpSteps_done ?_
        simp only [List.drop_succ_cons, List.drop_zero]
        obtain ⟨hO3, p3, hRa, hva⟩ := H3.out
        obtain ⟨hx, -⟩ := H5.out
        have hlo := hva.lt
        have hs5 := hb5'.size
        have hva5 : OwnE 53 V.heap.size (fun b => (fun b => (V.heap.size ≤ b ∧ b < W.heap.size) ∨ V4.heap.size ≤ b) b ∧ b < w5.heap.size ∧ ¬ OB (.slice aa al ac) b) w5 (.slice aa al ac) (pre.flatMap (addM ns S) ++ pre2.filter (fun c => !decide (c ∈ S))) :=
          (hva.kept (fun b hlt _ => hb5'.block b hlt)).mono (fun b _ g => ⟨g.1, Nat.lt_of_lt_of_le g.2.1 hs5, g.2.2⟩)
        have hx5 : IntsV (fun b => (fun b => (V.heap.size ≤ b ∧ b < W.heap.size) ∨ V4.heap.size ≤ b) b ∧ b < w5.heap.size ∧ ¬ OB (.slice aa al ac) b) w5 (.slice xa xl xc) c := IntsV.mono hx.sl (fun b h1 (h2 : X3.heap.size ≤ b) => ⟨.inr (by omega), h1, fun hob => by have := (hlo b hob).2; omega⟩)
        have hlen := HSM.out
        have hs45 : V.heap.size ≤ w5.heap.size := by omega
        have HLO := hid hlo
        clear hO3 p3 hRa hva hx hlo hb5'
        gi_wp2_with (gi_at_builtin; go_must (refine wpListIn_appE1 rfl _ _ rfl Tryd.app29 rfl hva5 (fun b _ h1 h2 => h1.2.2 h2) rfl c hx5 rfl hlen hs45 ?_))
        intro v6 w6 hown6x ht6 hn6
        have hown6 : OwnE 53 V.heap.size (fun b => (fun b => (V.heap.size ≤ b ∧ b < W.heap.size) ∨ V4.heap.size ≤ b) b ∧ b < w5.heap.size ∧ ¬ OB (.slice aa al ac) b) w6 v6 ((pre.flatMap (addM ns S) ++ pre2.filter (fun c => !decide (c ∈ S))) ++ [c]) := by
          simpa only [hsV, List.append_assoc] using hown6x
        clear hown6x
        obtain ⟨htx, hO2, hn2, xm, hkey⟩ := HX.out
        obtain ⟨hO3, p3, hRa, hva⟩ := H3.out
        have hb3 := HB3.out
        have hb5 := H5.out.2
        have hlo := HLO.out
        obtain ⟨va6, vl6, vc6, rfl⟩ : ∃ a l c, v6 = .slice a l c := by obtain ⟨a, c', h, -⟩ := (hown6.sl (S := fun _ => True) (fun _ _ => trivial) (fun _ _ _ => trivial)).form; exact ⟨_, _, _, h⟩
        have p6 : w6.heap[w.heap.size + 2]? = some (.cells #[.slice aa al ac] 29 (0, 0)) :=
          (ht6.block _ (fun h => by have := (hlo _ h).1; omega) (by omega)).trans ((hb5.block _ (by omega)).trans p3)
        have c6 : w6.cell? ⟨w.heap.size + 1 + 1, 0, none⟩ = some (.slice aa al ac) := (one_cell (B := w.heap.size + 2) p6).1
        have c7 : w6.frozen? ⟨w.heap.size + 1 + 1, 0, none⟩ = false := (one_cell (B := w.heap.size + 2) p6).2
        have hs6 := ht6.size
        have HQ : Hid (QS (fun b o => ¬ book o ∧ (b = w.heap.size + 2 ∨ (V.heap.size ≤ b ∧ b < W.heap.size) ∨ V4.heap.size ≤ b)) (w.heap.size + 2) (fun pre2 X => TurnT (fun b o => ((¬ book o ∧ (b = w.heap.size + 2 ∨ (V.heap.size ≤ b ∧ b < W.heap.size) ∨ V4.heap.size ≤ b)) ∨ (b = g ∧ ¬ book o)) ∨ isBook V4.heap.size b o) (w.heap.size + 2) V4 X ∧ OutI (w.heap.size + 2) (w.heap.size + 2) V (fun b => (V.heap.size ≤ b ∧ b < W.heap.size) ∨ V4.heap.size ≤ b) (pre.flatMap (addM ns S) ++ pre2.filter (fun c => !decide (c ∈ S))) X) (fun (_ : List (List Int)) (_ : World) => False) (pre2 ++ [c]) X2 .normal { tmps := #[], defers := [] } (w6.setCell ⟨w.heap.size + 1 + 1, 0, none⟩ (.slice va6 vl6 vc6))) := by
          have hT : TurnT (fun b o => ¬ book o ∧ (b = w.heap.size + 2 ∨ (V.heap.size ≤ b ∧ b < W.heap.size) ∨ V4.heap.size ≤ b)) (w.heap.size + 2) X2 (w6.setCell ⟨w.heap.size + 1 + 1, 0, none⟩ (.slice va6 vl6 vc6)) := by
            refine TurnT.setCell (p := ⟨w.heap.size + 2, 0, none⟩) ?_ p6 ⟨by simp [book], .inl rfl⟩ (by show w.heap.size + 2 ≤ w.heap.size + 2; omega) _
            refine ((TurnT.of_below hb3 (by omega)).trans (TurnT.of_below hb5 (by omega))).trans ((TurnT.refl _ _ w5).grown (by omega) ht6 (fun b hb => ⟨by have := (hlo b hb).1; omega, fun o ho => ⟨hva5.obj b hb o ho, .inr (hRa b hb)⟩⟩))
          refine hid ⟨hT, htx.trans (hT.mono (fun b o h => .inl (.inl h))), ?_⟩
          have e : (pre.flatMap (addM ns S) ++ (pre2 ++ [c]).filter (fun c => !decide (c ∈ S))) = (pre.flatMap (addM ns S) ++ pre2.filter (fun c => !decide (c ∈ S))) ++ [c] := by rw [List.filter_append]; simp [HNS2.out]
          show OutI _ _ _ _ (pre.flatMap (addM ns S) ++ (pre2 ++ [c]).filter (fun c => !decide (c ∈ S))) _
          rw [e]
          refine ⟨hO2.below.trans hT.1, _, one_set (B := w.heap.size + 2) _ p6, fun b hb => ?_, ?_⟩
          · rcases hn6 b hb with h | h
            · exact hRa b h
            · exact .inr (by omega)
          · refine (hown6.kept (fun b hlt hb => ?_)).mono (fun b hb1 hb2 => ⟨hb2.1, hb1, fun h => ?_⟩)
            · refine Below.heap_setCell _ _ _ _ ?_
              show b ≠ w.heap.size + 2
              rcases hb with hb | hb
              · have := (hown6.lt b hb).1; omega
              · have := hb.1; omega
            · rcases hn6 b h with h | h
              · exact hb2.2.2 h
              · have := hb2.2.1; omega
        clear htx hO2 hn2 xm hkey hO3 p3 hRa hva hb3 hb5 hlo hown6 ht6 hn6 p6 hs6 hva5 hx5
        gi_wp2
        exact HQ.out
    case hd2 =>
      rintro xs X rfl ⟨ht, hO⟩
      refine (?_ : TurnT _ _ W2 X ∧ OutI _ _ _ _ _ X)
      have ht' := ht.strip (Nat.le_refl _)
      have hW2s := HW2s.out
      refine ⟨(TurnT.of_below HB4.out (by omega)).trans (ht'.mono (fun b o h => ?_)), ?_⟩
      · rcases h with h | h
        · exact ⟨h.1, by have := h.2; have := HB4.out.size; omega⟩
        · exact ⟨h.2, .inr (by omega)⟩
      · have := hO.mono (R' := (V.heap.size ≤ ·)) (fun b _ h => by
          show V.heap.size ≤ b
          have := HB4.out.size
          omega)
        simpa [addM] using this
  case hdone =>
    rintro D xs W hD rfl hI hk
    obtain ⟨g1, va, g2, g3, g4⟩ := hI
    obtain ⟨va1, va2, va3, rfl⟩ : ∃ a l c, va = .slice a l c := by obtain ⟨a, c', h, -⟩ := (g4.sl (S := fun _ => True) (fun _ _ => trivial) (fun _ _ _ => trivial)).form; exact ⟨_, _, _, h⟩
    have hWs := g1.size
    have c2 : W.cell? ⟨w.heap.size + 1 + 1, 0, none⟩ = some (.slice va1 va2 va3) := (one_cell (B := w.heap.size + 2) g2).1
    have HSort := hid (sort_any V.heap.size _ W va1 va2 va3 _ g4 (fun b _ h => h.2.2) (by
      have := listM_small ns HNS.out hl tn (fun c => decide (c ∈ S))
      exact Nat.le_trans this (by omega)))
    have HF := hid (And.intro g1 (And.intro g2 (And.intro g3 (And.intro g4 hk))))
    clear g1 g2 g3 g4 hk
    go_wp2_with fail
    refine HSort.out.mono ?_
    rintro e w6 ⟨rfl, ys, y1, y2, y3, y4⟩
    obtain ⟨g1, g2, g3, g4, hk⟩ := HF.out
    have hlo := g4.lt
    have p6 : w6.heap[w.heap.size + 2]? = some (.cells #[.slice va1 va2 va3] 29 (0, 0)) := (y4.block _ (fun h => by have := (hlo _ h).1; omega) (by omega)).trans g2
    have c6 : w6.cell? ⟨w.heap.size + 1 + 1, 0, none⟩ = some (.slice va1 va2 va3) := (one_cell (B := w.heap.size + 2) p6).1
    have hys : ys = (Cov.asked ns tn).filter fun c => !decide (c ∈ S) := Cov.sorted_listM y1 y2
    have hD6 : w6.heap[D]? = some (.deferred (some [])) := (y4.block _ (fun h => by
      have := g4.obj D h _ hk
      exact this (by simp [book])) (Array.getElem?_eq_some_iff.1 hk).1).trans hk
    have HM := hid (fun n => (Marks.nil w.heap.size V.heap.size (w6.drewN n)).push hD (by omega) hD6)
    have HB6 : Hid (Below w.heap.size w w6) := hid (HV.out.1.trans ((g1.mono (by omega)).trans (y4.below (by omega) (fun b hb => by have := (hlo b hb).1; omega))))
    rw [hys] at y3
    have HY := hid y3
    clear g1 g2 g3 g4 hk hlo p6 hys hD6 y1 y2 y3 y4 c2
    go_wp2
    refine leave_marksV (v := .slice va1 va2 va3) (HM.out 0) (fun w' ht => ⟨?_, ?_⟩)
    · simp [results, Tryd.results34, go_sem]
    · have ht0 : TurnT (isBook w.heap.size) w.heap.size w6 w' := ht
      have h7 := HY.out.turn ht0 (fun b c t fr hb _ => by simp [isBook, book]) (fun b c t fr hb _ => by simp [isBook, book])
      have hlo := h7.lt
      refine ⟨_, rfl, h7.sl (fun b hb => by have := (hlo b hb).1; show w.heap.size ≤ b; omega) (fun b _ hb => by have : V.heap.size ≤ b := hb.1; show w.heap.size ≤ b; omega), HB6.out.trans ht0.1⟩
  case hstop => rintro D xs W hD h hk; exact h.elim

end Go.Proofs.YtjaejnacdanpkaaDoor
