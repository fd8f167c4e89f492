/- possible of the program. -/
import Derived.Test.YtjaejnacdanpkaaDoorB37
import Derived.Test.YtjaejnacdanpkaaDoorB7
import Derived.Carry
namespace Go.Proofs.YtjaejnacdanpkaaDoor
open Go.RowKit

attribute [local go_sem] Oper.semAt_some

/-- What stands between two rounds of possible. -/
structure PosI (ns : List Nat) (F : List (List Int)) (t n0 A1 A2 A3 : Nat) (w4 : World) (pre : List (List Int)) (W : World) : Prop where
  below : Below n0 w4 W
  box : W.heap[A2]? = some (.cells #[.map (some A1)] 59 (0, 0))
  map : ∃ S, MapS ns.length W A1 S ∧ (∀ c, c ∈ S ↔ ∃ r ∈ pre, Cov.allowed F r = true ∧ c ∈ (Cov.masks ns.length t).map (Cov.maskC r))
  rows : ∃ va, W.heap[A3]? = some (.cells #[va] 23 (0, 0)) ∧ OwnS w4.heap.size (fun b => w4.heap.size ≤ b ∧ b < W.heap.size ∧ ¬ OB va b) W va (pre.filter fun r => Cov.allowed F r)

theorem PosI.turn {ns : List Nat} {F : List (List Int)} {t n0 A1 A2 A3 : Nat} {w4 : World} {pre : List (List Int)} {W W' : World} (h : PosI ns F t n0 A1 A2 A3 w4 pre W) {g nB : Nat} (ht : TurnT (fun b o => (b = g ∧ ¬ book o) ∨ isBook nB b o) n0 W W')
    (hg : g < w4.heap.size) (h1 : A1 ≠ g) (h2 : A2 ≠ g) (h3 : A3 ≠ g) : PosI ns F t n0 A1 A2 A3 w4 pre W' := by
  obtain ⟨S, hm, hS⟩ := h.map
  obtain ⟨va, hb, hr⟩ := h.rows
  refine ⟨h.below.trans ht.1, ht.2 _ _ h.box ?_, ⟨S, ?_, hS⟩, ⟨va, ht.2 _ _ hb ?_, ?_⟩⟩
  · rintro (h | h)
    · exact h2 h.1
    · simp [isBook, book] at h
  · obtain ⟨es, cl, ho⟩ := hm.obj
    refine hm.keep ((ht.2 _ _ ho ?_).trans ho.symm)
    rintro (h | h)
    · exact h1 h.1
    · simp [isBook, book] at h
  · rintro (h | h)
    · exact h3 h.1
    · simp [isBook, book] at h
  · have := hr.turn ht (fun b c t fr hb _ => by
      have := (hr.lt b hb).1
      rintro (h | h)
      · have := h.1; omega
      · simp [isBook, book] at h) (fun b c t fr hb _ => by
      have := hb.1
      rintro (h | h)
      · have := h.1; omega
      · simp [isBook, book] at h)
    exact this.mono (fun b _ hb => ⟨hb.1, Nat.lt_of_lt_of_le hb.2.1 ht.1.size, hb.2.2⟩)
/-- New blocks alone. -/
theorem PosI.below' {ns : List Nat} {F : List (List Int)} {t n0 A1 A2 A3 : Nat} {w4 : World} {pre : List (List Int)} {W W' : World} (h : PosI ns F t n0 A1 A2 A3 w4 pre W) (hb : Below W.heap.size W W') (hn : n0 ≤ W.heap.size) : PosI ns F t n0 A1 A2 A3 w4 pre W' := by
  obtain ⟨S, hm, hS⟩ := h.map
  obtain ⟨va, hv, hr⟩ := h.rows
  have k : ∀ {b o}, W.heap[b]? = some o → W'.heap[b]? = some o := fun hb' => (hb.block _ (Array.getElem?_eq_some_iff.1 hb').1).trans hb'
  refine ⟨h.below.trans (hb.mono hn), k h.box, ⟨S, hm.keep (hb.block _ hm.lt), hS⟩, ⟨va, k hv, ?_⟩⟩
  exact (hr.kept (fun b hlt _ => hb.block b hlt)).mono (fun b _ g => ⟨g.1, Nat.lt_of_lt_of_le g.2.1 hb.size, g.2.2⟩)

set_option maxRecDepth 100000 in
set_option maxHeartbeats 4000000 in
theorem ppossible_any (ns : List Nat) (hns : ∀ n ∈ ns, n ≤ 8) (hl0 : 0 < ns.length) (hl : ns.length ≤ 8) (F : List (List Int)) (hF : GapsF ns.length F) (_hFl : F.length ≤ 12) (tn : Nat) (htn : tn ≤ 100) (sa : Option Addr) (sc : Nat) (fa : Option Addr) (fc : Nat) (S T : Nat → Prop) (w : World)
    (hsz : IntsV S w (.slice sa ns.length sc) (szI ns)) (hf : RowsV T w (.slice fa F.length fc) F) (hT : TabD w) :
    Calls Tryd.prog 33 #[.agg #[.slice sa ns.length sc, .slice fa F.length fc, .int .i64 tn]] w fun e w' => ∃ b x SS, e = .returned (.tuple #[.map (some b), x]) ∧ MapS ns.length w' b SS ∧ (∀ c, c ∈ SS ↔ c ∈ Cov.openL ns F tn) ∧
      RowsV (w.heap.size ≤ ·) w' x (Cov.okRows ns F) ∧ w.heap.size ≤ b ∧ Below w.heap.size w w' := by
  have hsz0 : IntsV (· < w.heap.size) w (.slice sa ns.length sc) (szI ns) := IntsV.mono hsz (fun b h _ => h)
  have hf0 : RowsV (· < w.heap.size) w (.slice fa F.length fc) F := RowsV.mono hf (fun b h _ => h)
  obtain ⟨sa', sc', es, hoks, hcaps, hmaxs⟩ := hsz.form
  rw [List.length_map] at es hoks hcaps
  cases es
  obtain ⟨fa', fc', ef, hokf, hcapf, hmaxf⟩ := hf.form
  cases ef
  obtain ⟨W1, hW1⟩ : ∃ W1, W1 = (((w.alloc (.cells #[.slice sa ns.length sc, .slice fa F.length fc, .int .i64 tn] 57)).alloc (.map #[] 0)).alloc (.cells #[.map (some (w.heap.size + 1))] 59)).alloc (.cells #[.slice none 0 0] 23) := ⟨_, rfl⟩
  have hb1 : Below w.heap.size w W1 := by rw [hW1]; exact ((((Below.refl _ _).alloc (Nat.le_refl _) _).alloc (by simp) _).alloc (by simp; omega) _).alloc (by simp; omega) _
  have hs1 : W1.heap.size = w.heap.size + 4 := by rw [hW1]; simp
  have p0 : W1.heap[w.heap.size]? = some (.cells #[.slice sa ns.length sc, .slice fa F.length fc, .int .i64 tn] 57 (0, 0)) := by rw [hW1]; exact heap_step _ (heap_step _ (heap_step _ (heap_new _ _ rfl)))
  have p1 : W1.heap[w.heap.size + 1]? = some (.map #[] 0) := by rw [hW1]; exact heap_step _ (heap_step _ (heap_new _ _ (by simp)))
  have p2 : W1.heap[w.heap.size + 2]? = some (.cells #[.map (some (w.heap.size + 1))] 59 (0, 0)) := by rw [hW1]; exact heap_step _ (heap_new _ _ (by simp))
  have p3 : W1.heap[w.heap.size + 3]? = some (.cells #[.slice none 0 0] 23 (0, 0)) := by rw [hW1]; exact heap_new _ _ (by simp)
  have H1 := hid (And.intro hb1 (And.intro hs1 (And.intro p0 (And.intro p1 (And.intro p2 p3)))))
  have HIn := hid (And.intro hsz0 (And.intro hf0 hT))
  have HFG := hid hF
  have HNS := hid hns
  have c0 : ∀ X : Held (fun W => Below W1.heap.size W1 W), X.1.cell? ⟨w.heap.size, 0, none⟩ = some (.slice sa ns.length sc) := fun X => by rw [X.2.cell (p := ⟨w.heap.size, 0, none⟩) (by show w.heap.size < _; omega), cell_of_row _ _ 0 _ _ (0, 0) p0]; rfl
  have c1 : ∀ X : Held (fun W => Below W1.heap.size W1 W), X.1.cell? ⟨w.heap.size, 1, none⟩ = some (.slice fa F.length fc) := fun X => by rw [X.2.cell (p := ⟨w.heap.size, 1, none⟩) (by show w.heap.size < _; omega), cell_of_row _ _ 1 _ _ (0, 0) p0]; rfl
  have c2 : ∀ X : Held (fun W => Below W1.heap.size W1 W), X.1.cell? ⟨w.heap.size, 2, none⟩ = some (.int .i64 tn) := fun X => by rw [X.2.cell (p := ⟨w.heap.size, 2, none⟩) (by show w.heap.size < _; omega), cell_of_row _ _ 2 _ _ (0, 0) p0]; rfl
  have HEmp := hid (fun X => empty_any ns.length hl0 hl sa sc (.slice fa F.length fc) (.int .i64 tn) ⟨_, _, _, rfl⟩ ⟨_, rfl⟩ X)
  have HRows := hid (fun X v (S : Nat → Prop) (h : IntsV S X v (emptyC ns.length)) => prows_any (emptyC ns.length) (by simpa using hl0) (by simpa using hl) sa ns.length sc (.slice fa F.length fc) (.int .i64 tn) v ⟨_, _, _, rfl⟩ ⟨_, rfl⟩ S X h)
  clear hsz hf hsz0 hf0 hT hb1 p0 p1 p2 p3 hF hns hs1
  rw [← callsIn_wide (n := 5)]
  refine callsIn_of_wp_marks Tryd.func33 rfl trivial ?_ rfl
  simp only [Tryd.ntmps33, List.size_toArray, List.length_cons, List.length_nil, Nat.reduceAdd, Nat.reduceSub, Array.replicate_succ, Array.replicate_zero, List.push_toArray, List.append_toArray, List.nil_append, List.cons_append]
  rw [wpIn_wide]
  have hmm := @run_makeMap Tryd.prog
  go_wp2
  rw [← hW1]
  clear hW1 hmm
  refine wp_region_held 3 [(true, 0), (true, 1), (false, 2)] (fun W => Below W1.heap.size W1 W) (by kernel_rfl) (by kernel_rfl) (below_drewN (Below.refl _ _) 1) ?_
  intro hne
  refine wpSteps_pre 2 (by decide) ?_
  simp only [List.take_succ_cons, List.take_zero]
  repeat (go_big_quiet_step (fail))
  refine wpQuiet_nil ?_
  refine wpSteps_one rfl ?_
  clear c0 c1 c2 hne
  go_wp2_with fail
  refine (HEmp.out _).mono ?_
  rintro e w2 ⟨ev, rfl, hev, hb2⟩
  have hbb2 : Below W1.heap.size W1 w2 := (below_drewN (Below.refl _ _) 1).trans hb2
  obtain ⟨ea, el, ec, rfl⟩ : ∃ a l c, ev = .slice a l c := by obtain ⟨a, c', h, -⟩ := hev.sl.form; exact ⟨_, _, _, h⟩
  have HR2 := hid (HRows.out w2 _ _ hev.sl)
  have HE2 := hid (And.intro hev hbb2)
  clear hev hb2
  go_wp2
  refine qn_mk ⟨InHeld.of hbb2, ?_⟩
  refine wpSteps_done ?_
  clear hbb2
  go_wp2_with fail
  refine HR2.out.mono ?_
  rintro e w4 ⟨bN, bO, bF, bP, g, cap, bC, rfl, q1, q2, q3, q4, q5, q6⟩
  have HQ := hid (And.intro q1 (And.intro q2 (And.intro q3 (And.intro q4 (And.intro q5 q6)))))
  clear q1 q2 q3 q4 q5 q6 HR2
  go_wp2
  rw [← wpIn_wide (n := 5)]
  obtain ⟨hb1, hs1, p0, p1, p2, p3⟩ := H1.out
  obtain ⟨q1, q2, q3, q4, q5, q6⟩ := HQ.out
  obtain ⟨i1, i2, i3⟩ := HIn.out
  obtain ⟨hev, hbb2⟩ := HE2.out
  have hs2 : w.heap.size + 4 ≤ w2.heap.size := by have := hbb2.size; omega
  have hs4 : w2.heap.size ≤ w4.heap.size := q3.size
  have hbw4 : Below W1.heap.size W1 w4 := hbb2.trans (q3.mono hbb2.size)
  have hb4 : Below w.heap.size w w4 := hb1.trans (hbw4.mono (by omega))
  have r0 : w4.heap[w.heap.size]? = _ := (hbw4.block _ (by omega)).trans p0
  have r1 : w4.heap[w.heap.size + 1]? = _ := (hbw4.block _ (by omega)).trans p1
  have r2 : w4.heap[w.heap.size + 2]? = _ := (hbw4.block _ (by omega)).trans p2
  have r3 : w4.heap[w.heap.size + 3]? = _ := (hbw4.block _ (by omega)).trans p3
  simp only [emptyC, List.length_replicate] at q1 q2
  obtain ⟨gl, hgl⟩ : ∃ c', w4.heap[g]? = some c' := ⟨_, q2.obj.choose_spec⟩
  have hg4 : g < w4.heap.size := (Array.getElem?_eq_some_iff.1 hgl).1
  clear hgl gl
  have lN := (Array.getElem?_eq_some_iff.1 q1.hN).1
  have lO := (Array.getElem?_eq_some_iff.1 q1.hO).1
  have lF := (Array.getElem?_eq_some_iff.1 q1.hF).1
  have lP := (Array.getElem?_eq_some_iff.1 q1.hP).1
  have lC := (Array.getElem?_eq_some_iff.1 q6).1
  have hev4 : IntsV (fun b => W1.heap.size ≤ b ∧ b < w2.heap.size) w4 (.slice ea el ec) (emptyC ns.length) :=
    IntsV.keep (S := fun b => W1.heap.size ≤ b ∧ b < w2.heap.size) (IntsV.mono hev.sl (fun b h1 h2 => ⟨by have := (below_drewN (Below.refl W1.heap.size W1) 1).size; exact Nat.le_trans this h2, h1⟩)) (KeepS.of_below q3 (fun b h => h.2))
  have HSeq : Hid (IterS (α := List Int) Tryd.prog (w.heap.size + 1) w4.heap.size 77 #[.pointer (some ⟨bF, 0, none⟩)] (fun _ => #[.slice (some ⟨g, 0, none⟩) ns.length cap])
      (fun pre x W => pre ++ [x] <+: Cov.rowsC ns ∧ NowIs g ns.length cap W x) (fun b o => ¬ book o ∧ (b = w.heap.size + 1 ∨ b = w.heap.size + 3 ∨ w4.heap.size ≤ b)) (fun b o => b = g ∧ ¬ book o) (fun xs _ => xs = Cov.rowsC ns) w4) := by
    have := rows_iter ns HNS.out hl (emptyC ns.length) (by simp) (w.heap.size + 1) w4.heap.size bN bO bF bP g cap bC sa sc (.slice fa F.length fc) (.int .i64 tn) (.slice ea el ec) w4 (by omega) (by omega)
      (fun b o => ¬ book o ∧ (b = w.heap.size + 1 ∨ b = w.heap.size + 3 ∨ w4.heap.size ≤ b)) (fun b o hb h => by
        have := h.2
        omega) (by simpa using q1) (by simpa using q2) q6 hev4 (fun X ht => ht.keepS (fun b o hb ho => by
          rintro ((h | h) | h)
          · have := h.2; omega
          · have := h.1; omega
          · omega)) (IntsV.mono (i1.keep (KeepS.of_below hb4 (fun _ h => h))) (fun b _ h => Nat.lt_succ_of_lt h))
    simp only [emptyC, List.length_replicate] at this
    rw [fill_empty] at this
    exact hid this
  have hP0 : PosI ns F tn (w.heap.size + 1) (w.heap.size + 1) (w.heap.size + 2) (w.heap.size + 3) w4 [] w4 :=
    ⟨Below.refl _ _, r2, ⟨[], (by
      have hm0 := MapS.made ns.length (w.alloc (.cells #[.slice sa ns.length sc, .slice fa F.length fc, .int .i64 tn] 57))
      rw [World.size_alloc] at hm0
      exact hm0.keep (r1.trans (heap_new _ _ (by simp)).symm)), fun c => by simp⟩, ⟨_, r3, OwnS.nil _ _ _⟩⟩
  have HP0 := hid hP0
  have HB4 := hid hb4
  have HR0 := hid r0
  have hgA : w2.heap.size ≤ g := q4.2.2.2.2
  clear hb1 hs1 p0 p1 p2 p3 q1 q2 q3 q4 q5 q6 i1 i2 i3 hev hbb2 hbw4 hb4 r0 r1 r2 r3 hev4 lN lO lF lP lC hP0 H1 HQ HE2 HEmp HRows
  refine wpIn_rangeS (α := List Int) (n0 := w.heap.size + 1) (gf := 77) rfl (fn_enters Tryd.func77 (by kernel_rfl) rfl) (fun _ => rfl) HSeq.out (by omega) (fun _ _ h => h.2) (fun _ _ h => h.1)
    (fun pre W => PosI ns F tn (w.heap.size + 1) (w.heap.size + 1) (w.heap.size + 2) (w.heap.size + 3) w4 pre W) (fun _ _ => False)
    (fun pre A B h ht => h.turn ht hg4 (by omega) (by omega) (by omega)) (fun _ _ _ h _ => h) (fun _ _ _ h _ => h) HP0.out ?hround ?hdone ?hstop
  case hround =>
    rintro l pre r W hlr hI ⟨hGp, hGn⟩
    simp only [List.zip_toArray, List.zip_cons_cons, List.zip_nil_left]
    have hWs := hI.below.size
    gi_wp2
    refine ⟨(TurnT.refl _ _ _).alloc (by omega) _, fun W2 ht2 hs2 hl2 => ?_⟩
    have hturn : TurnT (isBook w4.heap.size) (w.heap.size + 1) W W2 := ((TurnT.refl _ _ _).alloc (by omega) _).trans ht2
    have rrow : W2.heap[W.heap.size]? = some (.cells #[.slice (some ⟨g, 0, none⟩) ns.length cap] 22 (0, 0)) := ht2.2 _ _ (World.alloc_heap_new _ _) (by simp [isBook, book])
    have hI2 : PosI ns F tn (w.heap.size + 1) (w.heap.size + 1) (w.heap.size + 2) (w.heap.size + 3) w4 pre W2 := hI.turn (hturn.mono (A' := fun b o => (b = g ∧ ¬ book o) ∨ isBook w4.heap.size b o) (fun b o h => .inr h)) hg4 (by omega) (by omega) (by omega)
    have hn2 : NowIs g ns.length cap W2 r := hGn.keep (by
      obtain ⟨c', hc'⟩ := hGn.obj
      rw [hturn.2 _ _ hc' (by simp [isBook, book]), hc'])
    have hrC : r ∈ Cov.rowsC ns := hGp.subset (by simp)
    have hrl : r.length = ns.length := Cov.comboB_len ns r (Cov.rowB_combo ns r ((Cov.mem_rowsC ns r).1 hrC))
    have r0 : W2.heap[w.heap.size]? = _ := (hI2.below.block _ (by omega)).trans HR0.out
    have c0 := cell_of_row _ _ 0 _ _ (0, 0) r0
    have c1 := cell_of_row _ _ 1 _ _ (0, 0) r0
    have c2 := cell_of_row _ _ 2 _ _ (0, 0) r0
    simp only [List.getElem?_toArray, List.getElem?_cons_zero, List.getElem?_cons_succ] at c0 c1 c2
    have cr := (one_cell rrow).1
    obtain ⟨i1, i2, i3⟩ := HIn.out
    have hb2 : Below w.heap.size w W2 := HB4.out.trans (hI2.below.mono (by omega))
    have hW2s : W2.heap.size = W.heap.size + 1 := by rw [hs2]; simp
    have HAl := hid (pallowed_any F r (by rw [hrl]; exact HFG.out) (.slice sa ns.length sc) (.int .i64 tn) (.slice (some ⟨g, 0, none⟩) ns.length cap) ⟨_, _, _, rfl⟩ ⟨_, rfl⟩ fa fc (· = g) (· < w.heap.size) W2 (i2.keep (KeepS.of_below hb2 (fun _ h => h))) hn2.ints)
    have H2 := hid (And.intro hI2 (And.intro rrow (And.intro hn2 hb2)))
    have HRC := hid hrC
    have HGP := hid hGp
    have HRL := hid hrl
    have HOB : Hid (∀ va, W2.heap[w.heap.size + 3]? = some (.cells #[va] 23 (0, 0)) → ∀ b, OB va b → b < W.heap.size) := hid (by
      obtain ⟨va', g1, g2⟩ := hI.rows
      intro va hva b hb
      have := hturn.2 _ _ g1 (by simp [isBook, book])
      rw [this] at hva
      cases hva
      exact (g2.lt b hb).2)
    have HL2 := hid hl2
    clear hI hGp hGn ht2 hturn rrow hI2 hn2 hrC hrl r0 i1 i2 i3 hb2 hs2 hl2 hlr
    cases hal : Cov.allowed F r with
    | false =>
      rw [hal] at HAl
      have HNo := hid hal
      clear hal
      gi_wp2_with fail
      refine ⟨trivial, rfl, callsIn_wideR.2 (HAl.out.mono ?_)⟩
      rintro e W3 ⟨rfl, hb3⟩
      obtain ⟨hI2, rrow, hn2, hb2⟩ := H2.out
      have HQ : Hid (QS (fun b o => ¬ book o ∧ (b = w.heap.size + 1 ∨ b = w.heap.size + 3 ∨ w4.heap.size ≤ b)) (w.heap.size + 1) (fun pre W => PosI ns F tn (w.heap.size + 1) (w.heap.size + 1) (w.heap.size + 2) (w.heap.size + 3) w4 pre W) (fun (_ : List (List Int)) (_ : World) => False) (pre ++ [r]) W2 .normal { tmps := #[], defers := [] } W3) := by
        refine hid ⟨TurnT.of_below hb3 (by omega), ?_⟩
        obtain ⟨g1, g2, ⟨S', g3, g4⟩, va, g5, g6⟩ := hI2.below' hb3 (by omega)
        refine ⟨g1, g2, ⟨S', g3, fun c => (g4 c).trans ?_⟩, va, g5, ?_⟩
        · constructor
          · rintro ⟨x, hx, h⟩; exact ⟨x, List.mem_append_left _ hx, h⟩
          · rintro ⟨x, hx, h⟩
            rcases List.mem_append.1 hx with hx | hx
            · exact ⟨x, hx, h⟩
            · rw [List.mem_singleton.1 hx, HNo.out] at h; cases h.1
        · rw [List.filter_append]
          simp only [List.filter_cons, HNo.out, List.filter_nil]
          simpa using g6
      clear hI2 rrow hn2 hb2 hb3 HAl
      gi_wp2
      exact HQ.out
    | true =>
      rw [hal] at HAl
      have HYes := hid hal
      clear hal
      gi_wp2_with fail
      refine ⟨trivial, rfl, callsIn_wideR.2 (HAl.out.mono ?_)⟩
      rintro e W3 ⟨rfl, hb3⟩
      obtain ⟨hI2, rrow, hn2, hb2⟩ := H2.out
      have hI3 := hI2.below' hb3 (by omega)
      have hk3 : ∀ {b o}, W2.heap[b]? = some o → W3.heap[b]? = some o := fun h => (hb3.block _ (Array.getElem?_eq_some_iff.1 h).1).trans h
      have hW3s := hb3.size
      have hw4W3 := hI3.below.size
      obtain ⟨va, p3, hva⟩ := hI3.rows
      obtain ⟨aa, al, ac, rfl⟩ : ∃ a l c, va = .slice a l c := by obtain ⟨a, c', h, -⟩ := (hva.sl (S := fun _ => True) (fun _ _ => trivial) (fun _ _ _ => trivial)).form; exact ⟨_, _, _, h⟩
      have rrow3 := hk3 rrow
      have hn3 : NowIs g ns.length cap W3 r := hn2.keep (by
        obtain ⟨c', hc'⟩ := hn2.obj
        rw [hk3 hc', hc'])
      have c3 : ∀ X : Held (fun W => Below W3.heap.size W3 W), X.1.cell? ⟨w.heap.size + 1 + 1 + 1, 0, none⟩ = some (.slice aa al ac) := fun X => by show X.1.cell? ⟨w.heap.size + 3, 0, none⟩ = _; rw [X.2.cell (p := ⟨w.heap.size + 3, 0, none⟩) (by show w.heap.size + 3 < _; omega), (one_cell p3).1]
      have c4 : ∀ X : Held (fun W => Below W3.heap.size W3 W), X.1.cell? ⟨W.heap.size, 0, none⟩ = some (.slice (some ⟨g, 0, none⟩) ns.length cap) := fun X => by rw [X.2.cell (p := ⟨W.heap.size, 0, none⟩) (by show W.heap.size < _; omega), (one_cell rrow3).1]
      have HCl := hid (clone_any r (by rw [HRL.out]; omega) (.slice (some ⟨g, 0, none⟩) ns.length cap) (· = g) (W3.drewN 1) (IntsV.keep hn3.ints (KeepS.below (below_drewN (Below.refl _ _) _))))
      have H3 := hid (And.intro hI3 (And.intro p3 (And.intro hva (And.intro rrow3 (And.intro hn3 (And.intro hb3 hb2))))))
      clear hI2 rrow hn2 hb2 hb3 hI3 hk3 p3 hva rrow3 hn3 HAl c0 c1 c2 cr
      gi_wp2
      refine wpIn_region_heldT (r := some l) 4 [(true, 0), (true, 1), (false, 2), (false, 3)] (fun W => Below W3.heap.size W3 W) (by kernel_rfl) (by kernel_rfl) (by kernel_rfl) (below_drewN (Below.refl _ _) 1) ?_
      intro hne
      refine wpSteps_pre 2 (by decide) ?_
      simp only [List.take_succ_cons, List.take_zero]
      repeat (go_big_quiet_step (fail))
      refine wpQuiet_nil ?_
      refine wpSteps_one rfl ?_
      clear c3 c4 hne
      go_wp2_with fail
      refine HCl.out.mono ?_
      rintro e w5 ⟨x, rfl, hx, hb5⟩
      have hb5' : Below W3.heap.size W3 w5 := (below_drewN (Below.refl _ _) 1).trans hb5
      have H5 := hid (And.intro hx hb5')
      clear hx hb5
      obtain ⟨xa, xl, xc, rfl⟩ : ∃ a l c, x = .slice a l c := by obtain ⟨a, c', h, -⟩ := H5.out.1.sl.form; exact ⟨_, _, _, h⟩
      go_wp2
      refine qn_mk ⟨InHeld.of hb5', ?_⟩
      refine wpSteps_one rfl ?_
      go_wp2
      refine qn_mk ⟨InHeld.of (hb5'.alloc hb5'.size _), ?_⟩
      refine wpSteps_done ?_
      simp only [List.drop_succ_cons, List.drop_zero]
      obtain ⟨hI3, p3, hva, rrow3, hn3, hb3, hb2⟩ := H3.out
      obtain ⟨hx, -⟩ := H5.out
      have hlo := hva.lt
      have hs5 := hb5'.size
      have hva5 : OwnS w4.heap.size (fun b => w4.heap.size ≤ b ∧ b < w5.heap.size ∧ ¬ OB (.slice aa al ac) b) w5 (.slice aa al ac) (pre.filter fun r => Cov.allowed F r) :=
        (hva.kept (fun b hlt _ => hb5'.block b hlt)).mono (fun b _ g => ⟨g.1, Nat.lt_of_lt_of_le g.2.1 hs5, g.2.2⟩)
      have hx5 : IntsV (fun b => w4.heap.size ≤ b ∧ b < w5.heap.size ∧ ¬ OB (.slice aa al ac) b) w5 (.slice xa xl xc) r := IntsV.mono hx.sl (fun b h1 (h2 : W3.heap.size ≤ b) => ⟨by omega, h1, fun hob => by have := (hlo b hob).2; omega⟩)
      have hlen : (pre.filter fun r => Cov.allowed F r).length + 1 ≤ 1000000000 := by
        have h1 := HGP.out.length_le
        have h2 := rows_small HNS.out hl
        have h3 := List.length_filter_le (fun r => Cov.allowed F r) pre
        simp only [List.length_append, List.length_singleton] at h1
        omega
      have hs45 : w4.heap.size ≤ w5.heap.size := by omega
      have HLO := hid hlo
      clear hI3 p3 hva rrow3 hn3 hb3 hb2 hx hlo hb5'
      gi_wp2_with (gi_at_builtin; go_must (refine wpListIn_appS1 rfl _ _ rfl Tryd.app63 rfl hva5 (fun b _ h1 h2 => h1.2.2 h2) rfl r hx5 rfl hlen hs45 ?_))
      intro v6 w6 hown6 ht6 hn6
      obtain ⟨hI3, p3, hva, rrow3, hn3, hb3, hb2⟩ := H3.out
      have hb5 := H5.out.2
      have hlo := HLO.out
      obtain ⟨va6, vl6, vc6, rfl⟩ : ∃ a l c, v6 = .slice a l c := by obtain ⟨a, c', h, -⟩ := (hown6.sl (S := fun _ => True) (fun _ _ => trivial) (fun _ _ _ => trivial)).form; exact ⟨_, _, _, h⟩
      have hk6 : ∀ {b o}, W3.heap[b]? = some o → ¬ OB (.slice aa al ac) b → w6.heap[b]? = some o := fun {b o} h hob => by
        have hlt := (Array.getElem?_eq_some_iff.1 h).1
        exact (ht6.block b hob (by omega)).trans ((hb5.block b hlt).trans h)
      have p6 : w6.heap[w.heap.size + 3]? = some (.cells #[.slice aa al ac] 23 (0, 0)) := hk6 p3 (fun h => by have := (hlo _ h).1; omega)
      have c6 : w6.cell? ⟨w.heap.size + 1 + 1 + 1, 0, none⟩ = some (.slice aa al ac) := (one_cell (B := w.heap.size + 3) p6).1
      have c7 : w6.frozen? ⟨w.heap.size + 1 + 1 + 1, 0, none⟩ = false := (one_cell (B := w.heap.size + 3) p6).2
      have HW7 : Hid (∀ V, V = (w6.setCell ⟨w.heap.size + 3, 0, none⟩ (.slice va6 vl6 vc6)).alloc (.cells #[.slice sa ns.length sc, .slice fa F.length fc, .int .i64 tn] 57) →
          Below (w.heap.size + 1) w4 V ∧ V.heap[w.heap.size + 2]? = some (.cells #[.map (some (w.heap.size + 1))] 59 (0, 0)) ∧
          (∃ S, MapS ns.length V (w.heap.size + 1) S ∧ (∀ c, c ∈ S ↔ ∃ r ∈ pre, Cov.allowed F r = true ∧ c ∈ (Cov.masks ns.length tn).map (Cov.maskC r))) ∧
          (V.heap[w.heap.size + 3]? = some (.cells #[.slice va6 vl6 vc6] 23 (0, 0)) ∧ OwnS w4.heap.size (fun b => w4.heap.size ≤ b ∧ b < V.heap.size ∧ ¬ OB (.slice va6 vl6 vc6) b) V (.slice va6 vl6 vc6) ((pre ++ [r]).filter fun r => Cov.allowed F r)) ∧
          V.heap[W.heap.size]? = some (.cells #[.slice (some ⟨g, 0, none⟩) ns.length cap] 22 (0, 0)) ∧ NowIs g ns.length cap V r ∧
          TurnT (fun b o => ¬ book o ∧ (b = w.heap.size + 1 ∨ b = w.heap.size + 3 ∨ w4.heap.size ≤ b)) (w.heap.size + 1) W2 V) := by
        refine hid ?_
        rintro V rfl
        obtain ⟨hI2, -, -, -⟩ := H2.out
        have hOB := HOB.out _ (((hb3.block _ (Array.getElem?_eq_some_iff.1 hI2.rows.choose_spec.1).1).symm).trans p3)
        have hkV : ∀ {b o}, w6.heap[b]? = some o → b ≠ w.heap.size + 3 → ((w6.setCell ⟨w.heap.size + 3, 0, none⟩ (.slice va6 vl6 vc6)).alloc (.cells #[.slice sa ns.length sc, .slice fa F.length fc, .int .i64 tn] 57)).heap[b]? = some o := fun h hb =>
          heap_step _ ((Below.heap_setCell _ _ _ _ hb).trans h)
        have hs6 : w5.heap.size ≤ w6.heap.size := ht6.size
        have hT : TurnT (fun b o => ¬ book o ∧ (b = w.heap.size + 1 ∨ b = w.heap.size + 3 ∨ w4.heap.size ≤ b)) (w.heap.size + 1) W2 ((w6.setCell ⟨w.heap.size + 3, 0, none⟩ (.slice va6 vl6 vc6)).alloc (.cells #[.slice sa ns.length sc, .slice fa F.length fc, .int .i64 tn] 57)) := by
          refine TurnT.alloc ?_ (by omega) _
          refine TurnT.setCell (p := ⟨w.heap.size + 3, 0, none⟩) ?_ p6 ⟨by simp [book], .inr (.inl rfl)⟩ (by show w.heap.size + 1 ≤ w.heap.size + 3; omega) _
          refine (((TurnT.of_below hb3 (by omega)).trans (TurnT.of_below hb5 (by omega))).trans ((TurnT.refl _ _ w5).grown (by omega) ht6 (fun b hb => ⟨by have := (hlo b hb).1; omega, fun o ho => ⟨hva5.obj b hb o ho, .inr (.inr (hlo b hb).1)⟩⟩)))
        refine ⟨hI2.below.trans hT.1, hkV (hk6 hI3.box (fun h => by have := (hlo _ h).1; omega)) (by omega), ?_, ⟨heap_step _ (one_set _ p6), ?_⟩, hkV (hk6 rrow3 (fun h => by have := hOB _ h; omega)) (by omega), ?_, hT⟩
        · obtain ⟨S', hm, hS⟩ := hI3.map
          obtain ⟨es, cl, ho⟩ := hm.obj
          exact ⟨S', hm.keep ((hkV (hk6 ho (fun h => by have := (hlo _ h).1; omega)) (by omega)).trans ho.symm), hS⟩
        · rw [List.filter_append]
          simp only [List.filter_cons, HYes.out, List.filter_nil]
          refine (hown6.kept (fun b hlt hb => ?_)).mono (fun b hb1 hb2 => ⟨hb2.1, hb1, fun h => ?_⟩)
          · have : w4.heap.size ≤ b := by
              rcases hb with hb | hb
              · exact (hown6.lt b hb).1
              · exact hb.1
            exact (hkV (Array.getElem?_eq_getElem hlt) (by omega)).trans (Array.getElem?_eq_getElem hlt).symm
          · rcases hn6 b h with h | h
            · exact hb2.2.2 h
            · have := hb2.2.1; omega
        · obtain ⟨c', hc'⟩ := hn3.obj
          exact hn3.keep ((hkV (hk6 hc' (fun h => by have := (hlo _ h).1; omega)) (by omega)).trans hc'.symm)
      have r06 : w6.heap[w.heap.size]? = some (.cells #[.slice sa ns.length sc, .slice fa F.length fc, .int .i64 tn] 57 (0, 0)) := hk6 ((hI3.below.block _ (by omega)).trans HR0.out) (fun h => by have := (hlo _ h).1; omega)
      have r07 : (w6.setCell ⟨w.heap.size + 1 + 1 + 1, 0, none⟩ (.slice va6 vl6 vc6)).heap[w.heap.size]? = some (.cells #[.slice sa ns.length sc, .slice fa F.length fc, .int .i64 tn] 57 (0, 0)) := (Below.heap_setCell _ _ _ _ (by show w.heap.size ≠ w.heap.size + 3; omega)).trans r06
      have d0 := cell_of_row _ _ 0 _ _ (0, 0) r07
      have d1 := cell_of_row _ _ 1 _ _ (0, 0) r07
      have d2 := cell_of_row _ _ 2 _ _ (0, 0) r07
      simp only [List.getElem?_toArray, List.getElem?_cons_zero, List.getElem?_cons_succ] at d0 d1 d2
      have HSets := hid (fun X => psets_any (.slice sa ns.length sc) (.slice fa F.length fc) (.int .i64 tn) ⟨_, _, _, rfl⟩ ⟨_, _, _, rfl⟩ ⟨_, rfl⟩ X)
      have HP3 := hid hI3
      have hs46 : w4.heap.size ≤ w6.heap.size := by have := ht6.size; omega
      clear hI3 p3 hva rrow3 hn3 hb3 hb2 hb5 hlo hk6 hown6 ht6 hn6 p6 hva5 hx5 r06 r07
      gi_wp2_with fail
      refine ⟨trivial, rfl, callsIn_wideR.2 ((HSets.out _).mono ?_)⟩
      rintro e V ⟨rfl, hV⟩
      obtain ⟨v1, v2, ⟨S0, v3, v4⟩, ⟨v5, v6⟩, v7, v8, v9⟩ := HW7.out V hV
      have vP : V.heap[(w6.setCell ⟨w.heap.size + 3, 0, none⟩ (.slice va6 vl6 vc6)).heap.size]? = some (.cells #[.slice sa ns.length sc, .slice fa F.length fc, .int .i64 tn] 57 (0, 0)) := by rw [hV]; exact heap_new _ _ rfl
      have hz6 : (w6.setCell ⟨w.heap.size + 3, 0, none⟩ (.slice va6 vl6 vc6)).heap.size = w6.heap.size := by simp
      rw [hz6] at vP
      have hzV : V.heap.size = w6.heap.size + 1 := by rw [hV]; simp
      have hlV : ∃ r, V.heap[l]? = some (.loop r) := by
        obtain ⟨r', hr'⟩ := HL2.out
        exact ⟨r', v9.2 _ _ hr' (by simp [book])⟩
      have hbV : Below w.heap.size w V := HB4.out.trans (v1.mono (by omega))
      have HIter : Hid (IterS (α := Nat) Tryd.prog (w.heap.size + 1) V.heap.size 66 #[.pointer (some ⟨w6.heap.size, 0, none⟩)] (fun s => #[.int .u64 s]) (fun pre x _ => pre ++ [x] <+: Cov.masks ns.length tn) (fun b o => ¬ book o ∧ b = w.heap.size + 1) (fun _ _ => False) (fun xs _ => xs = Cov.masks ns.length tn) V) :=
        hid (sets_iter ns.length tn hl htn (w.heap.size + 1) V.heap.size w6.heap.size sa sc (.slice fa F.length fc) (fun b o => ¬ book o ∧ b = w.heap.size + 1) (fun o h => by have := h.2; omega) V (by omega) vP)
      have HV := hid (And.intro v1 (And.intro v2 (And.intro v3 (And.intro v4 (And.intro v5 (And.intro v6 (And.intro v7 (And.intro v8 (And.intro v9 hbV)))))))))
      have hzn : w.heap.size + 1 ≤ V.heap.size := by omega
      have hzb : W.heap.size < V.heap.size := (Array.getElem?_eq_some_iff.1 v7).1
      clear hV c6 c7 d0 d1 d2 v1 v2 v3 v4 v5 v6 v7 v8 v9 vP hz6 hbV HW7
      gi_wp2
      refine wpIn_rangeN (α := Nat) (n0 := w.heap.size + 1) (gf := 66) hlV rfl (fn_enters Tryd.func66 (by kernel_rfl) rfl) (fun _ => rfl) HIter.out hzn (fun _ _ h => h.elim) (fun _ _ h => h.1)
        (fun pre2 X => TurnT (fun b o => (¬ book o ∧ b = w.heap.size + 1) ∨ isBook V.heap.size b o) (w.heap.size + 1) V X ∧ ∃ S', MapS ns.length X (w.heap.size + 1) S' ∧ ∀ c, c ∈ S' ↔ (∃ r ∈ pre, Cov.allowed F r = true ∧ c ∈ (Cov.masks ns.length tn).map (Cov.maskC r)) ∨ c ∈ pre2.map (Cov.maskC r)) (fun _ _ => False)
        (fun pre2 A B h ht => ?hI) (fun _ _ _ h _ => h) (fun _ _ _ h _ => h) ?h0 ?hr2 ?hd2 (fun _ _ h => h.elim)
      case hI =>
        obtain ⟨ht0, S', hm, hS'⟩ := h
        obtain ⟨es, cl, ho⟩ := hm.obj
        exact ⟨ht0.trans (ht.mono (fun b o h => h.elim False.elim .inr)), S', hm.keep ((ht.2 _ _ ho (by
          rintro (h | h)
          · exact h
          · simp [isBook, book] at h)).trans ho.symm), hS'⟩
      case h0 =>
        obtain ⟨v1, v2, v3, v4, -⟩ := HV.out
        exact ⟨TurnT.refl _ _ _, S0, v3, fun c => by rw [v4 c]; simp⟩
      case hr2 =>
        rintro l2 pre2 s X hl2 ⟨ht, S', hm, hS'⟩ hGs
        simp only [List.zip_toArray, List.zip_cons_cons, List.zip_nil_left]
        gi_wp2
        refine ⟨TurnT.refl _ _ _, fun X2 ht2 hs2 hl3 => ?_⟩
        obtain ⟨v1, v2, v3, v4, v5, v6, v7, v8, v9, hbV⟩ := HV.out
        have htx : TurnT (fun b o => (¬ book o ∧ b = w.heap.size + 1) ∨ isBook V.heap.size b o) (w.heap.size + 1) V X2 := ht.trans (ht2.mono (fun b o h => .inr h))
        have x2 : X2.heap[w.heap.size + 2]? = _ := htx.2 _ _ v2 (by
          rintro (h | h)
          · have := h.2; omega
          · simp [isBook, book] at h)
        have x7 : X2.heap[W.heap.size]? = _ := htx.2 _ _ v7 (by
          rintro (h | h)
          · have := h.2; omega
          · simp [isBook, book] at h)
        have x8 : NowIs g ns.length cap X2 r := v8.keep (by
          obtain ⟨c', hc'⟩ := v8.obj
          rw [htx.2 _ _ hc' (by
            rintro (h | h)
            · have := h.2; omega
            · simp [isBook, book] at h), hc'])
        obtain ⟨es, cl, ho⟩ := hm.obj
        have xm : MapS ns.length X2 (w.heap.size + 1) S' := hm.keep ((ht2.2 _ _ ho (by simp [isBook, book])).trans ho.symm)
        have hXs : V.heap.size ≤ X2.heap.size := htx.1.size
        have c2 : ∀ X : Held (fun W => Below X2.heap.size X2 W), X.1.cell? ⟨w.heap.size + 1 + 1, 0, none⟩ = some (.map (some (w.heap.size + 1))) := fun X => by show X.1.cell? ⟨w.heap.size + 2, 0, none⟩ = _; rw [X.2.cell (p := ⟨w.heap.size + 2, 0, none⟩) (by show w.heap.size + 2 < _; omega), (one_cell x2).1]
        have c7 : ∀ X : Held (fun W => Below X2.heap.size X2 W), X.1.cell? ⟨W.heap.size, 0, none⟩ = some (.slice (some ⟨g, 0, none⟩) ns.length cap) := fun X => by rw [X.2.cell (p := ⟨W.heap.size, 0, none⟩) (by show W.heap.size < _; omega), (one_cell x7).1]
        have hsm : s ∈ Cov.masks ns.length tn := hGs.subset (by simp)
        have hs2l : s < 2 ^ r.length := by rw [HRL.out]; exact List.mem_range.1 (List.mem_filter.1 hsm).1
        have hbX := hbV.trans (htx.1.mono (by omega))
        have HPart := hid (part_any r (by rw [HRL.out]; exact hl) s hs2l (.slice (some ⟨g, 0, none⟩) ns.length cap) (· = g) (X2.drewN 1) (IntsV.keep x8.ints (KeepS.below (below_drewN (Below.refl _ _) _))) ((HIn.out.2.2.below hbX HIn.out.2.2.lt).keep rfl))
        have HKey := hid (mask_keyC HNS.out HRC.out s)
        have hsmall : S'.length ≤ 1000000000 := by
          have := set_small HNS.out hl hm.nodup (fun c hc => by
            rcases (hS' c).1 hc with ⟨x, hx, -, h⟩ | h
            · exact mask_combo (HGP.out.subset (List.mem_append_left _ hx)) tn h
            · refine mask_combo HRC.out tn ?_
              obtain ⟨s', hs', e⟩ := List.mem_map.1 h
              exact List.mem_map.2 ⟨s', hGs.subset (List.mem_append_left _ hs'), e⟩)
          omega
        have HX := hid (And.intro htx (And.intro xm hS'))
        clear v1 v2 v3 v4 v5 v6 v7 v8 v9 hbV htx x2 x7 x8 ho xm hbX hs2l hsm ht hm hS' hl2 ht2 hs2 hl3 hGs
        gi_wp2
        refine wpIn_region_heldT (r := some l2) 4 [(true, 0), (true, 1), (true, 2), (false, 3)] (fun W => Below X2.heap.size X2 W) (by kernel_rfl) (by kernel_rfl) (by kernel_rfl) (below_drewN (Below.refl _ _) 1) ?_
        intro hne
        refine wpSteps_pre 3 (by decide) ?_
        simp only [List.take_succ_cons, List.take_zero]
        repeat (go_big_quiet_step (fail))
        refine wpQuiet_nil ?_
        refine wpSteps_one rfl ?_
        clear c2 c7 hne
        go_wp2_with fail
        refine HPart.out.mono ?_
        rintro e X3 ⟨rfl, hb3⟩
        have hb3' : Below X2.heap.size X2 X3 := (below_drewN (Below.refl _ _) 1).trans hb3
        obtain ⟨htx, xm, hS'⟩ := HX.out
        have xm3 : MapS ns.length X3 (w.heap.size + 1) S' := xm.keep (hb3'.block _ xm.lt)
        obtain ⟨X4, hrun, hm4, ht4⟩ := xm3.store hl hsmall HKey.out
        have HR : Hid (TurnT (fun b o => ¬ book o ∧ b = w.heap.size + 1) (w.heap.size + 1) X2 X4 ∧ TurnT (fun b o => (¬ book o ∧ b = w.heap.size + 1) ∨ isBook V.heap.size b o) (w.heap.size + 1) V X4 ∧ ∃ S', MapS ns.length X4 (w.heap.size + 1) S' ∧ ∀ c, c ∈ S' ↔ (∃ r ∈ pre, Cov.allowed F r = true ∧ c ∈ (Cov.masks ns.length tn).map (Cov.maskC r)) ∨ c ∈ (pre2 ++ [s]).map (Cov.maskC r)) := by
          have t1 : TurnT (fun b o => ¬ book o ∧ b = w.heap.size + 1) (w.heap.size + 1) X2 X4 := (TurnT.of_below hb3' (by omega)).trans ((TurnT.refl _ _ X3).grown (by have := hb3'.size; omega) ht4 (fun b hb => by
            subst hb
            refine ⟨Nat.le_refl _, fun o ho => ⟨?_, rfl⟩⟩
            obtain ⟨es, cl, ho'⟩ := xm3.obj
            rw [ho'] at ho
            cases ho
            simp [book]))
          refine hid ⟨t1, htx.trans (t1.mono (fun b o h => .inl h)), _, hm4, fun c => ?_⟩
          rw [mem_addS, hS' c]
          simp only [List.map_append, List.map_cons, List.map_nil, List.mem_append, List.mem_singleton, or_assoc]
        clear hb3 htx xm hS' xm3 hm4 ht4
        generalize keyV (Cov.maskC r s) = kv at *
        go_wp2
        refine qn_mk ⟨InHeld.of hb3', ?_⟩
        refine wpSteps_done ?_
        simp only [List.drop_succ_cons, List.drop_zero]
        clear hb3'
        gi_wp2
        exact HR.out
      case hd2 =>
        rintro xs X rfl ⟨ht, S', hm, hS'⟩
        refine (?_ : TurnT _ _ W2 X ∧ PosI _ _ _ _ _ _ _ _ _ X)
        obtain ⟨v1, v2, v3, v4, v5, v6, v7, v8, v9, hbV⟩ := HV.out
        have ht' := ht.strip (Nat.le_refl _)
        refine ⟨v9.trans (ht'.mono (fun b o h => ⟨h.1, .inl h.2⟩)), v1.trans ht.1, ht'.2 _ _ v2 (by omega), ⟨S', hm, fun c => ?_⟩, _, ht'.2 _ _ v5 (by omega), ?_⟩
        · rw [hS' c]
          constructor
          · rintro (⟨x, hx, h⟩ | h)
            · exact ⟨x, List.mem_append_left _ hx, h⟩
            · exact ⟨r, by simp, HYes.out, h⟩
          · rintro ⟨x, hx, h1, h2⟩
            rcases List.mem_append.1 hx with hx | hx
            · exact .inl ⟨x, hx, h1, h2⟩
            · rw [List.mem_singleton.1 hx] at h2
              exact .inr h2
        · have hlo := v6.lt
          exact (v6.turn ht' (fun b c t fr hb _ h => by have := (hlo b hb).1; have := h.2; omega) (fun b c t fr hb _ h => by have := hb.1; have := h.2; omega)).mono (fun b _ hb => ⟨hb.1, Nat.lt_of_lt_of_le hb.2.1 ht.1.size, hb.2.2⟩)
  case hdone =>
    rintro D xs W hD rfl hI hk
    obtain ⟨g1, g2, ⟨SS, g3, g4⟩, va, g5, g6⟩ := hI
    obtain ⟨va1, va2, va3, rfl⟩ : ∃ a l c, va = .slice a l c := by obtain ⟨a, c', h, -⟩ := (g6.sl (S := fun _ => True) (fun _ _ => trivial) (fun _ _ _ => trivial)).form; exact ⟨_, _, _, h⟩
    have hWs := g1.size
    have c2 : W.cell? ⟨w.heap.size + 1 + 1, 0, none⟩ = some (.map (some (w.heap.size + 1))) := (one_cell (B := w.heap.size + 2) g2).1
    have c3 : W.cell? ⟨w.heap.size + 1 + 1 + 1, 0, none⟩ = some (.slice va1 va2 va3) := (one_cell (B := w.heap.size + 3) g5).1
    have HM := hid (fun n => (Marks.nil w.heap.size w4.heap.size (W.drewN n)).push hD (by omega) hk)
    have HF := hid (And.intro g1 (And.intro g3 (And.intro g4 g6)))
    clear g1 g2 g3 g4 g5 g6 hk
    go_wp2
    go_quiet (fail)
    go_wp2
    refine leave_marksV (v := .tuple #[.map (some (w.heap.size + 1)), .slice va1 va2 va3]) (HM.out nq) (fun w' ht => ⟨?_, ?_⟩)
    · simp [results, Tryd.results33, go_sem]
    · obtain ⟨g1, g3, g4, g6⟩ := HF.out
      have ht0 : TurnT (isBook w.heap.size) w.heap.size W w' := ((TurnT.refl _ _ _).drewN nq).trans ht
      obtain ⟨es, cl, ho⟩ := g3.obj
      refine ⟨_, _, SS, rfl, g3.keep ((ht0.2 _ _ ho (by simp [isBook, book])).trans ho.symm), fun c => (g4 c).trans (open_iff ns F tn c).symm, ?_, by omega, HB4.out.trans ((g1.mono (by omega)).trans ht0.1)⟩
      have h7 := g6.turn ht0 (fun b c t fr hb _ => by simp [isBook, book]) (fun b c t fr hb _ => by simp [isBook, book])
      have hlo := h7.lt
      exact h7.sl (fun b hb => by have := (hlo b hb).1; show w.heap.size ≤ b; omega) (fun b _ hb => by have := hb.1; show w.heap.size ≤ b; omega)
  case hstop => rintro D xs W hD h hk; exact h.elim

end Go.Proofs.YtjaejnacdanpkaaDoor
