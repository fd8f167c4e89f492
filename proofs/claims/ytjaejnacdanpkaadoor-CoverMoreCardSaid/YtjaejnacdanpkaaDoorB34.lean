/- Reads in a round. shows of the program. shows of the program. why of the program. -/
import Derived.Test.YtjaejnacdanpkaaDoorB21
import Derived.Test.YtjaejnacdanpkaaDoorB31
import Derived.Test.YtjaejnacdanpkaaDoorB25
import Derived.Test.YtjaejnacdanpkaaDoorB17
namespace Go.Proofs.YtjaejnacdanpkaaDoor
open Go.RowKit

section
variable {P : Program} {ops : Array Oper} {md : Region.Mode} {r : Option Nat} {n : Nat}

theorem anyIn_fr {K2 : Act → World → Prop} {Q2 : Exit → Act → World → Prop} (hd : ∀ (i : Nat) (o : Oper), ops[i]? = some o → plainOp o.op = true) (hK : ∀ a w, K2 a w → Q2 .normal a w) : ∀ (f : Nat) (listed : Array Bool) (a : Act) (w : World),
    wpAny P md ops (QN K2) f listed a w → wpAnyIn (Fr r) n P md ops Q2 f listed a w
  | 0, _, _, _, h => ⟨h.1, hK _ _ h.2⟩
  | f + 1, _listed, _a, _w, h => ⟨fun h0 => hK _ _ (h.1 h0), fun i hi => opi_fr (hd i) (fun a w h => anyIn_fr hd hK f _ a w h) (h.2 i hi)⟩

/-- A region that only reads and calls what only reads. -/
theorem wpIn_region_quietR {id : Nat} {Q : Exit → Act → World → Prop} {a : Act} {w : World} {l : List Oper} (hm : P.follows .mixedOrders = true) (hB : Region.lexB .any l.toArray = true) (hp : Region.plainB l.toArray = true)
    (h : wpQuiet P l.toArray (fun w' => ∃ n, w' = w.drewN n) (fun a' => ∀ w', (∃ n, w' = w.drewN n) → Q .normal a' w') l a) : (Code.region id l.toArray true).wpIn (Fr r) n P Q a w := by
  simp only [Region.lexB, Bool.and_eq_true] at hB
  have hC : (fun w' => ∃ n, w' = w.drewN n) { w with drawn := w.drawn + 1 } := ⟨1, rfl⟩
  refine wpIn_region_any hm (anyIn_fr (K2 := fun a w => Q .normal a w) (Region.plain_spec hp) (fun _ _ h => h) _ _ _ _ (wpAny_of_quiet (Q' := QN fun a w => Q .normal a w) (C := fun w' => ∃ n, w' = w.drewN n) (Q := fun a' => ∀ w', (∃ n, w' = w.drewN n) → Q .normal a' w') (fun _ w' hw' h => h w' hw') _ _ _ _ hC ?_))
  have := wpAnyQ_lex (C := fun w' => ∃ n, w' = w.drewN n) (md := .any) hB.1 l.toArray.toList 0 (Array.replicate l.toArray.size false) a (by simp) (by simpa using hB.2) (by simpa using h)
  simpa using this
/-- The same, where the callees make memory. -/
theorem wpIn_region_quietGR {id : Nat} {Q : Exit → Act → World → Prop} {a : Act} {w : World} {l : List Oper} (hm : P.follows .mixedOrders = true) (hB : Region.lexB .any l.toArray = true) (hp : Region.plainB l.toArray = true)
    (h : wpQuiet P l.toArray (fun W => ∃ x : Grew w, W = x.1) (fun a' => ∀ w', (∃ x : Grew w, w' = x.1) → Q .normal a' w') l a) : (Code.region id l.toArray true).wpIn (Fr r) n P Q a w := by
  simp only [Region.lexB, Bool.and_eq_true] at hB
  have hC : (fun W => ∃ x : Grew w, W = x.1) { w with drawn := w.drawn + 1 } := ⟨⟨w.drewN 1, (below_drewN (Below.refl _ _) 1)⟩, rfl⟩
  refine wpIn_region_any hm (anyIn_fr (K2 := fun a w => Q .normal a w) (Region.plain_spec hp) (fun _ _ h => h) _ _ _ _ (wpAny_of_quiet (Q' := QN fun a w => Q .normal a w) (C := fun W => ∃ x : Grew w, W = x.1) (Q := fun a' => ∀ w', (∃ x : Grew w, w' = x.1) → Q .normal a' w') (fun _ w' hw' h => h w' hw') _ _ _ _ hC ?_))
  have := wpAnyQ_lex (C := fun W => ∃ x : Grew w, W = x.1) (md := .any) hB.1 l.toArray.toList 0 (Array.replicate l.toArray.size false) a (by simp) (by simpa using hB.2) (by simpa using h)
  simpa using this
end

theorem NowIs.len {g len cap : Nat} {W : World} {xs : List Int} (h : NowIs g len cap W xs) : xs.length = len := by simpa using h.1
theorem NowIs.ints {g len cap : Nat} {W : World} {xs : List Int} (h : NowIs g len cap W xs) : IntsV (· = g) W (.slice (some ⟨g, 0, none⟩) len cap) xs :=
  IntsF.sl ⟨by rw [h.len]; exact h, fun b hb => by simpa [Value.ownBlock] using hb.symm⟩

theorem openC_len (ns : List Nat) (c : List Int) (h : c.length = ns.length) : (Cov.openC ns c).length = ns.length := by simp [Cov.openC, h]
theorem openC_fst : ∀ (ns : List Nat) (c : List Int), c.length = ns.length → (Cov.openC ns c).map (·.1) = ns
  | [], [], _ => rfl
  | n :: ns, x :: c, h => by
    have := openC_fst ns c (by simpa using h)
    simp only [Cov.openC, List.zip_cons_cons, List.map_cons] at this ⊢
    rw [this]
  | [], _ :: _, h => by simp at h
  | _ :: _, [], h => by simp at h
theorem openC_snd : ∀ (ns : List Nat) (c : List Int), c.length = ns.length → (Cov.openC ns c).map (·.2.2) = c
  | [], [], _ => rfl
  | n :: ns, x :: c, h => by
    have := openC_snd ns c (by simpa using h)
    simp only [Cov.openC, List.zip_cons_cons, List.map_cons] at this ⊢
    rw [this]
  | [], _ :: _, h => by simp at h
  | _ :: _, [], h => by simp at h
theorem openC_at (ns : List Nat) (c : List Int) (h : c.length = ns.length) (i : Nat) (hi : i < (Cov.openC ns c).length) : ((Cov.openC ns c)[i]).2.1 = decide (c[i]'(by rw [openC_len ns c h] at hi; omega) = -1) := by
  simp [Cov.openC]

/-- **rows as an iterator.** -/
theorem rows_iter (ns : List Nat) (hns : ∀ n ∈ ns, n ≤ 8) (hl : ns.length ≤ 8) (c : List Int) (hc : c.length = ns.length) (n0 nB bN bO bF bP g cap bC : Nat) (sa : Option Addr) (sc : Nat) (fv tv cv : Value) (w : World) (hn0 : n0 ≤ w.heap.size)
    (hg0 : n0 ≤ g) (bA : Nat → Obj → Prop) (hbA : ∀ b o, (b = bN ∨ b = bO ∨ b = bF ∨ b = bP ∨ b = g ∨ b = bC) → ¬ bA b o)
    (hfb : FillB w bN bO bF bP g c.length cap (.func (.func 74) #[] #[.pointer (some ⟨bC, 0, none⟩)]) sa ns.length sc fv tv) (hnow : NowIs g c.length cap w c)
    (hC : w.heap[bC]? = some (.cells #[cv] 22 (0, 0))) {Sc : Nat → Prop} (hcv : IntsV Sc w cv c) (hSc : ∀ X, TurnT (fun b o => (bA b o ∨ isBook nB b o) ∨ b = g) n0 w X → KeepS Sc w X)
    (hsz : IntsV (· < n0) w (.slice sa ns.length sc) (szI ns)) :
    IterS (α := List Int) Tryd.prog n0 nB 77 #[.pointer (some ⟨bF, 0, none⟩)] (fun _ => #[.slice (some ⟨g, 0, none⟩) c.length cap])
      (fun pre x W => pre ++ [x] <+: Cov.fillS (Cov.openC ns c) ∧ NowIs g c.length cap W x) bA (fun b o => b = g ∧ ¬ book o) (fun xs _ => xs = Cov.fillS (Cov.openC ns c)) w := by
  have hol : (Cov.openC ns c).length = c.length := by rw [openC_len ns c hc, hc]
  have h := fill_iter (Cov.openC ns c) (fun o ho => by
      have : o.1 ∈ (Cov.openC ns c).map (·.1) := List.mem_map.2 ⟨o, ho, rfl⟩
      rw [openC_fst ns c hc] at this
      exact hns _ this) (by rw [hol, hc]; exact hl) n0 nB bN bO bF bP g cap 74 #[.pointer (some ⟨bC, 0, none⟩)] sa sc fv tv w hn0 hg0 bA (fun b o hb => hbA b o (by rcases hb with h | h | h | h | h <;> simp [h]))
    (by rw [hol]; rw [← hc] at hfb; exact hfb) (by rw [openC_snd ns c hc, hol]; exact hnow) (by rw [openC_fst ns c hc, hol, hc]; exact hsz)
    (fn_enters Tryd.func74 (by kernel_rfl) rfl)
    (fun X ht i hi => by
      have hne : bC ≠ g := by
        rintro rfl
        obtain ⟨c', h3⟩ := hnow.obj
        rw [hC] at h3
        cases h3
      have hci : i < c.length := by rw [← hol]; exact hi
      have hb : X.heap[bC]? = some (.cells #[cv] 22 (0, 0)) := ht.2 _ _ hC (by
        rintro ((h | h) | h)
        · exact hbA bC _ (by simp) h
        · simp [isBook, book] at h
        · exact hne h)
      have := rows1_any c i hci cv Sc bC X hb (hcv.keep (hSc X ht))
      rw [openC_at ns c hc i hi]
      exact this.mono (fun _ _ h => ⟨h.1, 0, h.2.symm⟩))
  rw [hol] at h
  exact h

end Go.Proofs.YtjaejnacdanpkaaDoor

namespace Go.Proofs.YtjaejnacdanpkaaDoor
open Go.RowKit

attribute [local go_sem] Oper.semAt_some

/-- What a set of forbidden combinations finds in a row. -/
def anyF (F : List (List Int)) (r : List Int) (l : List Int) : Bool := l.any fun k => Cov.has r (F.getD k.toNat [])
theorem showsB_all (ns : List Nat) (F : List (List Int)) (c l : List Int) (h : Cov.comboB ns c = true) : Cov.showsB ns F c l = (Cov.fillS (Cov.openC ns c)).all fun r => anyF F r l := by
  rw [Cov.fill_rows ns c h]; rfl
theorem rows_len (ns : List Nat) (c : List Int) (h : Cov.comboB ns c = true) : ∀ r ∈ Cov.fillS (Cov.openC ns c), r.length = ns.length := fun r hr => by
  rw [Cov.fill_rows ns c h] at hr
  exact Cov.comboB_len ns r (Cov.rowB_combo ns r ((Cov.mem_rowsC ns r).1 (List.mem_filter.1 hr).1))

theorem quiet_same' {P : Program} {f : FuncId} {args : Array Value} {w : World} {v : Value} (h : Calls P f args w fun e w' => e = .returned v ∧ w = w') : Calls P f args w fun e w' => e = .returned v ∧ ∃ n, w' = w.drewN n :=
  h.mono (fun _ _ h => ⟨h.1, 0, h.2.symm⟩)

def resA (B : Nat) : Nat → Obj → Prop := fun b o => b = B ∧ ¬ book o

theorem load_bool {w : World} {g : Nat} {b : Bool} {tmps : Array Value} (h : w.heap[g]? = some (.cells #[.bool b] 4 (0, 0))) (hp : tmps[6]? = some (.pointer (some ⟨g, 0, none⟩))) :
    (results Tryd.f48 tmps).run Tryd.prog w = .ok (.bool b) w := by
  have g0 := (one_cell h).1
  simp [results, Tryd.results48, go_sem, hp, g0]

set_option maxRecDepth 100000 in
set_option maxHeartbeats 4000000 in
theorem pshows_any (ns : List Nat) (hns : ∀ n ∈ ns, n ≤ 8) (hl0 : 0 < ns.length) (hl : ns.length ≤ 8) (F : List (List Int)) (hF : GapsF ns.length F) (hFl : F.length ≤ 12) (c : List Int) (hc : Cov.comboB ns c = true) (s : Nat) (hs : s < 2 ^ F.length) (tn : Int) (sa : Option Addr) (sc : Nat) (fa : Option Addr) (fc : Nat) (cv : Value) (S T Sc : Nat → Prop) (w : World)
    (hsz : IntsV S w (.slice sa ns.length sc) (szI ns)) (hf : RowsV T w (.slice fa F.length fc) F) (hcv : IntsV Sc w cv c) (hT : TabD w) :
    Calls Tryd.prog 48 #[.agg #[.slice sa ns.length sc, .slice fa F.length fc, .int .i64 tn], cv, .int .u64 s] w fun e w' => e = .returned (.bool (Cov.showsB ns F c (Cov.idx 0 12 s))) ∧ Below w.heap.size w w' := by
  have hcl := Cov.comboB_len ns c hc
  have hsz0 : IntsV (· < w.heap.size) w (.slice sa ns.length sc) (szI ns) := IntsV.mono hsz (fun b h _ => h)
  have hf0 : RowsV (· < w.heap.size) w (.slice fa F.length fc) F := RowsV.mono hf (fun b h _ => h)
  have hcv0 : IntsV (· < w.heap.size) w cv c := IntsV.mono hcv (fun b h _ => h)
  obtain ⟨sa', sc', es, hoks, hcaps, hmaxs⟩ := hsz.form
  rw [List.length_map] at es hoks hcaps
  cases es
  obtain ⟨fa', fc', ef, hokf, hcapf, hmaxf⟩ := hf.form
  cases ef
  obtain ⟨ca, ccap, rfl, -, -, -⟩ := hcv.form
  have h4096 : s < 4096 := Nat.lt_of_lt_of_le hs (Nat.le_trans (Nat.pow_le_pow_right (by omega) hFl) (by decide))
  obtain ⟨W1, hW1⟩ : ∃ W1, W1 = ((w.alloc (.cells #[.slice sa ns.length sc, .slice fa F.length fc, .int .i64 tn] 57)).alloc (.cells #[.int .u64 s] 67)).alloc (.cells #[.bool false] 4) := ⟨_, rfl⟩
  have hb1 : Below w.heap.size w W1 := by rw [hW1]; exact (((Below.refl _ _).alloc (Nat.le_refl _) _).alloc (by simp) _).alloc (by simp; omega) _
  have hs1 : W1.heap.size = w.heap.size + 3 := by rw [hW1]; simp
  have p0 : W1.heap[w.heap.size]? = some (.cells #[.slice sa ns.length sc, .slice fa F.length fc, .int .i64 tn] 57 (0, 0)) := by rw [hW1]; exact heap_step _ (heap_step _ (heap_new _ _ rfl))
  have p1 : W1.heap[w.heap.size + 1]? = some (.cells #[.int .u64 s] 67 (0, 0)) := by rw [hW1]; exact heap_step _ (heap_new _ _ (by simp))
  have p2 : W1.heap[w.heap.size + 2]? = some (.cells #[.bool false] 4 (0, 0)) := by rw [hW1]; exact heap_new _ _ (by simp)
  have HRows := hid (prows_any c (by omega) (by omega) sa ns.length sc (.slice fa F.length fc) (.int .i64 tn) (.slice ca c.length ccap) ⟨_, _, _, rfl⟩ ⟨_, rfl⟩ (· < w.heap.size) W1 (IntsV.keep hcv0 (KeepS.below hb1)))
  have H1 := hid (And.intro hb1 (And.intro hs1 (And.intro p0 (And.intro p1 p2))))
  have HIn := hid (And.intro hsz0 (And.intro hf0 (And.intro hcv0 hT)))
  have HSh := hid (showsB_all ns F c (Cov.idx 0 12 s) hc)
  have HRL := hid (rows_len ns c hc)
  have HCL := hid hcl
  have hc8 : c.length ≤ 8 := by omega
  have HFG := hid hF
  have HNS := hid hns
  clear hsz hf hcv hsz0 hf0 hcv0 hT hb1 hs1 p0 p1 p2 hc hcl hF hns
  rw [← callsIn_wide (n := 5)]
  refine callsIn_of_wp_marks Tryd.func48 rfl trivial ?_ rfl
  simp only [Tryd.ntmps48, List.size_toArray, List.length_cons, List.length_nil, Nat.reduceAdd, Nat.reduceSub, Array.replicate_succ, Array.replicate_zero, List.push_toArray, List.append_toArray, List.nil_append, List.cons_append]
  rw [wpIn_wide]
  go_wp2_with fail
  rw [← hW1]
  clear hW1
  refine HRows.out.mono ?_
  rintro e w4 ⟨bN, bO, bF, bP, g, cap, bC, rfl, q1, q2, q3, q4, q5, q6⟩
  have HQ := hid (And.intro q1 (And.intro q2 (And.intro q3 (And.intro q4 (And.intro q5 q6)))))
  clear q1 q2 q3 q4 q5 q6 HRows
  go_wp2
  rw [← wpIn_wide (n := 5)]
  obtain ⟨hb1, hs1, p0, p1, p2⟩ := H1.out
  obtain ⟨q1, q2, q3, q4, q5, q6⟩ := HQ.out
  obtain ⟨i1, i2, i3, i4⟩ := HIn.out
  have hb4 : Below w.heap.size w w4 := hb1.trans (q3.mono (by omega))
  have hs4 : w.heap.size + 3 ≤ w4.heap.size := by have := q3.size; omega
  have r0 : w4.heap[w.heap.size]? = _ := (q3.block _ (by omega)).trans p0
  have r1 : w4.heap[w.heap.size + 1]? = _ := (q3.block _ (by omega)).trans p1
  have r2 : w4.heap[w.heap.size + 2]? = _ := (q3.block _ (by omega)).trans p2
  have hAll := HSh.out
  have HSeq : Hid (IterS (α := List Int) Tryd.prog w.heap.size w4.heap.size 77 #[.pointer (some ⟨bF, 0, none⟩)] (fun _ => #[.slice (some ⟨g, 0, none⟩) c.length cap])
      (fun pre x W => pre ++ [x] <+: Cov.fillS (Cov.openC ns c) ∧ NowIs g c.length cap W x) (resA (w.heap.size + 2)) (fun b o => b = g ∧ ¬ book o) (fun xs _ => xs = Cov.fillS (Cov.openC ns c)) w4) :=
    hid (rows_iter ns HNS.out hl c HCL.out w.heap.size w4.heap.size bN bO bF bP g cap bC sa sc (.slice fa F.length fc) (.int .i64 tn) (.slice ca c.length ccap) w4 (by omega) (by omega) (resA (w.heap.size + 2)) (fun b o hb h => by
        have := h.1
        omega) q1 q2 q6 (i3.keep (KeepS.of_below hb4 (fun _ h => h))) (fun X ht => KeepS.of_below ht.1 (fun _ h => h)) (i1.keep (KeepS.of_below hb4 (fun _ h => h))))
  obtain ⟨all, hall⟩ : ∃ all, all = Cov.fillS (Cov.openC ns c) := ⟨_, rfl⟩
  rw [← hall] at HSeq hAll
  have hRL := HRL.out
  rw [← hall] at hRL
  obtain ⟨res, hres⟩ : ∃ res, res = Cov.showsB ns F c (Cov.idx 0 12 s) := ⟨_, rfl⟩
  rw [← hres] at hAll
  have HRes := hid hres
  have HAll := hid hAll
  have HRL2 := hid hRL
  have HR0 := hid (And.intro r0 (And.intro r1 r2))
  have HB4 := hid hb4
  have hgn : g ≠ w.heap.size + 2 := by omega
  have hg3 : w.heap.size + 3 ≤ g := by omega
  clear hb1 hs1 p0 p1 p2 q1 q2 q3 q4 q5 q6 i1 i2 i3 i4 hb4 r0 r1 r2 hAll hRL HSh HRL hall H1 HQ hres
  refine wpIn_rangeS (α := List Int) (n0 := w.heap.size) (gf := 77) rfl (fn_enters Tryd.func77 (by kernel_rfl) rfl) (fun _ => rfl) HSeq.out (by omega) (fun _ _ h => h.2) (fun _ _ h => h.2)
    (fun pre W => TurnT (fun b o => (b = g ∧ ¬ book o) ∨ isBook w4.heap.size b o) w.heap.size w4 W ∧ (pre.all fun r => anyF F r (Cov.idx 0 12 s)) = true)
    (fun _ W => Below w.heap.size w4 W ∧ W.heap[w.heap.size + 2]? = some (.cells #[.bool false] 4 (0, 0)) ∧ res = false)
    (fun pre A B h ht => ⟨h.1.trans ht, h.2⟩) (fun _ A B h ht => ⟨h.1.trans ht.1, ht.2 _ _ h.2.1 (by
      rintro (h | h)
      · exact hgn h.1.symm
      · simp [isBook, book] at h), h.2.2⟩) (fun _ _ _ h _ => h) ⟨TurnT.refl _ _ _, rfl⟩ ?hround ?hdone ?hstop
  case hround =>
    rintro l pre r W hlr ⟨hti, hpre⟩ ⟨hGp, hGn⟩
    simp only [List.zip_toArray, List.zip_cons_cons, List.zip_nil_left]
    gi_wp2
    refine ⟨TurnT.refl _ _ _, fun W2 ht2 hs2 hl2 => ?_⟩
    have htt := hti.trans (ht2.mono (A' := fun b o => (b = g ∧ ¬ book o) ∨ isBook w4.heap.size b o) (fun b o h => .inr h))
    have hkeep : ∀ b c t, b < w.heap.size + 3 → w4.heap[b]? = some (.cells c t (0, 0)) → W2.heap[b]? = some (.cells c t (0, 0)) := fun b c t hb h => htt.2 _ _ h (by
      rintro (h | h)
      · have := h.1; omega
      · simp [isBook, book] at h)
    have r0 := hkeep _ _ _ (by omega) HR0.out.1
    have r1 := hkeep _ _ _ (by omega) HR0.out.2.1
    have r2 := hkeep _ _ _ (by omega) HR0.out.2.2
    obtain ⟨i1, i2, i3, i4⟩ := HIn.out
    have hb2 : Below w.heap.size w W2 := HB4.out.trans htt.1
    have hn2 : NowIs g c.length cap W2 r := hGn.keep (by
      obtain ⟨c', hc'⟩ := hGn.obj
      rw [ht2.2 _ _ hc' (by simp [isBook, book]), hc'])
    have hrl : r.length = ns.length := HRL2.out r (hGp.subset (by simp))
    have c0 := cell_of_row _ _ 0 _ _ (0, 0) r0
    have c1 := cell_of_row _ _ 1 _ _ (0, 0) r0
    simp only [List.getElem?_toArray, List.getElem?_cons_zero, List.getElem?_cons_succ] at c0 c1
    have c3 := (one_cell r1).1
    have c4 := (one_cell r2).1
    have c5 := (one_cell r2).2
    have HFW := hid (i2.keep (KeepS.of_below hb2 (fun _ h => h)))
    have HNW := hid hn2.ints
    have HTW := hid (i4.below hb2 i4.lt)
    have HX := hid (And.intro htt (And.intro hpre r2))
    have HGP := hid hGp
    have HRLn := hid hrl
    have hcl8 := HCL.out
    clear hti hpre hGp hGn ht2 hs2 htt hkeep r0 r1 r2 i1 i2 i3 i4 hb2 hn2 hrl hl2 hlr hcl8
    gi_wp2
    gi_loopw [8, 9] (fun f q wr => ∃ (b : Bool) (k : Nat), k < 4096 ∧ k < 2 ^ F.length ∧ f = .bool b ∧ q = .int .u64 k ∧ Hid (anyF F r (Cov.idx 0 12 s) = (b || anyF F r (Cov.idx 0 12 k))) ∧ ∃ m, wr = W2.drewN m) (fun _ q _ => (intOf q).toNat)
    case atStart => exact ⟨false, s, h4096, hs, rfl, rfl, hid (by simp), 0, rfl⟩
    case round =>
      obtain ⟨b, k, hk, hk2, rfl, rfl, HE, m, rfl⟩ := hrel
      have hcl4 : (W2.drewN m).cell? ⟨w.heap.size + 2, 0, none⟩ = some (.bool false) := c4
      by_cases hgo : k ≠ 0 ∧ b = false
      · obtain ⟨h0, rfl⟩ := hgo
        obtain ⟨i1, i2, i3⟩ := idx_step k hk h0
        have hge : Lib.ctz 64 k < F.length := by
          have := Cov.idx_ge 0 F.length k (Lib.ctz 64 k : Int) (by rw [← idx12 hFl hk2, i1]; exact List.mem_cons_self ..)
          omega
        have hE := HE.out
        rw [i1] at hE
        have HE2 : Hid (anyF F r (Cov.idx 0 12 s) = (Cov.has r F[Lib.ctz 64 k] || anyF F r (Cov.idx 0 12 (k &&& (k - 1))))) := hid (by
          rw [hE]
          show (false || (Cov.has r (F.getD ((Lib.ctz 64 k : Nat) : Int).toNat []) || anyF F r (Cov.idx 0 12 (k &&& (k - 1))))) = _
          rw [Int.toNat_natCast, List.getD_eq_getElem?_getD, List.getElem?_eq_getElem hge]; rfl)
        have HTz := hid (fun nq => Calls.quiet_of (quiet_same' (tz_any k (by omega) h0 ((W2.drewN m).drewN nq) (HTW.out.keep rfl))))
        obtain ⟨u, hcu, -, huu⟩ := HFW.out.at hge
        have hFg := HFG.out _ (List.getElem_mem hge)
        have HHas := hid (fun nq => Calls.quiet_of (quiet_same' (phas_any r F[Lib.ctz 64 k] (by rw [HRLn.out, hFg.1]) hFg.2 (.slice (some ⟨g, 0, none⟩) c.length cap) u (· = g) (· < w.heap.size) ((W2.drewN m).drewN nq) (IntsV.keep HNW.out (KeepS.below (below_drewN (below_drewN (Below.refl _ _) _) _))) (IntsV.keep huu (KeepS.below (below_drewN (below_drewN (Below.refl _ _) _) _))))))
        obtain ⟨au, lu, rfl, -, -, -⟩ := huu.form
        have d1 : ((k : Int) != 0) = true := bneT (by omega)
        have hand := dec_and k hk h0
        have hk1 : (1 : Int) ≤ k := by omega
        have hk3 : (k : Int) ≤ 4096 := by omega
        have hk22 : (k &&& (k - 1)) < 2 ^ F.length := by omega
        have hk24 : (k &&& (k - 1)) < 4096 := by omega
        clear hE i1 hFg huu HE
        generalize F[Lib.ctz 64 k] = f at *
        generalize k &&& (k - 1) = k2 at *
        generalize Lib.ctz 64 k = i at *
        have hi0 : (0 : Int) ≤ i := by omega
        have hi1 : (i : Int) < F.length := by omega
        generalize Cov.has r f = hb at *
        have hcW0 : (W2.drewN m).cell? ⟨w.heap.size, 1, none⟩ = some (.slice fa F.length fc) := c1
        have hcU : (W2.drewN m).cell? ⟨slb fa, slo fa + i, none⟩ = some (.slice au f.length lu) := hcu
        generalize hX : W2.drewN m = X at *
        have HX2 := hid hX
        clear hX
        gi_wp2
        refine wpIn_region_quietR (r := some l) (by kernel_rfl) (by kernel_rfl) (by kernel_rfl) ?_
        repeat (go_big_quiet_step (first | exact (HTz.out _) | exact (HHas.out _)))
        refine wpQuiet_nil ?_
        rintro _ ⟨nq, rfl⟩
        clear HTz HHas
        gi_wp2
        go_roundw
        case rel => exact ⟨hb, k2, hk24, hk22, rfl, rfl, HE2, by rw [← HX2.out]; simp only [World.drewN_drewN]; exact ⟨_, rfl⟩⟩
        case measure => simp [intOf]; omega
      · have hE := HE.out
        have hE2 : anyF F r (Cov.idx 0 12 s) = b := by
          rw [hE]
          by_cases h0 : k = 0
          · subst h0; rw [idx_zero]; cases b <;> rfl
          · have : b = true := by cases b <;> simp_all
            rw [this]; rfl
        have hkb : ((k : Int) != 0) = false ∨ b = true := by
          by_cases h0 : k = 0
          · exact .inl (bneF (by omega))
          · right; cases b <;> simp_all
        obtain ⟨htt, hpre, r2⟩ := HX.out
        have hX1 : TurnT (fun b o => (b = g ∧ ¬ book o) ∨ isBook w4.heap.size b o) w.heap.size w4 (W2.drewN m) := htt.drewN m
        have ht20 : TurnT (resA (w.heap.size + 2)) w.heap.size W2 (W2.drewN m) := (TurnT.refl _ _ _).drewN m
        cases b with
        | true =>
          have HQ2 : Hid (QS (resA (w.heap.size + 2)) w.heap.size (fun pre W => TurnT (fun b o => (b = g ∧ ¬ book o) ∨ isBook w4.heap.size b o) w.heap.size w4 W ∧ (pre.all fun r => anyF F r (Cov.idx 0 12 s)) = true)
              (fun (_ : List (List Int)) W => Below w.heap.size w4 W ∧ W.heap[w.heap.size + 2]? = some (.cells #[.bool false] 4 (0, 0)) ∧ res = false) (pre ++ [r]) W2 .normal { tmps := #[], defers := [] } (W2.drewN m)) := hid ⟨ht20, hX1, by
            simp [hpre, hE2]⟩
          have hkk : (((k : Int) != 0) = false ∨ ((k : Int) != 0) = true) := by cases ((k : Int) != 0) <;> simp
          clear hE hE2 hkb hgo htt hpre r2 hX1 ht20 HE HX
          rcases hkk with hkk | hkk
          · gi_wp2
            exact HQ2.out
          · gi_wp2
            exact HQ2.out
        | false =>
          have hkk : ((k : Int) != 0) = false := by rcases hkb with h | h; exact h; cases h
          have ht21 : TurnT (resA (w.heap.size + 2)) w.heap.size (W2.drewN m) ((W2.drewN m).setCell ⟨w.heap.size + 2, 0, none⟩ (.bool false)) := TurnT.setCell (A := resA (w.heap.size + 2)) (TurnT.refl _ _ (W2.drewN m)) (p := ⟨w.heap.size + 2, 0, none⟩) (o := .cells #[.bool false] 4 (0, 0)) (show (W2.drewN m).heap[w.heap.size + 2]? = _ from r2) ⟨rfl, by simp [book]⟩ (by show w.heap.size ≤ w.heap.size + 2; omega) _
          have hset : ((W2.drewN m).setCell ⟨w.heap.size + 2, 0, none⟩ (.bool false)).heap[w.heap.size + 2]? = some (.cells #[.bool false] 4 (0, 0)) := one_set _ r2
          have hrf : res = false := by
            rw [HAll.out]
            cases ha : all.all (fun r => anyF F r (Cov.idx 0 12 s)) with
            | false => rfl
            | true => rw [List.all_eq_true] at ha; have := ha r (HGP.out.subset (by simp)); rw [hE2] at this; cases this
          have HQ2 : Hid (QS (resA (w.heap.size + 2)) w.heap.size (fun pre W => TurnT (fun b o => (b = g ∧ ¬ book o) ∨ isBook w4.heap.size b o) w.heap.size w4 W ∧ (pre.all fun r => anyF F r (Cov.idx 0 12 s)) = true)
              (fun (_ : List (List Int)) W => Below w.heap.size w4 W ∧ W.heap[w.heap.size + 2]? = some (.cells #[.bool false] 4 (0, 0)) ∧ res = false) (pre ++ [r]) W2 .ret { tmps := #[], defers := [] } ((W2.drewN m).setCell ⟨w.heap.size + 2, 0, none⟩ (.bool false))) := hid ⟨ht20.trans ht21, hX1.1.trans ht21.1, hset, hrf⟩
          clear hE hE2 hkb hgo htt hpre hX1 ht20 ht21 hset hrf HE
          have hcf : (W2.drewN m).frozen? ⟨w.heap.size + 2, 0, none⟩ = false := c5
          clear r2 HX
          gi_wp2
          exact HQ2.out
  case hdone =>
    rintro D xs W hD hxs ⟨hti, hpre⟩ hk
    have r2 : W.heap[w.heap.size + 2]? = some (.cells #[.bool false] 4 (0, 0)) := hti.2 _ _ HR0.out.2.2 (by
      rintro (h | h)
      · have := h.1; omega
      · simp [isBook, book] at h)
    have c4 := (one_cell r2).1
    have c5 := (one_cell r2).2
    have hset : (W.setCell ⟨w.heap.size + 2, 0, none⟩ (.bool true)).heap[w.heap.size + 2]? = some (.cells #[.bool true] 4 (0, 0)) := one_set _ r2
    have hDb : D ≠ w.heap.size + 2 := by omega
    have hk2 : (W.setCell ⟨w.heap.size + 2, 0, none⟩ (.bool true)).heap[D]? = some (.deferred (some [])) := (Below.heap_setCell _ _ _ _ hDb).trans hk
    have HM := hid ((Marks.nil w.heap.size w4.heap.size (W.setCell ⟨w.heap.size + 2, 0, none⟩ (.bool true))).push hD (by omega) hk2)
    have hrt : res = true := by rw [HAll.out, ← hxs]; exact hpre
    have HB := hid (HB4.out.trans (hti.1.trans ((Below.refl _ _).setCell (by show w.heap.size ≤ w.heap.size + 2; omega) (.bool true) : Below w.heap.size W (W.setCell ⟨w.heap.size + 2, 0, none⟩ (.bool true)))))
    have HSet := hid hset
    have HRt := hid hrt
    clear hti hpre hk r2 hset hDb hk2 hrt hxs
    go_wp2
    refine leave_marksV HM.out (fun w' ht => ⟨load_bool (b := true) (ht.2 _ _ HSet.out (by simp [isBook, book])) rfl, by rw [← HRes.out, HRt.out], HB.out.trans ht.1⟩)
  case hstop =>
    rintro D xs W hD ⟨hb, r2, hrf⟩ hk
    refine leave_marksV ((Marks.nil w.heap.size w4.heap.size W).push hD (by omega) hk) (fun w' ht => ⟨load_bool (b := false) (ht.2 _ _ r2 (by simp [isBook, book])) rfl, by rw [← HRes.out, hrf], HB4.out.trans (hb.trans ht.1)⟩)

end Go.Proofs.YtjaejnacdanpkaaDoor

namespace Go.Proofs.YtjaejnacdanpkaaDoor
open Go.RowKit

theorem foldl_range_succ {α : Type} (f : α → Nat → α) (a : α) (k : Nat) : (List.range (k + 1)).foldl f a = f ((List.range k).foldl f a) k := by
  rw [List.range_succ, List.foldl_append]; rfl

set_option maxRecDepth 100000 in
set_option maxHeartbeats 4000000 in
theorem pwhy_any (ns : List Nat) (hns : ∀ n ∈ ns, n ≤ 8) (hl0 : 0 < ns.length) (hl : ns.length ≤ 8) (F : List (List Int)) (hF : GapsF ns.length F) (hFl : F.length ≤ 12) (c : List Int) (hc : Cov.comboB ns c = true) (tn : Int) (sa : Option Addr) (sc : Nat) (fa : Option Addr) (fc : Nat) (cv : Value) (S T Sc : Nat → Prop) (w : World)
    (hsz : IntsV S w (.slice sa ns.length sc) (szI ns)) (hf : RowsV T w (.slice fa F.length fc) F) (hcv : IntsV Sc w cv c) (hT : TabD w) :
    Calls Tryd.prog 35 #[.agg #[.slice sa ns.length sc, .slice fa F.length fc, .int .i64 tn], cv] w fun e w' => ∃ x, e = .returned x ∧ IntsV (w.heap.size ≤ ·) w' x (Cov.whyL ns F c) ∧ Below w.heap.size w w' := by
  have hsz0 : IntsV (· < w.heap.size) w (.slice sa ns.length sc) (szI ns) := IntsV.mono hsz (fun b h _ => h)
  have hf0 : RowsV (· < w.heap.size) w (.slice fa F.length fc) F := RowsV.mono hf (fun b h _ => h)
  have hcv0 : IntsV (· < w.heap.size) w cv c := IntsV.mono hcv (fun b h _ => h)
  obtain ⟨sa', sc', es, hoks, hcaps, hmaxs⟩ := hsz.form
  rw [List.length_map] at es hoks hcaps
  cases es
  obtain ⟨fa', fc', ef, hokf, hcapf, hmaxf⟩ := hf.form
  cases ef
  obtain ⟨ca, ccap, rfl, -, -, -⟩ := hcv.form
  have hA0 : Below w.heap.size w (w.alloc (.cells #[.slice sa ns.length sc, .slice fa F.length fc, .int .i64 tn] 57)) := (Below.refl _ _).alloc (Nat.le_refl _) _
  have hr0 : (w.alloc (.cells #[.slice sa ns.length sc, .slice fa F.length fc, .int .i64 tn] 57)).heap[w.heap.size]? = some (.cells #[.slice sa ns.length sc, .slice fa F.length fc, .int .i64 tn] 57 (0, 0)) := heap_new _ _ rfl
  have hs0 : (w.alloc (.cells #[.slice sa ns.length sc, .slice fa F.length fc, .int .i64 tn] 57)).heap.size = w.heap.size + 1 := by simp
  have hwe : Cov.whyL ns F c = ((List.range (2 ^ F.length)).foldl (Cov.whyStep (Cov.showsB ns F c) F.length) none).getD [] := by rw [Cov.why_eq]; rfl
  rw [hwe]
  have hm : 2 ^ F.length ≤ 4096 := Nat.le_trans (Nat.pow_le_pow_right (by omega) hFl) (by decide)
  have hw : IntKind.u64.wrap ((2 : Int) ^ F.length) = ((2 ^ F.length : Nat) : Int) := by
    have e : ((2 : Int) ^ F.length) = ((2 ^ F.length : Nat) : Int) := by push_cast; rfl
    rw [e]
    generalize 2 ^ F.length = m at *
    rw [IntKind.wrap_u64]
    omega
  have HPop := hid (fun k (h : k < 2 ^ F.length) => pop12 (s := k) hFl h)
  have HIdx := hid (fun k (h : k < 2 ^ F.length) => idx12 (s := k) hFl h)
  have HShows := hid (fun k (h : k < 2 ^ F.length) X (hb : Below w.heap.size w X) => pshows_any ns hns hl0 hl F hF hFl c hc k h tn sa sc fa fc (.slice ca c.length ccap) (· < w.heap.size) (· < w.heap.size) (· < w.heap.size) X (hsz0.keep (KeepS.of_below hb (fun _ h => h))) (hf0.keep (KeepS.of_below hb (fun _ h => h))) (hcv0.keep (KeepS.of_below hb (fun _ h => h))) (hT.below hb hT.lt))
  have HTab := hid (fun X (hb : Below w.heap.size w X) => hT.below hb hT.lt)
  have HA := hid (And.intro hA0 (And.intro hr0 hs0))
  generalize hMM : 2 ^ F.length = M at *
  obtain ⟨q, hq⟩ : ∃ q, q = Cov.showsB ns F c := ⟨_, rfl⟩
  rw [← hq] at HShows ⊢
  clear hsz hf hcv hsz0 hf0 hcv0 hT hA0 hr0 hs0 hwe hc hns hF hMM hq
  go_enter Tryd.func35, Tryd.ntmps35
  go_wp2
  generalize hW : w.alloc (.cells #[.slice sa ns.length sc, .slice fa F.length fc, .int .i64 tn] 57) = W at *
  clear hW hw
  go_loopw [5, 6, 14] (fun v f i wr => ∃ k : Nat, k ≤ M ∧ i = .int .u64 k ∧ ∃ b : Option (List Int), f = .bool b.isSome ∧ Hid (b = (List.range k).foldl (Cov.whyStep q F.length) none) ∧ Hid (IntsV (w.heap.size ≤ ·) wr v (b.getD []) ∧ Below W.heap.size W wr)) (fun _ _ i _ => M - (intOf i).toNat)
  case atStart => exact ⟨0, by omega, rfl, none, rfl, hid rfl, hid ⟨SlV.nil _ _ _, Below.refl _ _⟩⟩
  case round =>
    obtain ⟨k, hk, rfl, b, rfl, HB, HV⟩ := hrel
    obtain ⟨hv, hbw⟩ := HV.out
    have hws := HA.out.2.2
    have hbww := HA.out.1.trans (hbw.mono (by omega))
    by_cases hlt : k < M
    · have HF := hid (foldl_range_succ (Cov.whyStep q F.length) none k)
      have hpop := HPop.out k hlt
      have hidx := HIdx.out k hlt
      have HOnes := hid (fun X => ones_any k (by omega) X)
      have hpl := pop_le12 k
      rw [hpop] at hpl
      rw [hpop] at HOnes
      have HStep : Hid ((List.range (k + 1)).foldl (Cov.whyStep q F.length) none = Cov.whyStep q F.length b k) := hid (by rw [HF.out, HB.out])
      have hk0 : (0 : Int) ≤ k := by omega
      have hk1 : (k : Int) < M := by omega
      have r0 := (hbw.block _ (by omega)).trans HA.out.2.1
      have c0 := cell_of_row _ _ 0 _ _ (0, 0) r0
      have c1 := cell_of_row _ _ 1 _ _ (0, 0) r0
      have c2 := cell_of_row _ _ 2 _ _ (0, 0) r0
      simp only [List.getElem?_toArray, List.getElem?_cons_zero, List.getElem?_cons_succ] at c0 c1 c2
      have HSk := hid (HShows.out k hlt wr hbww)
      rw [hidx] at HSk
      have hixl : (Cov.idx 0 F.length k).length = Cov.pop F.length k := Cov.idx_len 0 F.length k
      have HIXL := hid hixl
      clear hixl hpop
      obtain ⟨L, hL⟩ : ∃ L, L = Cov.idx 0 F.length k := ⟨_, rfl⟩
      cases b with
      | none =>
        cases hqk : q (Cov.idx 0 F.length k) with
        | false =>
          rw [hqk] at HSk
          have HN : Hid (none = (List.range (k + 1)).foldl (Cov.whyStep q F.length) none) := hid (by rw [HStep.out]; simp [Cov.whyStep, hqk])
          clear hqk HStep HF
          go_wp2_with fail
          refine (HOnes.out _).mono ?_
          rintro e w' ⟨rfl, rfl⟩
          go_wp2_with fail
          refine HSk.out.mono ?_
          rintro e w2 ⟨rfl, hb2⟩
          have hbw2 := hbw.trans (hb2.mono (by have := hbw.size; omega))
          have hv2 := hv.keep (KeepS.below hb2)
          have hbww2 := hbww.trans (hb2.mono hbww.size)
          have HO2 := hid (And.intro hv2 hbw2)
          clear hv hbw hbww hb2 hbw2 hv2 hbww2 HV HB HSk
          go_wp2
          go_roundw
          case rel => exact ⟨k + 1, by omega, by go_num, none, rfl, HN, HO2⟩
          case measure => simp [intOf]; omega
        | true =>
          rw [hqk] at HSk
          have HN : Hid (some (Cov.idx 0 F.length k) = (List.range (k + 1)).foldl (Cov.whyStep q F.length) none) := hid (by rw [HStep.out]; simp [Cov.whyStep, hqk])
          clear hqk HStep HF
          go_wp2_with fail
          refine (HOnes.out _).mono ?_
          rintro e w' ⟨rfl, rfl⟩
          go_wp2_with fail
          refine HSk.out.mono ?_
          rintro e w2 ⟨rfl, hb2⟩
          have hbw2 := hbw.trans (hb2.mono (by have := hbw.size; omega))
          have hv2 := hv.keep (KeepS.below hb2)
          have hbww2 := hbww.trans (hb2.mono hbww.size)
          have HInd := hid (indices_any k (by omega) w2 (HTab.out w2 hbww2))
          rw [hidx] at HInd
          have HO2 := hid (And.intro hbw2 (And.intro hv2 hbww2))
          clear hbw2 hv2 hbww2 hb2
          go_wp2_with fail
          refine HInd.out.mono ?_
          rintro e w3 ⟨x, rfl, hx, hb3⟩
          obtain ⟨hbw2, hv2, hbww2⟩ := HO2.out
          have hbw3 := hbw2.trans (hb3.mono (by have := hbw2.size; omega))
          have hv3 := hv2.keep (KeepS.below hb3)
          have hx3 : IntsV (w.heap.size ≤ ·) w3 x (Cov.idx 0 F.length k) := IntsV.mono hx (fun b _ (h : w2.heap.size ≤ b) => by have := hbww2.size; show w.heap.size ≤ b; omega)
          have HO3 : Hid (IntsV (w.heap.size ≤ ·) w3 x ((some (Cov.idx 0 F.length k)).getD []) ∧ Below W.heap.size W w3) := hid ⟨hx3, hbw3⟩
          clear hv hbw hbww hbw2 hv2 hbww2 HV HB HSk hx hb3 hbw3 hv3 hx3 HO2 HInd
          go_wp2
          go_roundw
          case rel => exact ⟨k + 1, by omega, by go_num, some _, rfl, HN, HO3⟩
          case measure => simp [intOf]; omega
      | some p =>
        obtain ⟨pa, pc, hvf, -, hpc, hpm⟩ := hv.form
        simp only [Option.getD_some] at hvf hpc
        subst hvf
        have hpmx : p.length ≤ 9223372036854775807 := by omega
        by_cases hpn : p.length < Cov.pop F.length k
        · have HN : Hid (some p = (List.range (k + 1)).foldl (Cov.whyStep q F.length) none) := hid (by rw [HStep.out]; simp [Cov.whyStep, hpn])
          have d1 : decide ((p.length : Int) < (Cov.pop F.length k : Nat)) = true := decide_eq_true (by omega)
          have d1' : decide (p.length < Cov.pop F.length k) = true := decide_eq_true hpn
          clear HStep HF hv hbw hbww HB HSk
          go_wp2_with fail
          refine (HOnes.out _).mono ?_
          rintro e w' ⟨rfl, rfl⟩
          go_wp2
          go_roundw
          case rel => exact ⟨k + 1, by omega, by go_num, some p, rfl, HN, HV⟩
          case measure => simp [intOf]; omega
        · have d1 : decide ((p.length : Int) < (Cov.pop F.length k : Nat)) = false := decide_eq_false (by omega)
          have d1' : decide (p.length < Cov.pop F.length k) = false := decide_eq_false hpn
          cases hqk : q (Cov.idx 0 F.length k) with
          | false =>
            rw [hqk] at HSk
            have HN : Hid (some p = (List.range (k + 1)).foldl (Cov.whyStep q F.length) none) := hid (by rw [HStep.out]; simp [Cov.whyStep, hqk])
            clear hqk HStep HF
            go_wp2_with fail
            refine (HOnes.out _).mono ?_
            rintro e w' ⟨rfl, rfl⟩
            go_wp2_with fail
            refine HSk.out.mono ?_
            rintro e w2 ⟨rfl, hb2⟩
            have hbw2 := hbw.trans (hb2.mono (by have := hbw.size; omega))
            have hv2 := hv.keep (KeepS.below hb2)
            have hbww2 := hbww.trans (hb2.mono hbww.size)
            have HO2 : Hid (IntsV (w.heap.size ≤ ·) w2 (.slice pa p.length pc) ((some p).getD []) ∧ Below W.heap.size W w2) := hid ⟨hv2, hbw2⟩
            clear hv hbw hbww hb2 hbw2 hv2 hbww2 HV HB HSk
            go_wp2
            go_roundw
            case rel => exact ⟨k + 1, by omega, by go_num, some p, rfl, HN, HO2⟩
            case measure => simp [intOf]; omega
          | true =>
            rw [hqk] at HSk
            have HN0 : Hid ((List.range (k + 1)).foldl (Cov.whyStep q F.length) none = if Cov.pop F.length k < p.length ∨ Cov.ltL (Cov.idx 0 F.length k) p = true then some (Cov.idx 0 F.length k) else some p) := hid (by rw [HStep.out]; simp [Cov.whyStep, hqk, hpn])
            clear hqk HStep HF
            by_cases hn2 : Cov.pop F.length k < p.length
            · have HN : Hid (some (Cov.idx 0 F.length k) = (List.range (k + 1)).foldl (Cov.whyStep q F.length) none) := hid (by rw [HN0.out, if_pos (.inl hn2)])
              have d2 : decide ((Cov.pop F.length k : Nat) < (p.length : Int)) = true := decide_eq_true (by omega)
              have d2' : decide (Cov.pop F.length k < p.length) = true := decide_eq_true hn2
              clear HN0
              go_wp2_with fail
              refine (HOnes.out _).mono ?_
              rintro e w' ⟨rfl, rfl⟩
              go_wp2_with fail
              refine HSk.out.mono ?_
              rintro e w2 ⟨rfl, hb2⟩
              have hbw2 := hbw.trans (hb2.mono (by have := hbw.size; omega))
              have hv2 := hv.keep (KeepS.below hb2)
              have hbww2 := hbww.trans (hb2.mono hbww.size)
              have HInd := hid (indices_any k (by omega) w2 (HTab.out w2 hbww2))
              rw [hidx] at HInd
              have HO2 := hid (And.intro hbw2 (And.intro hv2 hbww2))
              clear hbw2 hv2 hbww2 hb2
              go_wp2_with fail
              refine HInd.out.mono ?_
              rintro e w3 ⟨x, rfl, hx, hb3⟩
              obtain ⟨hbw2, hv2, hbww2⟩ := HO2.out
              have hbw3 := hbw2.trans (hb3.mono (by have := hbw2.size; omega))
              have hv3 := hv2.keep (KeepS.below hb3)
              have hx3 : IntsV (w.heap.size ≤ ·) w3 x (Cov.idx 0 F.length k) := IntsV.mono hx (fun b _ (h : w2.heap.size ≤ b) => by have := hbww2.size; show w.heap.size ≤ b; omega)
              have HO3 : Hid (IntsV (w.heap.size ≤ ·) w3 x ((some (Cov.idx 0 F.length k)).getD []) ∧ Below W.heap.size W w3) := hid ⟨hx3, hbw3⟩
              clear hv hbw hbww hbw2 hv2 hbww2 HV HB HSk hx hb3 hbw3 hv3 hx3 HO2 HInd
              go_wp2
              go_roundw
              case rel => exact ⟨k + 1, by omega, by go_num, some _, rfl, HN, HO3⟩
              case measure => simp [intOf]; omega
            · have d2 : decide ((Cov.pop F.length k : Nat) < (p.length : Int)) = false := decide_eq_false (by omega)
              have d2' : decide (Cov.pop F.length k < p.length) = false := decide_eq_false hn2
              have hcn := cmpL_neg (Cov.idx 0 F.length k) p
              cases hlt2 : Cov.ltL (Cov.idx 0 F.length k) p with
              | true =>
                rw [hlt2] at hcn
                have HN : Hid (some (Cov.idx 0 F.length k) = (List.range (k + 1)).foldl (Cov.whyStep q F.length) none) := hid (by rw [HN0.out, if_pos (.inr hlt2)])
                clear HN0 hlt2
                go_wp2_with fail
                refine (HOnes.out _).mono ?_
                rintro e w' ⟨rfl, rfl⟩
                go_wp2_with fail
                refine HSk.out.mono ?_
                rintro e w2 ⟨rfl, hb2⟩
                have hbw2 := hbw.trans (hb2.mono (by have := hbw.size; omega))
                have hv2 := hv.keep (KeepS.below hb2)
                have hbww2 := hbww.trans (hb2.mono hbww.size)
                have HInd := hid (indices_any k (by omega) w2 (HTab.out w2 hbww2))
                rw [hidx] at HInd
                have HO2 := hid (And.intro hbw2 (And.intro hv2 hbww2))
                clear hbw2 hv2 hbww2 hb2
                go_wp2_with fail
                refine HInd.out.mono ?_
                rintro e w3 ⟨x, rfl, hx, hb3⟩
                obtain ⟨hbw2, hv2, hbww2⟩ := HO2.out
                have hbw3 := hbw2.trans (hb3.mono (by have := hbw2.size; omega))
                have hv3 := hv2.keep (KeepS.below hb3)
                have hx3 : IntsV (w.heap.size ≤ ·) w3 x (Cov.idx 0 F.length k) := IntsV.mono hx (fun b _ (h : w2.heap.size ≤ b) => by have := hbww2.size; show w.heap.size ≤ b; omega)
                have HCmp := hid (cmpInts_any (Cov.idx 0 F.length k) p x (.slice pa p.length pc) _ _ w3 hx3 hv3)
                have HO3 : Hid (IntsV (w.heap.size ≤ ·) w3 x ((some (Cov.idx 0 F.length k)).getD []) ∧ Below W.heap.size W w3) := hid ⟨hx3, hbw3⟩
                obtain ⟨xa, xl, xc, rfl⟩ : ∃ a l c, x = .slice a l c := by obtain ⟨a, c', h, -⟩ := hx3.form; exact ⟨_, _, _, h⟩
                generalize cmpL (Cov.idx 0 F.length k) p = cm at *
                clear hv hbw hbww hbw2 hv2 hbww2 HV HB HSk hx hb3 hbw3 hv3 hx3 HO2 HInd
                go_wp2_with fail
                refine HCmp.out.mono ?_
                rintro e w' ⟨rfl, rfl⟩
                go_wp2
                go_roundw
                case rel => exact ⟨k + 1, by omega, by go_num, some _, rfl, HN, HO3⟩
                case measure => simp [intOf]; omega
              | false =>
                rw [hlt2] at hcn
                have HN : Hid (some p = (List.range (k + 1)).foldl (Cov.whyStep q F.length) none) := hid (by rw [HN0.out, if_neg (by rw [hlt2]; simp [hn2])])
                clear HN0 hlt2
                go_wp2_with fail
                refine (HOnes.out _).mono ?_
                rintro e w' ⟨rfl, rfl⟩
                go_wp2_with fail
                refine HSk.out.mono ?_
                rintro e w2 ⟨rfl, hb2⟩
                have hbw2 := hbw.trans (hb2.mono (by have := hbw.size; omega))
                have hv2 := hv.keep (KeepS.below hb2)
                have hbww2 := hbww.trans (hb2.mono hbww.size)
                have HInd := hid (indices_any k (by omega) w2 (HTab.out w2 hbww2))
                rw [hidx] at HInd
                have HO2 := hid (And.intro hbw2 (And.intro hv2 hbww2))
                clear hbw2 hv2 hbww2 hb2
                go_wp2_with fail
                refine HInd.out.mono ?_
                rintro e w3 ⟨x, rfl, hx, hb3⟩
                obtain ⟨hbw2, hv2, hbww2⟩ := HO2.out
                have hbw3 := hbw2.trans (hb3.mono (by have := hbw2.size; omega))
                have hv3 := hv2.keep (KeepS.below hb3)
                have hx3 : IntsV (w.heap.size ≤ ·) w3 x (Cov.idx 0 F.length k) := IntsV.mono hx (fun b _ (h : w2.heap.size ≤ b) => by have := hbww2.size; show w.heap.size ≤ b; omega)
                have HCmp := hid (cmpInts_any (Cov.idx 0 F.length k) p x (.slice pa p.length pc) _ _ w3 hx3 hv3)
                have HO3 : Hid (IntsV (w.heap.size ≤ ·) w3 (.slice pa p.length pc) ((some p).getD []) ∧ Below W.heap.size W w3) := hid ⟨hv3, hbw3⟩
                obtain ⟨xa, xl, xc, rfl⟩ : ∃ a l c, x = .slice a l c := by obtain ⟨a, c', h, -⟩ := hx3.form; exact ⟨_, _, _, h⟩
                generalize cmpL (Cov.idx 0 F.length k) p = cm at *
                clear hv hbw hbww hbw2 hv2 hbww2 HV HB HSk hx hb3 hbw3 hv3 hx3 HO2 HInd
                go_wp2_with fail
                refine HCmp.out.mono ?_
                rintro e w' ⟨rfl, rfl⟩
                go_wp2
                go_roundw
                case rel => exact ⟨k + 1, by omega, by go_num, some _, rfl, HN, HO3⟩
                case measure => simp [intOf]; omega
    · obtain rfl : k = M := by omega
      have hBe := HB.out
      have HR := hid (show IntsV (w.heap.size ≤ ·) wr u5 (((List.range k).foldl (Cov.whyStep q F.length) none).getD []) by rw [← hBe]; exact hv)
      have HBW := hid hbww
      clear hv hbw hbww HV HB hBe
      go_wp2
      go_ret
      exact ⟨_, rfl, HR.out, HBW.out⟩

end Go.Proofs.YtjaejnacdanpkaaDoor
