/- Bent of the reference: a problem with one thing changed. -/
import Derived.Test.YtjaejnacdanpkaaDoorB54
import Derived.Test.YtjaejnacdanpkaaDoorC52
import Derived.Test.YtjaejnacdanpkaaDoorB7
namespace Go.Proofs.YtjaejnacdanpkaaDoor
open Go.RowKit

attribute [local go_sem] Oper.semAt_some

theorem load_bent {w : World} {g : Nat} {x y z : Value} {tmps : Array Value} (h : w.heap[g]? = some (.cells #[x, y, z] 25 (0, 0))) (hp : tmps[8]? = some (.pointer (some ⟨g, 0, none⟩))) :
    (results Tryd.f10 tmps).run Tryd.prog w = .ok (.agg #[x, y, z]) w := by
  obtain ⟨h0, h1, h2, -⟩ := row3 h
  simp [results, Tryd.results10, go_sem, hp, h0, h1, h2]

/-- What stands in Bent's boxes. -/
structure BentI (w : World) (sv fv : Value) (t : Int) (sz : List Int) (F : List (List Int)) (W : World) : Prop where
  box : W.heap[w.heap.size]? = some (.cells #[sv, fv, .int .i64 t] 25 (0, 0))
  res : W.heap[w.heap.size + 1]? = some (.cells #[.slice none 0 0, .slice none 0 0, .int .i64 0] 25 (0, 0))
  own : IntsF (w.heap.size + 2 ≤ ·) W sv sz
  rows : OwnS (w.heap.size + 2) (fun b => b ≠ w.heap.size ∧ b ≠ w.heap.size + 1 ∧ ¬ OB fv b ∧ ¬ OB sv b) W fv F
  apart : ∀ b, OB sv b → ¬ OB fv b
  below : Below w.heap.size w W

theorem BentI.tail {w : World} {sv fv : Value} {t : Int} {sz : List Int} {F : List (List Int)} {W : World} (h : BentI w sv fv t sz F W) :
    W.cell? ⟨w.heap.size, 0, none⟩ = some sv ∧ W.cell? ⟨w.heap.size, 1, none⟩ = some fv ∧ W.cell? ⟨w.heap.size, 2, none⟩ = some (.int .i64 t) ∧
    W.frozen? ⟨w.heap.size + 1, 0, none⟩ = false ∧ W.cell? ⟨w.heap.size + 1, 0, none⟩ = some (.slice none 0 0) ∧
    (W.setCell ⟨w.heap.size + 1, 0, none⟩ sv).cell? ⟨w.heap.size + 1, 1, none⟩ = some (.slice none 0 0) ∧
    (W.setCell ⟨w.heap.size + 1, 0, none⟩ sv).frozen? ⟨w.heap.size + 1, 1, none⟩ = false ∧
    ((W.setCell ⟨w.heap.size + 1, 0, none⟩ sv).setCell ⟨w.heap.size + 1, 1, none⟩ fv).cell? ⟨w.heap.size + 1, 2, none⟩ = some (.int .i64 0) ∧
    ((W.setCell ⟨w.heap.size + 1, 0, none⟩ sv).setCell ⟨w.heap.size + 1, 1, none⟩ fv).frozen? ⟨w.heap.size + 1, 2, none⟩ = false := by
  have t1 := row3_set h.res sv
  have t2 := row3_set t1.1 fv
  exact ⟨(row3 h.box).1, (row3 h.box).2.1, (row3 h.box).2.2.1, (row3 h.res).2.2.2.1, (row3 h.res).1, (row3 t1.1).2.1, (row3 t1.1).2.2.2.2.1, (row3 t2.2.1).2.2.1, (row3 t2.2.1).2.2.2.2.2⟩
theorem BentI.fin {w : World} {sv fv : Value} {t : Int} {sz : List Int} {F : List (List Int)} {W : World} (h : BentI w sv fv t sz F W) :
    (((W.setCell ⟨w.heap.size + 1, 0, none⟩ sv).setCell ⟨w.heap.size + 1, 1, none⟩ fv).setCell ⟨w.heap.size + 1, 2, none⟩ (.int .i64 t)).heap[w.heap.size + 1]? = some (.cells #[sv, fv, .int .i64 t] 25 (0, 0)) ∧
    IntsV AnyB (((W.setCell ⟨w.heap.size + 1, 0, none⟩ sv).setCell ⟨w.heap.size + 1, 1, none⟩ fv).setCell ⟨w.heap.size + 1, 2, none⟩ (.int .i64 t)) sv sz ∧
    RowsV AnyB (((W.setCell ⟨w.heap.size + 1, 0, none⟩ sv).setCell ⟨w.heap.size + 1, 1, none⟩ fv).setCell ⟨w.heap.size + 1, 2, none⟩ (.int .i64 t)) fv F ∧
    Below w.heap.size w (((W.setCell ⟨w.heap.size + 1, 0, none⟩ sv).setCell ⟨w.heap.size + 1, 1, none⟩ fv).setCell ⟨w.heap.size + 1, 2, none⟩ (.int .i64 t)) := by
  have t1 := row3_set h.res sv
  have t2 := row3_set t1.1 fv
  have t3 := row3_set t2.2.1 (.int .i64 t)
  have hk : ∀ b, b ≠ w.heap.size + 1 → (((W.setCell ⟨w.heap.size + 1, 0, none⟩ sv).setCell ⟨w.heap.size + 1, 1, none⟩ fv).setCell ⟨w.heap.size + 1, 2, none⟩ (.int .i64 t)).heap[b]? = W.heap[b]? := fun b hb =>
    (Below.heap_setCell _ _ _ _ hb).trans ((Below.heap_setCell _ _ _ _ hb).trans (Below.heap_setCell _ _ _ _ hb))
  refine ⟨t3.2.2, IntsV.mono (IntsV.keep h.own.sl (fun b (hb : w.heap.size + 2 ≤ b) _ => hk b (by omega))) (fun _ _ _ => trivial), ?_, ((h.below.setCell (p := ⟨w.heap.size + 1, 0, none⟩) (by show w.heap.size ≤ w.heap.size + 1; omega) _).setCell (p := ⟨w.heap.size + 1, 1, none⟩) (by show w.heap.size ≤ w.heap.size + 1; omega) _).setCell (p := ⟨w.heap.size + 1, 2, none⟩) (by show w.heap.size ≤ w.heap.size + 1; omega) _⟩
  refine (h.rows.kept (fun b _ hb => hk b ?_)).sl (fun _ _ => trivial) (fun _ _ _ => trivial)
  rcases hb with hb | hb
  · have := (h.rows.lt b hb).1; omega
  · exact hb.2.1
theorem BentI.drewN {w : World} {sv fv : Value} {t : Int} {sz : List Int} {F : List (List Int)} {W : World} (h : BentI w sv fv t sz F W) (n : Nat) : BentI w sv fv t sz F (W.drewN n) :=
  ⟨h.box, h.res, steady_intsF.keep h.own (fun _ _ _ => rfl), h.rows.kept (fun _ _ _ => rfl), h.apart, below_drewN h.below n⟩

theorem BentI.grow {w : World} {sv fv : Value} {t : Int} {sz : List Int} {F : List (List Int)} {W W' : World} (h : BentI w sv fv t sz F W) (hb : Below W.heap.size W W') : BentI w sv fv t sz F W' :=
  ⟨(hb.block _ (Array.getElem?_eq_some_iff.1 h.box).1).trans h.box, (hb.block _ (Array.getElem?_eq_some_iff.1 h.res).1).trans h.res, steady_intsF.keep h.own (KeepS.below hb), h.rows.kept (fun b hlt _ => hb.block b hlt), h.apart, h.below.trans (hb.mono h.below.size)⟩
theorem BentI.set1 {w : World} {gx n c : Nat} {fv : Value} {t : Int} {sz : List Int} {F : List (List Int)} {W : World} (h : BentI w (.slice (some ⟨gx, 0, none⟩) n c) fv t sz F W) (j : Nat) (y : Int) :
    BentI w (.slice (some ⟨gx, 0, none⟩) n c) fv t (sz.set j y) F (W.setCell ⟨gx, j, none⟩ (.int .i64 y)) := by
  have hg : w.heap.size + 2 ≤ gx := h.own.2 gx rfl
  have hk : ∀ b, b ≠ gx → (W.setCell ⟨gx, j, none⟩ (.int .i64 y)).heap[b]? = W.heap[b]? := fun b hb => Below.heap_setCell _ _ _ _ hb
  have hn : n = (sz.map (Value.int .i64)).length := by
    obtain ⟨a', c', e, -⟩ := h.own.sl.form
    cases e; simp
  have h1 : W.ownsRow 0 3 1 (.slice (some ⟨gx, 0, none⟩) n c) n (sz.map (Value.int .i64)) := by
    have := h.own.1
    rw [show n = sz.length by simpa using hn] at this ⊢
    exact this
  refine ⟨(hk _ (by omega)).trans h.box, (hk _ (by omega)).trans h.res, ⟨?_, h.own.2⟩, h.rows.kept (fun b _ hb => hk b ?_), h.apart, h.below.setCell (by show w.heap.size ≤ gx; omega) _⟩
  · have := ownsRow_set h1 j (.int .i64 y)
    rw [← List.map_set] at this
    rw [List.length_set, show sz.length = n by simpa using hn.symm]
    exact this
  · intro e
    subst e
    rcases hb with hb | hb
    · exact h.apart b rfl hb
    · exact hb.2.2.2 rfl
theorem BentI.setT {w : World} {sv fv : Value} {t : Int} {sz : List Int} {F : List (List Int)} {W : World} (h : BentI w sv fv t sz F W) (t' : Int) : BentI w sv fv t' sz F (W.setCell ⟨w.heap.size, 2, none⟩ (.int .i64 t')) := by
  have hk : ∀ b, b ≠ w.heap.size → (W.setCell ⟨w.heap.size, 2, none⟩ (.int .i64 t')).heap[b]? = W.heap[b]? := fun b hb => Below.heap_setCell _ _ _ _ hb
  refine ⟨(row3_set h.box _).2.2, (hk _ (by omega)).trans h.res, steady_intsF.keep h.own (fun b (hb : w.heap.size + 2 ≤ b) _ => hk b (by omega)), h.rows.kept (fun b _ hb => hk b ?_), h.apart, h.below.setCell (Nat.le_refl _) _⟩
  rcases hb with hb | hb
  · have := (h.rows.lt b hb).1; omega
  · exact hb.1
theorem BentI.newF {w : World} {sv fv fv' : Value} {t : Int} {sz : List Int} {F F' : List (List Int)} {W W1 : World} (h : BentI w sv fv t sz F W) (hT : Turns (OB fv) W W1) (hn : ∀ b, OB fv' b → OB fv b ∨ W.heap.size ≤ b)
    (hR : OwnS (w.heap.size + 2) (fun b => (b ≠ w.heap.size ∧ b ≠ w.heap.size + 1 ∧ ¬ OB fv b ∧ ¬ OB sv b) ∧ b < W.heap.size) W1 fv' F') :
    BentI w sv fv' t sz F' (W1.setCell ⟨w.heap.size, 1, none⟩ fv') := by
  have hlo := h.rows.lt
  have hsl := h.own.1.lt
  have hk : ∀ b, b ≠ w.heap.size → (W1.setCell ⟨w.heap.size, 1, none⟩ fv').heap[b]? = W1.heap[b]? := fun b hb => Below.heap_setCell _ _ _ _ hb
  have k1 : ∀ {b o}, W.heap[b]? = some o → b < w.heap.size + 2 → W1.heap[b]? = some o := fun {b o} hh hb =>
    (hT.block b (fun hob => by have := (hlo b hob).1; omega) (Array.getElem?_eq_some_iff.1 hh).1).trans hh
  refine ⟨(row3_set (k1 h.box (by omega)) _).2.1, (hk _ (by omega)).trans (k1 h.res (by omega)), ?_, ?_, fun b hb hb' => ?_, ?_⟩
  · have i1 : IntsF (OB sv) W sv sz := ⟨h.own.1, fun b hb => hb.symm⟩
    have i2 := steady_intsF.keep i1 (hT.keep h.apart)
    have i3 := steady_intsF.keep i2 (w' := W1.setCell ⟨w.heap.size, 1, none⟩ fv') (fun b hb _ => hk b (by have : w.heap.size + 2 ≤ b := h.own.2 b hb.symm; omega))
    exact steady_intsF.mono i3 (fun b _ hb => h.own.2 b hb.symm)
  · refine (hR.kept (fun b hlt hb => hk b ?_)).mono (fun b _ hb => ⟨hb.1.1, hb.1.2.1, fun hob => ?_, hb.1.2.2.2⟩)
    · rcases hb with hb | hb
      · have := (hR.lt b hb).1; omega
      · exact hb.1.1
    · rcases hn b hob with h1 | h1
      · exact hb.1.2.2.1 h1
      · have := hb.2; omega
  · rcases hn b hb' with h1 | h1
    · exact h.apart b hb h1
    · have := (hsl b hb.symm).2; omega
  · exact (h.below.trans (hT.below h.below.size (fun b hb => by have := (hlo b hb).1; omega))).setCell (Nat.le_refl _) _
theorem BentI.newS {w : World} {sv sv' fv : Value} {t : Int} {sz sz' : List Int} {F : List (List Int)} {W W0 W1 : World} (h : BentI w sv fv t sz F W) (hb0 : Below W.heap.size W W0) (hT : Turns (OB sv) W0 W1)
    (hI : IntsF (Grow (OB sv) W.heap.size) W1 sv' sz') : BentI w sv' fv t sz' F (W1.setCell ⟨w.heap.size, 0, none⟩ sv') := by
  have hlo := h.rows.lt
  have hsl : ∀ b, OB sv b → w.heap.size + 2 ≤ b ∧ b < W.heap.size := fun b hb => ⟨h.own.2 b hb.symm, (h.own.1.lt b hb.symm).2⟩
  have hn : ∀ b, OB sv' b → OB sv b ∨ W.heap.size ≤ b := fun b hb => by
    rcases hI.2 b hb.symm with h1 | h1
    · exact .inl h1.1
    · exact .inr h1
  have hk : ∀ b, b ≠ w.heap.size → (W1.setCell ⟨w.heap.size, 0, none⟩ sv').heap[b]? = W1.heap[b]? := fun b hb => Below.heap_setCell _ _ _ _ hb
  have hz := hb0.size
  have k1 : ∀ b, b < W.heap.size → ¬ OB sv b → W1.heap[b]? = W.heap[b]? := fun b hlt hb => (hT.block b hb (by omega)).trans (hb0.block b hlt)
  have e1 := (k1 w.heap.size (Array.getElem?_eq_some_iff.1 h.box).1 (fun hb => by have := (hsl _ hb).1; omega)).trans h.box
  have e2 := (k1 (w.heap.size + 1) (Array.getElem?_eq_some_iff.1 h.res).1 (fun hb => by have := (hsl _ hb).1; omega)).trans h.res
  refine ⟨(row3_set e1 _).1, (hk _ (by omega)).trans e2, ?_, ?_, fun b hb hb' => ?_, ?_⟩
  · refine steady_intsF.keep (steady_intsF.mono (S' := fun b => w.heap.size + 2 ≤ b) hI (fun b _ hb => ?_)) (fun b (hb : w.heap.size + 2 ≤ b) _ => hk b (by omega))
    rcases hb with hb | hb
    · exact (hsl b hb.1).1
    · have := h.below.size
      have := (Array.getElem?_eq_some_iff.1 h.res).1
      show w.heap.size + 2 ≤ b
      omega
  · have h2 := h.rows.mono (E' := fun b => (b ≠ w.heap.size ∧ b ≠ w.heap.size + 1 ∧ ¬ OB fv b ∧ ¬ OB sv b) ∧ b < W.heap.size) (fun b hlt hb => ⟨hb, hlt⟩)
    refine (h2.kept (w' := W1.setCell ⟨w.heap.size, 0, none⟩ sv') (fun b hlt hb => ?_)).mono (fun b _ hb => ⟨hb.1.1, hb.1.2.1, hb.1.2.2.1, fun hob => ?_⟩)
    · rcases hb with hb | hb
      · exact (hk b (by have := (hlo b hb).1; omega)).trans (k1 b hlt (fun h1 => h.apart b h1 hb))
      · exact (hk b hb.1.1).trans (k1 b hlt hb.1.2.2.2)
    · rcases hn b hob with h1 | h1
      · exact hb.1.2.2.2 h1
      · have := hb.2; omega
  · rcases hn b hb with h1 | h1
    · exact h.apart b h1 hb'
    · have := (hlo b hb').2; omega
  · exact ((h.below.trans (hb0.mono h.below.size)).trans (hT.below (Nat.le_trans h.below.size hz) (fun b hb => by have := (hsl b hb).1; omega))).setCell (Nat.le_refl _) _

set_option maxRecDepth 100000 in
set_option maxHeartbeats 4000000 in
theorem bent_any (sz : List Int) (hn0 : 0 < sz.length) (hn8 : sz.length ≤ 8) (F : List (List Int)) (hF : F.length ≤ 12) (hFe : ∀ f ∈ F, f.length ≤ 100) (tn : Int) (p1 p2 p3 : Int) (a1 : -9223372036854775808 ≤ p1) (a2 : p1 ≤ 9223372036854775807) (b1 : -9223372036854775808 ≤ p2) (b2 : p2 ≤ 9223372036854775807) (c1 : -9223372036854775808 ≤ p3) (c2 : p3 ≤ 9223372036854775807)
    (sv fv : Value) (S T : Nat → Prop) (w : World) (hs : IntsV S w sv sz) (hf : RowsV T w fv F) :
    Calls Tryd.prog 10 #[.agg #[sv, fv, .int .i64 tn], .int .i64 p1, .int .i64 p2, .int .i64 p3] w fun e w' => ∃ (zs : List Int) (G : List (List Int)) (t : Int) (xs xf : Value), e = .returned (.agg #[xs, xf, .int .i64 t]) ∧ zs.length ≤ 100 ∧ G.length ≤ 100 ∧ (∀ c ∈ G, c.length ≤ 100) ∧ IntsV AnyB w' xs zs ∧ RowsV AnyB w' xf G ∧ Below w.heap.size w w' := by
  obtain ⟨sa, sc, rfl, hsok, hscap, hsmax⟩ := hs.form
  obtain ⟨fa, fc, rfl, hfok, hfcap, hfmax⟩ := hf.form
  have h01 : Below w.heap.size w ((w.alloc (.cells #[.slice sa sz.length sc, .slice fa F.length fc, .int .i64 tn] 25)).alloc (.cells #[.slice none 0 0, .slice none 0 0, .int .i64 0] 25)) := ((Below.refl _ _).alloc (Nat.le_refl _) _).alloc (by simp) _
  have p0 : ((w.alloc (.cells #[.slice sa sz.length sc, .slice fa F.length fc, .int .i64 tn] 25)).alloc (.cells #[.slice none 0 0, .slice none 0 0, .int .i64 0] 25)).heap[w.heap.size]? = some (.cells #[.slice sa sz.length sc, .slice fa F.length fc, .int .i64 tn] 25 (0, 0)) := heap_step _ (heap_new _ _ rfl)
  have p9 : ((w.alloc (.cells #[.slice sa sz.length sc, .slice fa F.length fc, .int .i64 tn] 25)).alloc (.cells #[.slice none 0 0, .slice none 0 0, .int .i64 0] 25)).heap[w.heap.size + 1]? = some (.cells #[.slice none 0 0, .slice none 0 0, .int .i64 0] 25 (0, 0)) := heap_new _ _ (by simp)
  have hz : ((w.alloc (.cells #[.slice sa sz.length sc, .slice fa F.length fc, .int .i64 tn] 25)).alloc (.cells #[.slice none 0 0, .slice none 0 0, .int .i64 0] 25)).heap.size = w.heap.size + 2 := by simp
  have HS := hid (hs.keep (KeepS.below h01))
  have HF := hid (RowsV.keep (RowsV.mono (S' := (· < w.heap.size)) hf (fun b hb _ => hb)) (KeepS.below h01))
  clear hs hf
  obtain ⟨q0, q1, q2, -, -, -⟩ := row3 p0
  go_enter Tryd.func10, Tryd.ntmps10
  go_wp2_with fail
  generalize hW0 : World.alloc (World.alloc w _) _ = W0 at *
  clear hW0 q0 q1 q2
  refine (take_any sz (by omega) _ S W0 HS.out).mono ?_
  rintro e w1 ⟨x, rfl, hx, hb1⟩
  obtain ⟨xa, xc, rfl, hxok, hxc, hxm⟩ := hx.sl.form
  have hs1 := hb1.size
  have p0' := (hb1.block w.heap.size (by omega)).trans p0
  have p9' := (hb1.block (w.heap.size + 1) (by omega)).trans p9
  obtain ⟨q0, q1, q2, f0, f1, f2⟩ := row3 p0'
  have t1 := (row3_set p0' (.slice xa sz.length xc)).1
  have k1 : ∀ b, b ≠ w.heap.size → (w1.setCell ⟨w.heap.size, 0, none⟩ (.slice xa sz.length xc)).heap[b]? = w1.heap[b]? := fun b hb => Below.heap_setCell _ _ _ _ hb
  have hs2 : (w1.setCell ⟨w.heap.size, 0, none⟩ (.slice xa sz.length xc)).heap.size = w1.heap.size := by simp
  have p9'' := (k1 (w.heap.size + 1) (by omega)).trans p9'
  have HX2 : Hid (IntsF (w.heap.size + 2 ≤ ·) (w1.setCell ⟨w.heap.size, 0, none⟩ (.slice xa sz.length xc)) (.slice xa sz.length xc) sz) := hid (steady_intsF.keep (steady_intsF.mono hx (fun b _ (hb : W0.heap.size ≤ b) => show w.heap.size + 2 ≤ b by omega)) (fun b (hb : w.heap.size + 2 ≤ b) _ => k1 b (by omega)))
  have HF2 : Hid (RowsV (· < w.heap.size) (w1.setCell ⟨w.heap.size, 0, none⟩ (.slice xa sz.length xc)) (.slice fa F.length fc) F) := hid ((RowsV.keep HF.out (KeepS.below hb1)).keep (fun b (hb : b < w.heap.size) _ => k1 b (by omega)))
  have HB2 := hid (((h01.trans (hb1.mono h01.size)).setCell (p := ⟨w.heap.size, 0, none⟩) (Nat.le_refl _) (.slice xa sz.length xc)))
  have e0 := (row3 p0').1
  have hxlt : Hid (∀ b, OB (.slice xa sz.length xc) b → w.heap.size + 2 ≤ b ∧ b < w1.heap.size) := hid (fun b hb => ⟨by have := hx.2 b hb.symm; omega, (hx.1.lt b hb.symm).2⟩)
  have g1 := (row3 (heap_step (.cells #[] 22) t1)).2.1
  have ho1 : OwnS (w.heap.size + 2) (· < w.heap.size) ((w1.setCell ⟨w.heap.size, 0, none⟩ (.slice xa sz.length xc)).alloc (.cells #[] 22)) (.slice (some ⟨w1.heap.size, 0, none⟩) 0 0) [] := by
    have := OwnS.empty (w.heap.size + 2) (· < w.heap.size) (w1.setCell ⟨w.heap.size, 0, none⟩ (.slice xa sz.length xc)) (by omega)
    rw [hs2] at this
    exact this
  have ha3 : Below (w1.setCell ⟨w.heap.size, 0, none⟩ (.slice xa sz.length xc)).heap.size (w1.setCell ⟨w.heap.size, 0, none⟩ (.slice xa sz.length xc)) ((w1.setCell ⟨w.heap.size, 0, none⟩ (.slice xa sz.length xc)).alloc (.cells #[] 22)) := (Below.refl _ _).alloc (Nat.le_refl _) _
  have hE1 : ∀ b, b < ((w1.setCell ⟨w.heap.size, 0, none⟩ (.slice xa sz.length xc)).alloc (.cells #[] 22)).heap.size → b < w.heap.size → ¬ OB (.slice (some ⟨w1.heap.size, 0, none⟩) 0 0) b := fun b _ hb h => by
    have : b = w1.heap.size := Option.some.inj h
    omega
  have hv3 := RowsV.keep HF2.out (KeepS.below ha3)
  have hs3 : w.heap.size + 2 ≤ ((w1.setCell ⟨w.heap.size, 0, none⟩ (.slice xa sz.length xc)).alloc (.cells #[] 22)).heap.size := by simp; omega
  have HBx := hid t1
  clear hx t1 k1 p0' p9' HF HS
  go_wp2_with (at_builtin; go_must (refine wpList_appSn rfl _ _ rfl Tryd.app63 rfl ho1 hE1 rfl hv3 (by simp; omega) hs3 ?_))
  intro v4 w4 ho4 ht4 hn4
  replace ho4 : OwnS (w.heap.size + 2) (· < w.heap.size) w4 v4 F := ho4
  have hlt4 : ∀ b, OB v4 b → w1.heap.size ≤ b := fun b hb => by
    rcases hn4 b hb with h | h
    · have : b = w1.heap.size := Option.some.inj h
      omega
    · have : w1.heap.size + 1 ≤ b := by simpa using h
      omega
  have hT3 : Turns (OB (.slice (some ⟨w1.heap.size, 0, none⟩) 0 0)) (w1.setCell ⟨w.heap.size, 0, none⟩ (.slice xa sz.length xc)) w4 := (Turns.of_below ha3).trans ht4
  have hnb : ∀ b, b < w1.heap.size → ¬ OB (.slice (some ⟨w1.heap.size, 0, none⟩) 0 0) b := fun b hb h => by
    have : b = w1.heap.size := Option.some.inj h
    omega
  obtain ⟨va, vc, rfl, -, -, -⟩ := (ho4.sl (S := AnyB) (fun _ _ => trivial) (fun _ _ _ => trivial)).form
  have HI : Hid (BentI w (.slice xa sz.length xc) (.slice va F.length vc) tn sz F (w4.setCell ⟨w.heap.size, 1, none⟩ (.slice va F.length vc))) := hid (by
    have hk : ∀ b, b ≠ w.heap.size → (w4.setCell ⟨w.heap.size, 1, none⟩ (.slice va F.length vc)).heap[b]? = w4.heap[b]? := fun b hb => Below.heap_setCell _ _ _ _ hb
    have k4 : ∀ b, b < w1.heap.size → w4.heap[b]? = (w1.setCell ⟨w.heap.size, 0, none⟩ (.slice xa sz.length xc)).heap[b]? := fun b hb => hT3.block b (hnb b hb) (by omega)
    refine ⟨(row3_set ((k4 w.heap.size (by omega)).trans HBx.out) _).2.1, (hk _ (by omega)).trans ((k4 _ (by omega)).trans p9''), ?_, ?_, fun b hb hb' => ?_, ?_⟩
    · have i1 : IntsF (OB (.slice xa sz.length xc)) (w1.setCell ⟨w.heap.size, 0, none⟩ (.slice xa sz.length xc)) (.slice xa sz.length xc) sz := ⟨HX2.out.1, fun b hb => hb.symm⟩
      have i2 := steady_intsF.keep i1 (w' := w4) (fun b hb _ => k4 b (hxlt.out b hb).2)
      have i3 := steady_intsF.keep i2 (w' := w4.setCell ⟨w.heap.size, 1, none⟩ (.slice va F.length vc)) (fun b hb _ => hk b (by have := (hxlt.out b hb).1; omega))
      exact steady_intsF.mono i3 (fun b _ hb => (hxlt.out b hb).1)
    · refine (ho4.kept (fun b hlt hb => hk b ?_)).mono (fun b _ hb => ⟨by omega, by omega, fun h => ?_, fun h => ?_⟩)
      · rcases hb with hb | hb
        · have := hlt4 b hb; omega
        · omega
      · have := hlt4 b h; omega
      · have := (hxlt.out b h).1; omega
    · have := hlt4 b hb'
      have := (hxlt.out b hb).2
      omega
    · exact (HB2.out.trans (hT3.below HB2.out.size (fun b h => by
        have : b = w1.heap.size := Option.some.inj h
        omega))).setCell (Nat.le_refl _) _)
  have d4 := (row3 (show w4.heap[w.heap.size]? = some (.cells #[.slice xa sz.length xc, .slice fa F.length fc, .int .i64 tn] 25 (0, 0)) from (hT3.block w.heap.size (hnb _ (by omega)) (by omega)).trans HBx.out))
  have d5 := d4.2.1
  have d6 := d4.2.2.2.2.1
  have hszw4 : w.heap.size + 2 ≤ w4.heap.size := by have := hT3.size; omega
  clear ho4 ht4 hn4 hT3 hlt4 hnb ho1 hE1 hv3 hs3 ha3 g1 d4 HBx HX2 HF2 HB2 hxlt p9'' hs1 hs2 e0 q0 q1 q2 f0 f1 f2
  go_wp2_with fail
  refine (around_any p2 5 _ b1 b2 (by omega) (by omega)).mono ?_
  rintro e w' ⟨rfl, rfl⟩
  generalize w4.setCell ⟨w.heap.size, 1, none⟩ (.slice va F.length vc) = W at *
  have hh := around_lt p2 5 (by omega)
  generalize around p2 5 = hv at *
  clear d5 d6 hszw4
  have hzf : ∀ f, f = F.length → F.length ≤ 12 := fun _ _ => hF
  have hcase : hv = 0 ∨ hv = 1 ∨ hv = 2 ∨ hv = 3 ∨ hv = 4 := by omega
  rcases hcase with rfl | rfl | rfl | rfl | rfl
  · have hgx : ∃ gx cur, xa = some ⟨gx, 0, none⟩ ∧ w.heap.size + 2 ≤ gx ∧ W.heap[gx]? = some (.cells cur 3 (0, 0)) ∧ sz.length ≤ cur.size := by
      rcases HI.out.own.1.2 with ⟨_, h2⟩ | ⟨g', cap', cur, hv, hb, hg, hn, hc, hs, ht⟩
      · omega
      · cases hv
        exact ⟨g', cur, rfl, HI.out.own.2 _ rfl, hg, by simp at hs; omega⟩
    obtain ⟨gx, cur, rfl, hgx1, hgx2, hgx3⟩ := hgx
    have hz1 := around_lt p1 sz.length (by omega)
    have hz2 := around_lt p3 5 (by omega)
    have HQ1 := hid (fun X => around_any p1 sz.length X a1 a2 (by omega) (by omega))
    have HQ2 := hid (fun X => around_any p3 5 X c1 c2 (by omega) (by omega))
    generalize around p1 sz.length = z1 at *
    generalize around p3 5 = z2 at *
    obtain ⟨j1, rfl⟩ := Int.eq_ofNat_of_zero_le hz1.1
    obtain ⟨j2, rfl⟩ := Int.eq_ofNat_of_zero_le hz2.1
    have hj1 : j1 < cur.size := by omega
    have hj2 : j2 < 5 := by omega
    obtain ⟨u0, u1, u2, u3, u4, u5⟩ := row3 HI.out.box
    have hgw : w.heap.size < W.heap.size := (Array.getElem?_eq_some_iff.1 HI.out.box).1
    have x0 : ∀ x : Grew W, x.1.cell? ⟨w.heap.size, 0, none⟩ = some (.slice (some ⟨gx, 0, none⟩) sz.length xc) := fun x => (x.cell _ _ hgw).trans u0
    have hdr : Below W.heap.size W (W.drewN 1) := below_drewN (Below.refl _ _) 1
    have hda : Below W.heap.size W ((W.drewN 1).alloc (.cells #[.int .i64 0, .int .i64 1, .int .i64 8, .int .i64 9, .int .i64 (-1)] 3)) := hdr.alloc (Nat.le_refl _) _
    have HI2 := hid (HI.out.grow hda)
    obtain ⟨y, hy⟩ : ∃ y : Int, ((W.drewN 1).alloc (.cells #[.int .i64 0, .int .i64 1, .int .i64 8, .int .i64 9, .int .i64 (-1)] 3)).cell? ⟨W.heap.size, j2, none⟩ = some (.int .i64 y) := by
      rw [cell_of_row _ W.heap.size j2 _ 3 (0, 0) (heap_new (W.drewN 1) _ rfl)]
      have h5 : j2 = 0 ∨ j2 = 1 ∨ j2 = 2 ∨ j2 = 3 ∨ j2 = 4 := by omega
      rcases h5 with rfl | rfl | rfl | rfl | rfl <;> exact ⟨_, rfl⟩
    have HJ := hid (HI2.out.set1 j1 y)
    have HFin := hid HJ.out.fin
    obtain ⟨y0, y1, y2, y3, y4, y5, y6, y7, y8⟩ := HJ.out.tail
    have v1 : ((W.drewN 1).alloc (.cells #[.int .i64 0, .int .i64 1, .int .i64 8, .int .i64 9, .int .i64 (-1)] 3)).cell? ⟨gx, j1, none⟩ = some cur[j1] := by
      rw [cell_of_row _ gx j1 cur 3 (0, 0) ((hda.block gx (Array.getElem?_eq_some_iff.1 hgx2).1).trans hgx2)]
      exact Array.getElem?_eq_getElem hj1
    have v2 : ((W.drewN 1).alloc (.cells #[.int .i64 0, .int .i64 1, .int .i64 8, .int .i64 9, .int .i64 (-1)] 3)).frozen? ⟨gx, j1, none⟩ = false := by
      simp [World.frozen?, (hda.block gx (Array.getElem?_eq_some_iff.1 hgx2).1).trans hgx2]
    have hlen : (0 : Int) < sz.length := by omega
    clear HJ HI HI2 u1 u2 u3 u4 u5
    go_wp2
    refine wp_region_grewP 12 (Plan.quiets [0, 1, 2, 3, 4, 5, 8] (.two 6 7 (.two 7 9 (.one 9 (.one 10 (.one 11 .done))) (.one 7 (.one 10 (.one 11 .done)))) (.one 6 (.one 9 (.one 10 (.one 11 .done)))))) (by kernel_rfl) (by kernel_rfl) ?_
    iterate 7 (refine wpPlan_quiet rfl ?_; repeat (go_big_quiet_step (fail)); refine wpQuiet_nil ?_)
    refine wpPlan_two rfl rfl ?pA ?pB
    case' pA =>
      go_wp2_with fail
      refine (HQ1.out _).mono ?_
      rintro e w' ⟨rfl, rfl⟩
      go_wp2
      refine qn_mk ⟨InGrew.of hdr, ?_⟩
      refine wpPlan_two rfl rfl ?pC ?pD
      case' pC =>
        go_wp2
        refine qn_mk ⟨InGrew.of hda, ?_⟩
        refine wpPlan_one rfl ?_
        go_wp2_with fail
        refine (HQ2.out _).mono ?_
        rintro e w' ⟨rfl, rfl⟩
        go_wp2
        refine qn_mk ⟨InGrew.of hda, ?_⟩
      case' pD =>
        go_wp2_with fail
        refine (HQ2.out _).mono ?_
        rintro e w' ⟨rfl, rfl⟩
        go_wp2
        refine qn_mk ⟨InGrew.of hdr, ?_⟩
        refine wpPlan_one rfl ?_
        go_wp2
        refine qn_mk ⟨InGrew.of hda, ?_⟩
    case' pB =>
      go_wp2
      refine qn_mk ⟨InGrew.of hda, ?_⟩
      refine wpPlan_one rfl ?_
      go_wp2_with fail
      refine (HQ1.out _).mono ?_
      rintro e w' ⟨rfl, rfl⟩
      go_wp2
      refine qn_mk ⟨InGrew.of hda, ?_⟩
      refine wpPlan_one rfl ?_
      go_wp2_with fail
      refine (HQ2.out _).mono ?_
      rintro e w' ⟨rfl, rfl⟩
      go_wp2
      refine qn_mk ⟨InGrew.of hda, ?_⟩
    all_goals
      refine wpPlan_one rfl ?_
      go_wp2
      refine qn_mk ⟨InGrew.of hda, ?_⟩
      refine wpPlan_one rfl ?_
      go_wp2
      refine qn_mk ⟨InGrew.of hda, ?_⟩
      refine wpPlan_done ?_
      go_wp2
      refine bodyPost_ret (load_bent HFin.out.1 rfl) rfl ⟨sz.set j1 y, F, _, _, _, rfl, by simp; omega, by omega, hFe, HFin.out.2.1, HFin.out.2.2.1, HFin.out.2.2.2⟩
  · obtain ⟨u0, u1, u2, u3, u4, u5⟩ := row3 HI.out.box
    go_wp2_with fail
    refine (around_any p3 6 _ c1 c2 (by omega) (by omega)).mono ?_
    rintro e w' ⟨rfl, rfl⟩
    generalize around p3 6 = z at *
    have HJ := hid (HI.out.setT z)
    have HFin := hid HJ.out.fin
    obtain ⟨y0, y1, y2, y3, y4, y5, y6, y7, y8⟩ := HJ.out.tail
    clear HJ
    go_wp2
    refine bodyPost_ret (load_bent HFin.out.1 rfl) rfl ⟨sz, F, _, _, _, rfl, by omega, by omega, hFe, HFin.out.2.1, HFin.out.2.2.1, HFin.out.2.2.2⟩
  · have hz1 := around_lt p1 3 (by omega)
    have HQ1 := hid (fun X => around_any p1 3 X a1 a2 (by omega) (by omega))
    generalize around p1 3 = z1 at *
    obtain ⟨q, hq, hq1⟩ : ∃ q : Nat, z1.tdiv 2 = (q : Int) ∧ q ≤ 1 := ⟨(z1.tdiv 2).toNat, by
      have : z1 = 0 ∨ z1 = 1 ∨ z1 = 2 := by omega
      rcases this with rfl | rfl | rfl <;> decide, by
      have : z1 = 0 ∨ z1 = 1 ∨ z1 = 2 := by omega
      rcases this with rfl | rfl | rfl <;> decide⟩
    obtain ⟨u0, u1, u2, u3, u4, u5⟩ := row3 HI.out.box
    have hgw : w.heap.size < W.heap.size := (Array.getElem?_eq_some_iff.1 HI.out.box).1
    have x0 : ∀ x : Grew W, x.1.cell? ⟨w.heap.size, 0, none⟩ = some (.slice xa sz.length xc) := fun x => (x.cell _ _ hgw).trans u0
    have hdr : Below W.heap.size W (W.drewN 1) := below_drewN (Below.refl _ _) 1
    obtain ⟨m, hm⟩ : ∃ m : Nat, m = sz.length + q := ⟨_, rfl⟩
    have hm2 : (sz.length : Int) + (q : Int) = (m : Int) := by omega
    have hm9 : m ≤ 9 := by omega
    have hmk := fun X => run_mkZero (P := Tryd.prog) (t := 22) (e := 3) (b := 8) (by kernel_rfl) (by kernel_rfl) (by omega) m (by omega) X
    clear hm u1 u2 u3 u4 u5
    go_wp2
    refine wp_region_grewS 8 [(true, 0), (true, 1), (true, 2), (true, 3), (false, 4), (true, 5), (true, 6), (false, 7)] (by kernel_rfl) (by kernel_rfl) ?_
    refine wpSteps_pre 4 (by decide) ?_
    simp only [List.take_succ_cons, List.take_zero]
    repeat (go_big_quiet_step (fail))
    refine wpQuiet_nil ?_
    refine wpSteps_one rfl ?_
    go_wp2_with fail
    refine (HQ1.out _).mono ?_
    rintro e w' ⟨rfl, rfl⟩
    go_wp2
    refine qn_mk ⟨InGrew.of hdr, ?_⟩
    refine wpSteps_quiet rfl ?_
    repeat (go_big_quiet_step (fail))
    refine wpQuiet_nil ?_
    refine wpSteps_quiet rfl ?_
    repeat (go_big_quiet_step (fail))
    refine wpQuiet_nil ?_
    refine wpSteps_one rfl ?_
    go_wp2
    have hda : Below W.heap.size W ((W.drewN 1).alloc (.cells (zeroCells m) 3)) := hdr.alloc (Nat.le_refl _) _
    refine qn_mk ⟨InGrew.of hda, ?_⟩
    refine wpSteps_done ?_
    have HC0 : Hid (((W.drewN 1).alloc (.cells (zeroCells m) 3)).heap[W.heap.size]? = some (.cells ((List.replicate m (0 : Int)).map (Value.int .i64)).toArray 3 (0, 0))) := hid (heap_new _ _ rfl)
    have HDA := hid hda
    clear hmk x0 u0 HQ1 hda hdr
    go_wp2
    go_loopw [10] (fun i wr => ∃ (j : Nat) (c : List Int), i = .int .i64 j ∧ j ≤ m ∧ c.length = m ∧ Hid (wr.heap[W.heap.size]? = some (.cells (c.map (Value.int .i64)).toArray 3 (0, 0)) ∧ Below W.heap.size W wr)) (fun i _ => m - (intOf i).toNat)
    case atStart => exact ⟨0, List.replicate m 0, rfl, by omega, by simp, hid ⟨HC0.out, HDA.out⟩⟩
    case round =>
      obtain ⟨j, c, rfl, hj, hcl, HC⟩ := hrel
      by_cases hlt : j < m
      · have hj0 : (0 : Int) ≤ j := by omega
        have hj1 : (j : Int) < m := by omega
        have hj9 : (j : Int) ≤ 9 := by omega
        obtain ⟨q3, q4⟩ := HC.out
        have hzc : j < c.length := by omega
        have d3 : wr.cell? ⟨W.heap.size, j, none⟩ = some (.int .i64 c[j]) := by rw [cell_of_row _ _ _ _ _ (0, 0) q3]; simp [hzc]
        have d4 : wr.frozen? ⟨W.heap.size, j, none⟩ = false := by simp [World.frozen?, q3]
        have hbd := tdiv_in c1 c2 (show (1 : Int) ≤ 1 + (j : Int) by omega)
        have HG : Hid (∀ x : Int, (wr.setCell ⟨W.heap.size, j, none⟩ (.int .i64 x)).heap[W.heap.size]? = some (.cells ((c.set j x).map (Value.int .i64)).toArray 3 (0, 0)) ∧ Below W.heap.size W (wr.setCell ⟨W.heap.size, j, none⟩ (.int .i64 x))) := hid (fun x => by
          refine ⟨?_, q4.setCell (Nat.le_refl _) _⟩
          rw [heap_setCell_same _ _ _ _ _ _ q3]
          simp [List.map_set])
        clear q3 q4
        go_wp2_with fail
        refine (around_any (p3.tdiv (1 + (j : Int))) 5 _ hbd.1 hbd.2 (by omega) (by omega)).mono ?_
        rintro e w' ⟨rfl, rfl⟩
        generalize hA : around (p3.tdiv (1 + (j : Int))) 5 = A
        have hA2 : 0 ≤ A ∧ A < 5 := by rw [← hA]; exact around_lt _ 5 (by omega)
        clear hA
        have HN := hid (HG.out (A - 2))
        clear HG
        go_wp2
        go_roundw
        case rel => exact ⟨j + 1, c.set j (A - 2), by go_num, by omega, by rw [List.length_set]; exact hcl, HN⟩
        case measure => simp [intOf]; omega
      · obtain rfl : j = m := by omega
        obtain ⟨q3, q4⟩ := HC.out
        have HIr := hid (HI.out.grow q4)
        obtain ⟨u0, u1, u2, u3, u4, u5⟩ := row3 HIr.out.box
        have hlo := HIr.out.rows.lt
        have hlo0 := HI.out.rows.lt
        have hsl0 := HI.out.own.1.lt
        have hsz2 : w.heap.size + 2 ≤ W.heap.size := (Array.getElem?_eq_some_iff.1 HI.out.res).1
        have hF0 := intsF_row q3 (by omega)
        have hu : IntsV (fun b => (b ≠ w.heap.size ∧ b ≠ w.heap.size + 1 ∧ ¬ OB (.slice va F.length vc) b ∧ ¬ OB (.slice xa sz.length xc) b) ∧ b < wr.heap.size) wr (.slice (some ⟨W.heap.size, 0, none⟩) j j) c := by
          rw [hcl] at hF0
          exact hF0.sl.mono (fun b hb (h2 : b = W.heap.size) => ⟨⟨by omega, by omega, fun h => by have := (hlo0 b h).2; omega, fun h => by have := (hsl0 b h.symm).2; omega⟩, hb⟩)
        have hown := HIr.out.rows.mono (E' := fun b => (b ≠ w.heap.size ∧ b ≠ w.heap.size + 1 ∧ ¬ OB (.slice va F.length vc) b ∧ ¬ OB (.slice xa sz.length xc) b) ∧ b < wr.heap.size) (fun b hb h => ⟨h, hb⟩)
        have hE : ∀ b, b < wr.heap.size → ((b ≠ w.heap.size ∧ b ≠ w.heap.size + 1 ∧ ¬ OB (.slice va F.length vc) b ∧ ¬ OB (.slice xa sz.length xc) b) ∧ b < wr.heap.size) → ¬ OB (.slice va F.length vc) b := fun b _ h => h.1.2.2.1
        have hB2 : w.heap.size + 2 ≤ wr.heap.size := by have := q4.size; omega
        have HlF := hid hlo
        clear q3 q4 hF0 hlo hlo0 hsl0 u2 u3 u4 u5
        go_wp2_with (at_builtin; go_must (refine wpList_appS1 rfl _ _ rfl Tryd.app63 rfl hown hE rfl c hu rfl (by omega) hB2 ?_))
        intro v8 w8 hown8 ht8 hn8
        have HJ := hid (HIr.out.newF ht8 hn8 hown8)
        obtain ⟨va8, vl8, vc8, rfl⟩ : ∃ a l c, v8 = .slice a l c := by obtain ⟨a, c', h, -⟩ := (hown8.sl (S := fun _ => True) (fun _ _ => trivial) (fun _ _ _ => trivial)).form; exact ⟨_, _, _, h⟩
        have k8 := (ht8.block w.heap.size (fun hob => by have := (HlF.out _ hob).1; omega) (Array.getElem?_eq_some_iff.1 HIr.out.box).1).trans HIr.out.box
        have z1 := (row3 k8).2.1
        have z2 := (row3 k8).2.2.2.2.1
        have HFin := hid HJ.out.fin
        obtain ⟨y0, y1, y2, y3, y4, y5, y6, y7, y8⟩ := HJ.out.tail
        clear HJ hown8 ht8 hn8 k8 hown hE hu
        go_wp2
        refine bodyPost_ret (load_bent HFin.out.1 rfl) rfl ⟨sz, F ++ [c], _, _, _, rfl, by omega, by simp; omega, fun f hf => ?_, HFin.out.2.1, HFin.out.2.2.1, HFin.out.2.2.2⟩
        rcases List.mem_append.1 hf with hf | hf
        · exact hFe f hf
        · rw [List.mem_singleton.1 hf]; omega
  · have hz2 := around_lt p3 3 (by omega)
    have HQ2 := hid (fun X => around_any p3 3 X c1 c2 (by omega) (by omega))
    generalize around p3 3 = z2 at *
    obtain ⟨j2, rfl⟩ := Int.eq_ofNat_of_zero_le hz2.1
    have hj2 : j2 < 3 := by omega
    obtain ⟨u0, u1, u2, u3, u4, u5⟩ := row3 HI.out.box
    have hgw : w.heap.size < W.heap.size := (Array.getElem?_eq_some_iff.1 HI.out.box).1
    have x0 : ∀ x : Grew W, x.1.cell? ⟨w.heap.size, 0, none⟩ = some (.slice xa sz.length xc) := fun x => (x.cell _ _ hgw).trans u0
    have hdr : Below W.heap.size W (W.drewN 1) := below_drewN (Below.refl _ _) 1
    have hda : Below W.heap.size W ((W.drewN 1).alloc (.cells #[.int .i64 1, .int .i64 2, .int .i64 0] 3)) := hdr.alloc (Nat.le_refl _) _
    obtain ⟨y, hy⟩ : ∃ y : Int, ((W.drewN 1).alloc (.cells #[.int .i64 1, .int .i64 2, .int .i64 0] 3)).cell? ⟨W.heap.size, j2, none⟩ = some (.int .i64 y) := by
      rw [cell_of_row _ W.heap.size j2 _ 3 (0, 0) (heap_new (W.drewN 1) _ rfl)]
      have h5 : j2 = 0 ∨ j2 = 1 ∨ j2 = 2 := by omega
      rcases h5 with rfl | rfl | rfl <;> exact ⟨_, rfl⟩
    generalize hW2 : (W.drewN 1).alloc (.cells #[.int .i64 1, .int .i64 2, .int .i64 0] 3) = W2 at *
    have hW2s : W2.heap.size = W.heap.size + 1 := by rw [← hW2]; simp
    have hda2 : Below W.heap.size W (W2.alloc (.cells #[.int .i64 y] 3)) := hda.alloc (by omega) _
    have hI0 : IntsF (OB (.slice xa sz.length xc)) W (.slice xa sz.length xc) sz := ⟨HI.out.own.1, fun b hb => hb.symm⟩
    have h1F := (int1F W2 y).sl
    rw [hW2s] at h1F
    have HBx := hid HI.out.box
    have hsl0 := HI.out.own.1.lt
    have HsX := hid (fun b (hb : OB (.slice xa sz.length xc) b) => show w.heap.size + 2 ≤ b from HI.out.own.2 b hb.symm)
    clear u1 u2 u3 u4 u5 hsl0
    go_wp2
    refine wp_region_grewP 8 (Plan.quiets [0, 1, 3] (.two 2 4 (.one 4 (.one 5 (.one 6 (.one 7 .done)))) (.one 2 (.one 5 (.one 6 (.one 7 .done)))))) (by kernel_rfl) (by kernel_rfl) ?_
    iterate 3 (refine wpPlan_quiet rfl ?_; repeat (go_big_quiet_step (fail)); refine wpQuiet_nil ?_)
    refine wpPlan_two rfl rfl ?pE ?pF
    case' pE =>
      go_wp2
      try rw [hW2]
      refine qn_mk ⟨InGrew.of hda, ?_⟩
      refine wpPlan_one rfl ?_
      go_wp2_with fail
      refine (HQ2.out _).mono ?_
      rintro e w' ⟨rfl, rfl⟩
      go_wp2
      refine qn_mk ⟨InGrew.of hda, ?_⟩
    case' pF =>
      go_wp2_with fail
      refine (HQ2.out _).mono ?_
      rintro e w' ⟨rfl, rfl⟩
      go_wp2
      refine qn_mk ⟨InGrew.of hdr, ?_⟩
      refine wpPlan_one rfl ?_
      go_wp2
      try rw [hW2]
      refine qn_mk ⟨InGrew.of hda, ?_⟩
    all_goals
      refine wpPlan_one rfl ?_
      go_wp2
      refine qn_mk ⟨InGrew.of hda, ?_⟩
      refine wpPlan_one rfl ?_
      go_wp2
      refine qn_mk ⟨InGrew.of hda, ?_⟩
      refine wpPlan_one rfl ?_
      go_wp2
      refine qn_mk ⟨InGrew.of hda2, ?_⟩
      refine wpPlan_done ?_
      simp only [List.drop_succ_cons, List.drop_zero]
      go_wp2_with (at_builtin; go_must (refine wpList_appI rfl _ _ rfl Tryd.app22 rfl hI0 hda2 rfl h1F (by simp; omega) ?_))
      intro v8 w8 hI8 ht8
      have HJ := hid (HI.out.newS hda2 ht8 hI8)
      obtain ⟨va8, vl8, vc8, rfl⟩ : ∃ a l c, v8 = .slice a l c := by obtain ⟨a, c', h, -⟩ := hI8.sl.form; exact ⟨_, _, _, h⟩
      have k8 := (ht8.block w.heap.size (fun hob => by have := HsX.out _ hob; omega) (by simp; omega)).trans ((hda2.block _ hgw).trans HBx.out)
      have z1 := (row3 k8).1
      have z3 := (row3 k8).2.2.2.1
      have HFin := hid HJ.out.fin
      obtain ⟨y0, y1, y2, y3, y4, y5, y6, y7, y8⟩ := HJ.out.tail
      clear HJ hI8 ht8 k8
      go_wp2
      refine bodyPost_ret (load_bent HFin.out.1 rfl) rfl ⟨sz ++ [y], F, _, _, _, rfl, by simp; omega, by omega, hFe, HFin.out.2.1, HFin.out.2.2.1, HFin.out.2.2.2⟩
  · have hz2 := around_lt p3 14 (by omega)
    have HQ2 := hid (fun X => around_any p3 14 X c1 c2 (by omega) (by omega))
    generalize around p3 14 = z2 at *
    obtain ⟨n, rfl⟩ := Int.eq_ofNat_of_zero_le hz2.1
    have hn14 : n < 14 := by omega
    clear hz2
    have hmk := fun X => run_mkZero (P := Tryd.prog) (t := 22) (e := 3) (b := 8) (by kernel_rfl) (by kernel_rfl) (by omega) sz.length (by omega) X
    go_wp2
    go_loopw [11] (fun i wr => ∃ (k : Nat) (G : List (List Int)) (gv : Value), i = .int .i64 k ∧ k ≤ n ∧ Hid (G.length ≤ 12 + k ∧ (∀ f ∈ G, f.length ≤ 100) ∧ BentI w (.slice xa sz.length xc) gv tn sz G wr)) (fun i _ => n - (intOf i).toNat)
    case atStart => exact ⟨0, F, _, rfl, by omega, hid ⟨by omega, hFe, HI.out⟩⟩
    case round =>
      obtain ⟨k, G, gv, rfl, hk, HR⟩ := hrel
      obtain ⟨g1, g2, h⟩ := HR.out
      obtain ⟨ga, gc, rfl, -, -, -⟩ := (h.rows.sl (S := AnyB) (fun _ _ => trivial) (fun _ _ _ => trivial)).form
      have HIr := hid h
      obtain ⟨u0, u1, u2, u3, u4, u5⟩ := row3 h.box
      clear h
      go_wp2_with fail
      refine (HQ2.out _).mono ?_
      rintro e w' ⟨rfl, rfl⟩
      by_cases hlt : k < n
      · have hk1 : (k : Int) < n := by omega
        have hk0 : (0 : Int) ≤ k := by omega
        have hgw : w.heap.size < wr.heap.size := (Array.getElem?_eq_some_iff.1 HIr.out.box).1
        have x0 : ∀ x : Grew wr, x.1.cell? ⟨w.heap.size, 0, none⟩ = some (.slice xa sz.length xc) := fun x => (x.cell _ _ hgw).trans u0
        have x1 : ∀ x : Grew wr, x.1.cell? ⟨w.heap.size, 1, none⟩ = some (.slice ga G.length gc) := fun x => (x.cell _ _ hgw).trans u1
        have hdr : Below wr.heap.size wr (wr.drewN 1) := below_drewN (Below.refl _ _) 1
        have hda : Below wr.heap.size wr ((wr.drewN 1).alloc (.cells (zeroCells sz.length) 3)) := hdr.alloc (Nat.le_refl _) _
        have q3 : ((wr.drewN 1).alloc (.cells (zeroCells sz.length) 3)).heap[wr.heap.size]? = some (.cells ((List.replicate sz.length (0 : Int)).map (Value.int .i64)).toArray 3 (0, 0)) := heap_new _ _ rfl
        clear u2 u3 u4 u5
        go_wp2
        refine wp_region_grewS 7 [(true, 0), (true, 1), (true, 2), (true, 3), (true, 4), (false, 5), (false, 6)] (by kernel_rfl) (by kernel_rfl) ?_
        refine wpSteps_pre 5 (by decide) ?_
        simp only [List.take_succ_cons, List.take_zero]
        repeat (go_big_quiet_step (fail))
        refine wpQuiet_nil ?_
        refine wpSteps_one rfl ?_
        clear u0 u1
        go_wp2
        refine qn_mk ⟨InGrew.of hda, ?_⟩
        refine wpSteps_one rfl ?_
        have HIw := hid (HIr.out.grow hda)
        have HG := hid (fun b (hb : OB (.slice ga G.length gc) b) => (HIr.out.rows.lt b hb))
        have HS := hid (fun b (hb : OB (.slice xa sz.length xc) b) => (HIr.out.own.1.lt b hb.symm))
        have hsz2 : w.heap.size + 2 ≤ wr.heap.size := (Array.getElem?_eq_some_iff.1 HIr.out.res).1
        have hws : ((wr.drewN 1).alloc (.cells (zeroCells sz.length) 3)).heap.size = wr.heap.size + 1 := by simp
        generalize hW2 : (wr.drewN 1).alloc (.cells (zeroCells sz.length) 3) = W2 at *
        have hda2 : Below wr.heap.size wr (W2.alloc (.cells #[.slice (some ⟨wr.heap.size, 0, none⟩) sz.length sz.length] 22)) := hda.alloc (by omega) _
        go_wp2
        refine qn_mk ⟨InGrew.of hda2, ?_⟩
        refine wpSteps_done ?_
        simp only [List.drop_succ_cons, List.drop_zero]
        have hF0 := intsF_row q3 (by simp; omega)
        rw [List.length_replicate] at hF0
        have hu : IntsV (fun b => (b ≠ w.heap.size ∧ b ≠ w.heap.size + 1 ∧ ¬ OB (.slice ga G.length gc) b ∧ ¬ OB (.slice xa sz.length xc) b) ∧ b < W2.heap.size) W2 (.slice (some ⟨wr.heap.size, 0, none⟩) sz.length sz.length) (List.replicate sz.length 0) :=
          hF0.sl.mono (fun b hb (h2 : b = wr.heap.size) => ⟨⟨by omega, by omega, fun h => by have := (HG.out b h).2; omega, fun h => by have := (HS.out b h).2; omega⟩, hb⟩)
        have hown := HIw.out.rows.mono (E' := fun b => (b ≠ w.heap.size ∧ b ≠ w.heap.size + 1 ∧ ¬ OB (.slice ga G.length gc) b ∧ ¬ OB (.slice xa sz.length xc) b) ∧ b < W2.heap.size) (fun b hb h => ⟨h, hb⟩)
        have hE : ∀ b, b < W2.heap.size → ((b ≠ w.heap.size ∧ b ≠ w.heap.size + 1 ∧ ¬ OB (.slice ga G.length gc) b ∧ ¬ OB (.slice xa sz.length xc) b) ∧ b < W2.heap.size) → ¬ OB (.slice ga G.length gc) b := fun b _ h => h.1.2.2.1
        have HWs := hid hws
        have hW2g : w.heap.size + 2 ≤ W2.heap.size := by omega
        clear hws
        go_wp2_with (at_builtin; go_must (refine wpList_appS1 rfl _ _ rfl Tryd.app63 rfl hown hE (by exact congrArg (fun b => Value.slice (some ⟨b, 0, none⟩) 1 1) HWs.out.symm) (List.replicate sz.length 0) hu rfl (by omega) hW2g ?_))
        intro v8 w8 hown8 ht8 hn8
        have HJ := hid (HIw.out.newF ht8 hn8 hown8)
        obtain ⟨va8, vl8, vc8, rfl⟩ : ∃ a l c, v8 = .slice a l c := by obtain ⟨a, c', h, -⟩ := (hown8.sl (S := fun _ => True) (fun _ _ => trivial) (fun _ _ _ => trivial)).form; exact ⟨_, _, _, h⟩
        have k8 := (ht8.block w.heap.size (fun hob => by have := (HG.out _ hob).1; omega) (Array.getElem?_eq_some_iff.1 HIw.out.box).1).trans HIw.out.box
        have z1 := (row3 k8).2.1
        have z3 := (row3 k8).2.2.2.2.1
        have HN : Hid ((G ++ [List.replicate sz.length 0]).length ≤ 12 + (k + 1) ∧ (∀ f ∈ G ++ [List.replicate sz.length 0], f.length ≤ 100) ∧ BentI w (.slice xa sz.length xc) (.slice va8 vl8 vc8) tn sz (G ++ [List.replicate sz.length 0]) (w8.setCell ⟨w.heap.size, 1, none⟩ (.slice va8 vl8 vc8))) :=
          hid ⟨by simp; omega, fun f hf => by
            rcases List.mem_append.1 hf with hf | hf
            · exact g2 f hf
            · rw [List.mem_singleton.1 hf]; simp; omega, HJ.out⟩
        clear HJ hown8 ht8 hn8 k8 hown hE hu hF0 hda2 hdr
        go_wp2
        go_roundw
        case rel => exact ⟨k + 1, G ++ [List.replicate sz.length 0], _, by go_num, by omega, HN⟩
        case measure => simp [intOf]; omega
      · obtain rfl : k = n := by omega
        have HFin := hid HIr.out.fin
        obtain ⟨y0, y1, y2, y3, y4, y5, y6, y7, y8⟩ := HIr.out.tail
        clear u0 u1 u2 u3 u4 u5
        go_wp2
        refine bodyPost_ret (load_bent HFin.out.1 rfl) rfl ⟨sz, G, _, _, _, rfl, by omega, by omega, g2, HFin.out.2.1, HFin.out.2.2.1, HFin.out.2.2.2⟩

end Go.Proofs.YtjaejnacdanpkaaDoor
