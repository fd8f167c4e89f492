/- rising of the reference: whether indices strictly increase and are indices of forbidden combinations. Problems that are not valid: each function of layer 28, of the program and of the reference, returns just the error. And what a valid problem is. Least of the reference, on valid problems. -/
import Derived.Test.YtjaejnacdanpkaaDoorC46
import Derived.Test.YtjaejnacdanpkaaDoorB31
import Derived.Test.YtjaejnacdanpkaaDoorC16
import Derived.Test.YtjaejnacdanpkaaDoorC45
import Derived.Test.YtjaejnacdanpkaaDoorBCov
namespace Go.Proofs.YtjaejnacdanpkaaDoor
open Go.RowKit

attribute [local go_sem] Oper.semAt_some

theorem validE_i64 (sz : List Int) (F : List (List Int)) (t : Int) : validE sz F t = 0 ∨ validE sz F t = 1 ∨ validE sz F t = 4 := by
  unfold validE
  split
  · exact .inr (.inr rfl)
  · split
    · exact .inr (.inl rfl)
    · split
      · exact .inr (.inl rfl)
      · exact .inl rfl

set_option maxRecDepth 100000 in
set_option maxHeartbeats 2000000 in
theorem pcover_err (sz : List Int) (hszl : sz.length ≤ 100000) (F : List (List Int)) (t : Int) (he : validE sz F t ≠ 0) (sa : Option Addr) (sc : Nat) (fa : Option Addr) (fc : Nat) (S T : Nat → Prop) (w : World)
    (hs : IntsV S w (.slice sa sz.length sc) sz) (hf : RowsV T w (.slice fa F.length fc) F) :
    Calls Tryd.prog 11 #[.slice sa sz.length sc, .slice fa F.length fc, .int .i64 t] w fun e w' => e = .returned (.tuple #[.slice none 0 0, .slice none 0 0, .slice none 0 0, .int .i64 (validE sz F t)]) ∧ Below w.heap.size w w' := by
  have hb1 : Below w.heap.size w (w.alloc (.cells #[.slice sa sz.length sc, .slice fa F.length fc, .int .i64 t] 57)) := (Below.refl _ _).alloc (Nat.le_refl _) _
  have HVal := hid (pvalid_any sz hszl F t sa sc fa fc S T _ (hs.keep (KeepS.below hb1)) (hf.keep (KeepS.below hb1)))
  have hd : (validE sz F t != 0) = true := bneT he
  generalize validE sz F t = ev at *
  have HB := hid hb1
  clear hs hf hb1 he
  rw [← callsIn_wide (n := 5)]
  refine callsIn_of_wp_marks Tryd.func11 rfl trivial ?_ rfl
  simp only [Tryd.ntmps11, List.size_toArray, List.length_cons, List.length_nil, Nat.reduceAdd, Nat.reduceSub, Array.replicate_succ, Array.replicate_zero, List.push_toArray, List.append_toArray, List.nil_append, List.cons_append]
  rw [wpIn_wide]
  go_wp2_with fail
  refine HVal.out.mono ?_
  rintro e w2 ⟨rfl, hb2⟩
  have HB2 := hid (HB.out.trans (hb2.mono (by simp)))
  clear hb2
  go_wp2
  refine leave_marksV (v := (.tuple #[.slice none 0 0, .slice none 0 0, .slice none 0 0, .int .i64 (ev)])) (Marks.nil w.heap.size w.heap.size _) (fun w' ht => ⟨?_, rfl, HB2.out.trans ht.1⟩)
  simp [results, Tryd.results11, go_sem]

set_option maxRecDepth 100000 in
set_option maxHeartbeats 2000000 in
theorem pcheck_err (sz : List Int) (hszl : sz.length ≤ 100000) (F : List (List Int)) (t : Int) (he : validE sz F t ≠ 0) (sa : Option Addr) (sc : Nat) (fa : Option Addr) (fc : Nat) (v3 v4 v5 : Value) (S T : Nat → Prop) (w : World)
    (hs : IntsV S w (.slice sa sz.length sc) sz) (hf : RowsV T w (.slice fa F.length fc) F) :
    Calls Tryd.prog 18 #[.slice sa sz.length sc, .slice fa F.length fc, .int .i64 t, v3, v4, v5] w fun e w' => e = .returned (.int .i64 (validE sz F t)) ∧ Below w.heap.size w w' := by
  have hb1 : Below w.heap.size w (w.alloc (.cells #[.slice sa sz.length sc, .slice fa F.length fc, .int .i64 t] 57)) := (Below.refl _ _).alloc (Nat.le_refl _) _
  have HVal := hid (pvalid_any sz hszl F t sa sc fa fc S T _ (hs.keep (KeepS.below hb1)) (hf.keep (KeepS.below hb1)))
  have hd : (validE sz F t != 0) = true := bneT he
  generalize validE sz F t = ev at *
  have HB := hid hb1
  clear hs hf hb1 he
  rw [← callsIn_wide (n := 5)]
  refine callsIn_of_wp_marks Tryd.func18 rfl trivial ?_ rfl
  simp only [Tryd.ntmps18, List.size_toArray, List.length_cons, List.length_nil, Nat.reduceAdd, Nat.reduceSub, Array.replicate_succ, Array.replicate_zero, List.push_toArray, List.append_toArray, List.nil_append, List.cons_append]
  rw [wpIn_wide]
  go_wp2_with fail
  refine HVal.out.mono ?_
  rintro e w2 ⟨rfl, hb2⟩
  have HB2 := hid (HB.out.trans (hb2.mono (by simp)))
  clear hb2
  go_wp2
  refine leave_marksV (v := (.int .i64 (ev))) (Marks.nil w.heap.size w.heap.size _) (fun w' ht => ⟨?_, rfl, HB2.out.trans ht.1⟩)
  simp [results, Tryd.results18, go_sem]

set_option maxRecDepth 100000 in
set_option maxHeartbeats 2000000 in
theorem pleast_err (sz : List Int) (hszl : sz.length ≤ 100000) (F : List (List Int)) (t : Int) (he : validE sz F t ≠ 0) (sa : Option Addr) (sc : Nat) (fa : Option Addr) (fc : Nat) (S T : Nat → Prop) (w : World)
    (hs : IntsV S w (.slice sa sz.length sc) sz) (hf : RowsV T w (.slice fa F.length fc) F) :
    Calls Tryd.prog 20 #[.slice sa sz.length sc, .slice fa F.length fc, .int .i64 t] w fun e w' => e = .returned (.tuple #[.int .i64 0, .int .i64 (validE sz F t)]) ∧ Below w.heap.size w w' := by
  have hb1 : Below w.heap.size w (w.alloc (.cells #[.slice sa sz.length sc, .slice fa F.length fc, .int .i64 t] 57)) := (Below.refl _ _).alloc (Nat.le_refl _) _
  have HVal := hid (pvalid_any sz hszl F t sa sc fa fc S T _ (hs.keep (KeepS.below hb1)) (hf.keep (KeepS.below hb1)))
  have hd : (validE sz F t != 0) = true := bneT he
  generalize validE sz F t = ev at *
  have HB := hid hb1
  clear hs hf hb1 he
  rw [← callsIn_wide (n := 5)]
  refine callsIn_of_wp_marks Tryd.func20 rfl trivial ?_ rfl
  simp only [Tryd.ntmps20, List.size_toArray, List.length_cons, List.length_nil, Nat.reduceAdd, Nat.reduceSub, Array.replicate_succ, Array.replicate_zero, List.push_toArray, List.append_toArray, List.nil_append, List.cons_append]
  rw [wpIn_wide]
  go_wp2_with fail
  refine HVal.out.mono ?_
  rintro e w2 ⟨rfl, hb2⟩
  have HB2 := hid (HB.out.trans (hb2.mono (by simp)))
  clear hb2
  go_wp2
  refine leave_marksV (v := (.tuple #[.int .i64 0, .int .i64 (ev)])) (Marks.nil w.heap.size w.heap.size _) (fun w' ht => ⟨?_, rfl, HB2.out.trans ht.1⟩)
  simp [results, Tryd.results20, go_sem]

set_option maxRecDepth 100000 in
set_option maxHeartbeats 2000000 in
theorem rcover_err (sz : List Int) (hszl : sz.length ≤ 100000) (F : List (List Int)) (hFl : F.length ≤ 100000) (hFe : ∀ c ∈ F, c.length ≤ 100000) (t : Int) (he : validE sz F t ≠ 0) (sa : Option Addr) (sc : Nat) (fa : Option Addr) (fc : Nat) (S T : Nat → Prop) (w : World)
    (hs : IntsV S w (.slice sa sz.length sc) sz) (hf : RowsV T w (.slice fa F.length fc) F) :
    Calls Tryd.prog 13 #[.agg #[.slice sa sz.length sc, .slice fa F.length fc, .int .i64 t]] w fun e w' => e = .returned (.tuple #[.slice none 0 0, .slice none 0 0, .slice none 0 0, .int .i64 (validE sz F t)]) ∧ Below w.heap.size w w' := by
  have hb1 : Below w.heap.size w (w.alloc (.cells #[.slice sa sz.length sc, .slice fa F.length fc, .int .i64 t] 25)) := (Below.refl _ _).alloc (Nat.le_refl _) _
  have HVal := hid (valid_any sz hszl F hFl hFe t sa sc fa fc S T _ (hs.keep (KeepS.below hb1)) (hf.keep (KeepS.below hb1)))
  have hd : (validE sz F t != 0) = true := bneT he
  generalize validE sz F t = ev at *
  have HB := hid hb1
  clear hs hf hb1 he hFe
  go_enter Tryd.func13, Tryd.ntmps13
  go_wp2_with fail
  refine HVal.out.mono ?_
  rintro e w2 ⟨rfl, hb2⟩
  have HB2 := hid (HB.out.trans (hb2.mono (by simp)))
  clear hb2
  go_wp2
  try simp only [Exit.inBlock, Exit.then]
  refine bodyPost_ret (results_tmp4 rfl _ _ _) rfl ?_
  exact ⟨rfl, HB2.out⟩

set_option maxRecDepth 100000 in
set_option maxHeartbeats 2000000 in
theorem rcheck_err (sz : List Int) (hszl : sz.length ≤ 100000) (F : List (List Int)) (hFl : F.length ≤ 100000) (hFe : ∀ c ∈ F, c.length ≤ 100000) (t : Int) (he : validE sz F t ≠ 0) (sa : Option Addr) (sc : Nat) (fa : Option Addr) (fc : Nat) (v3 v4 v5 : Value) (S T : Nat → Prop) (w : World)
    (hs : IntsV S w (.slice sa sz.length sc) sz) (hf : RowsV T w (.slice fa F.length fc) F) :
    Calls Tryd.prog 19 #[.agg #[.slice sa sz.length sc, .slice fa F.length fc, .int .i64 t], v3, v4, v5] w fun e w' => e = .returned (.int .i64 (validE sz F t)) ∧ Below w.heap.size w w' := by
  have hb1 : Below w.heap.size w (w.alloc (.cells #[.slice sa sz.length sc, .slice fa F.length fc, .int .i64 t] 25)) := (Below.refl _ _).alloc (Nat.le_refl _) _
  have HVal := hid (valid_any sz hszl F hFl hFe t sa sc fa fc S T _ (hs.keep (KeepS.below hb1)) (hf.keep (KeepS.below hb1)))
  have hd : (validE sz F t != 0) = true := bneT he
  generalize validE sz F t = ev at *
  have HB := hid hb1
  clear hs hf hb1 he hFe
  go_enter Tryd.func19, Tryd.ntmps19
  go_wp2_with fail
  refine HVal.out.mono ?_
  rintro e w2 ⟨rfl, hb2⟩
  have HB2 := hid (HB.out.trans (hb2.mono (by simp)))
  clear hb2
  go_wp2
  go_ret
  exact ⟨rfl, HB2.out⟩

set_option maxRecDepth 100000 in
set_option maxHeartbeats 2000000 in
theorem rleast_err (sz : List Int) (hszl : sz.length ≤ 100000) (F : List (List Int)) (hFl : F.length ≤ 100000) (hFe : ∀ c ∈ F, c.length ≤ 100000) (t : Int) (he : validE sz F t ≠ 0) (sa : Option Addr) (sc : Nat) (fa : Option Addr) (fc : Nat) (S T : Nat → Prop) (w : World)
    (hs : IntsV S w (.slice sa sz.length sc) sz) (hf : RowsV T w (.slice fa F.length fc) F) :
    Calls Tryd.prog 21 #[.agg #[.slice sa sz.length sc, .slice fa F.length fc, .int .i64 t]] w fun e w' => e = .returned (.tuple #[.int .i64 0, .int .i64 (validE sz F t)]) ∧ Below w.heap.size w w' := by
  have hb1 : Below w.heap.size w (w.alloc (.cells #[.slice sa sz.length sc, .slice fa F.length fc, .int .i64 t] 25)) := (Below.refl _ _).alloc (Nat.le_refl _) _
  have HVal := hid (valid_any sz hszl F hFl hFe t sa sc fa fc S T _ (hs.keep (KeepS.below hb1)) (hf.keep (KeepS.below hb1)))
  have hd : (validE sz F t != 0) = true := bneT he
  generalize validE sz F t = ev at *
  have HB := hid hb1
  clear hs hf hb1 he hFe
  go_enter Tryd.func21, Tryd.ntmps21
  go_wp2_with fail
  refine HVal.out.mono ?_
  rintro e w2 ⟨rfl, hb2⟩
  have HB2 := hid (HB.out.trans (hb2.mono (by simp)))
  clear hb2
  go_wp2
  go_ret2
  exact ⟨rfl, HB2.out⟩

/-- What a valid problem is. -/
structure OkP (ns : List Nat) (F : List (List Int)) (tn : Nat) : Prop where
  pos : 0 < ns.length
  len : ns.length ≤ 8
  size : ∀ n ∈ ns, 1 ≤ n ∧ n ≤ 8
  few : F.length ≤ 12
  combo : ∀ c ∈ F, Cov.comboB ns c = true
  vals : ∀ c ∈ F, 0 < Cov.vals c
  t : 2 ≤ tn ∧ tn ≤ 3 ∧ tn ≤ ns.length
theorem comboB_gaps : ∀ (ns : List Nat) (c : List Int), Cov.comboB ns c = true → ∀ y ∈ c, -1 ≤ y
  | [], [], _, y, h => absurd h (by simp)
  | n :: ns, x :: c, h, y, hy => by
    simp only [Cov.comboB, Bool.and_eq_true, decide_eq_true_eq] at h
    rcases List.mem_cons.1 hy with rfl | hy
    · exact h.1.1
    · exact comboB_gaps ns c h.2 y hy
  | [], _ :: _, h, _, _ => by simp [Cov.comboB] at h
  | _ :: _, [], h, _, _ => by simp [Cov.comboB] at h
theorem OkP.gaps {ns : List Nat} {F : List (List Int)} {tn : Nat} (h : OkP ns F tn) : GapsF ns.length F := fun c hc => ⟨Cov.comboB_len ns c (h.combo c hc), comboB_gaps ns c (h.combo c hc)⟩
theorem OkP.le {ns : List Nat} {F : List (List Int)} {tn : Nat} (h : OkP ns F tn) : ∀ n ∈ ns, n ≤ 8 := fun n hn => (h.size n hn).2
theorem ok_of_valid (sz : List Int) (F : List (List Int)) (t : Int) (h : validE sz F t = 0) : sz = szI (nats sz) ∧ t = ((t.toNat : Nat) : Int) ∧ OkP (nats sz) F t.toNat := by
  unfold validE at h
  split at h
  · exact absurd h (by decide)
  · rename_i h1
    split at h
    · exact absurd h (by decide)
    · rename_i h2
      split at h
      · exact absurd h (by decide)
      · rename_i h3
        rw [Bool.not_eq_true] at h1 h2 h3
        unfold limB at h1
        unfold argB at h2
        simp only [Bool.or_eq_false_iff, decide_eq_false_iff_not] at h1 h2
        have hw := h2.1
        have hsz := szI_nats hw
        have hnl : (nats sz).length = sz.length := by simp [nats]
        unfold wrongB at hw
        simp only [Bool.or_eq_false_iff, List.any_eq_false, decide_eq_false_iff_not] at hw
        refine ⟨hsz.symm, by omega, ⟨by omega, by omega, fun n hn => ?_, by omega, fun c hc => ?_, fun c hc => ?_, by omega⟩⟩
        · obtain ⟨s, hs, rfl⟩ := List.mem_map.1 hn
          have := hw.2 s hs
          simp only [badS, Bool.or_eq_true, decide_eq_true_eq, not_or] at this
          omega
        · have := List.any_eq_false.1 h3 c hc
          simp only [badC, Bool.or_eq_true, Bool.not_eq_true', decide_eq_true_eq, not_or] at this
          simpa using this.1
        · have := List.any_eq_false.1 h3 c hc
          simp only [badC, Bool.or_eq_true, Bool.not_eq_true', decide_eq_true_eq, not_or] at this
          omega

end Go.Proofs.YtjaejnacdanpkaaDoor

namespace Go.Proofs.YtjaejnacdanpkaaDoor
open Go.RowKit

theorem getD_at {α : Type} {l : List α} {i : Nat} {d : α} (h : i < l.length) : l.getD i d = l[i] := by
  rw [List.getD_eq_getElem?_getD, List.getElem?_eq_getElem h]; rfl
theorem foldl_snoc_max (f : List Int → Nat) (K : List (List Int)) (k : Nat) (h : k < K.length) : ((K.take (k + 1)).map f).foldl max 0 = max (((K.take k).map f).foldl max 0) (f K[k]) := by
  rw [← take_snoc h, List.map_append, List.foldl_append]; rfl

set_option maxRecDepth 100000 in
set_option maxHeartbeats 4000000 in
theorem rleast_ok (ns : List Nat) (F : List (List Int)) (tn : Nat) (ho : OkP ns F tn) (hv : validE (szI ns) F tn = 0) (sa : Option Addr) (sc : Nat) (fa : Option Addr) (fc : Nat) (S T : Nat → Prop) (w : World)
    (hs : IntsV S w (.slice sa ns.length sc) (szI ns)) (hf : RowsV T w (.slice fa F.length fc) F) :
    Calls Tryd.prog 21 #[.agg #[.slice sa ns.length sc, .slice fa F.length fc, .int .i64 tn]] w fun e w' => e = .returned (.tuple #[.int .i64 (Cov.leastL (Cov.openL ns F tn) : Nat), .int .i64 0]) ∧ Below w.heap.size w w' := by
  have hl := ho.len
  have hFl := ho.few
  obtain ⟨sa', sc', es, hoks, hcaps, hmaxs⟩ := hs.form
  rw [List.length_map] at es hoks hcaps
  cases es
  obtain ⟨fa', fc', ef, hokf, hcapf, hmaxf⟩ := hf.form
  cases ef
  have hb1 : Below w.heap.size w (w.alloc (.cells #[.slice sa ns.length sc, .slice fa F.length fc, .int .i64 tn] 25)) := (Below.refl _ _).alloc (Nat.le_refl _) _
  have HVal := hid (by have := valid_any (szI ns) (by simp; omega) F (by omega) (fun c hc => by rw [(ho.gaps c hc).1]; omega) tn sa sc fa fc S T _ (by simpa using hs.keep (KeepS.below hb1)) (hf.keep (KeepS.below hb1)); rw [hv, List.length_map] at this; exact this)
  have HRow := hid (fun X (hb : Below w.heap.size w X) => rowsF_any ns ho.le hl F (fun c hc => (ho.gaps c hc).1) (by omega) sa sc fa fc tn S T X (hs.keep (KeepS.below hb)) (hf.keep (KeepS.below hb)))
  have HAsk := hid (fun X (hb : Below w.heap.size w X) => asked_any ns ho.le hl F.length sa sc fa fc tn S X (hs.keep (KeepS.below hb)))
  have HB := hid hb1
  have HO := hid ho
  have hbox := World.alloc_heap_new w (.cells #[.slice sa ns.length sc, .slice fa F.length fc, .int .i64 tn] 25)
  obtain ⟨W1, hW1⟩ : ∃ W1, W1 = w.alloc (.cells #[.slice sa ns.length sc, .slice fa F.length fc, .int .i64 tn] 25) := ⟨_, rfl⟩
  have hs1 : W1.heap.size = w.heap.size + 1 := by rw [hW1]; simp
  rw [← hW1] at hbox HB HVal
  have H1 := hid (And.intro hs1 hbox)
  clear hs hf hb1 hv ho hbox hs1
  go_enter Tryd.func21, Tryd.ntmps21
  go_wp2_with fail
  rw [← hW1]
  clear hW1
  refine HVal.out.mono ?_
  rintro e w1 ⟨rfl, hb1⟩
  have hb1' := hb1
  have bxx : ∀ W, Below W1.heap.size W1 W → W.cell? ⟨w.heap.size, 0, none⟩ = some (.slice sa ns.length sc) ∧ W.cell? ⟨w.heap.size, 1, none⟩ = some (.slice fa F.length fc) ∧ W.cell? ⟨w.heap.size, 2, none⟩ = some (.int .i64 tn) := fun W hW => by
    have h0 := (hW.block w.heap.size (by have := H1.out.1; omega)).trans H1.out.2
    exact ⟨cell_of_row _ _ 0 _ _ (0, 0) h0, cell_of_row _ _ 1 _ _ (0, 0) h0, cell_of_row _ _ 2 _ _ (0, 0) h0⟩
  have HBX := hid bxx
  clear bxx
  obtain ⟨bx0, bx1, bx2⟩ := HBX.out w1 hb1
  have HR1 := hid (HRow.out w1 (HB.out.trans (hb1.mono (by have := H1.out.1; omega))))
  have HB1 := hid hb1
  clear hb1 hb1' HVal
  go_wp2_with fail
  refine HR1.out.mono ?_
  rintro e w2 ⟨xa, rfl, hxa, hb2⟩
  have hb2' := HB1.out.trans (hb2.mono HB1.out.size)
  clear bx0 bx1 bx2 HR1
  obtain ⟨bx0, bx1, bx2⟩ := HBX.out w2 hb2'
  have HXA := hid (RowsV.mono (S' := (· < w2.heap.size)) hxa (fun b h _ => h))
  have HA2 := hid (HAsk.out w2 (HB.out.trans (hb2'.mono (by have := H1.out.1; omega))))
  have HB2 := hid hb2'
  obtain ⟨aa, ca, rfl, hoka, hcapa, hmaxa⟩ := hxa.form
  clear hxa hb2 hb2' HRow
  go_wp2_with fail
  refine HA2.out.mono ?_
  rintro e w3 ⟨xk, rfl, hxk, hb3⟩
  have hb3' := HB2.out.trans (hb3.mono HB2.out.size)
  clear bx0 bx1 bx2 HA2
  have HXA3 := hid (RowsV.mono (S' := (· < w3.heap.size)) (RowsV.keep HXA.out (KeepS.below hb3)) (fun b h _ => h))
  have HXK3 := hid (RowsV.mono (S' := (· < w3.heap.size)) hxk (fun b h _ => h))
  have HB3 := hid (HB.out.trans (hb3'.mono (by have := H1.out.1; omega)))
  obtain ⟨ak, ck, rfl, hokk, hcapk, hmaxk⟩ := hxk.form
  clear hxk hb3 hb3' HXA HBX HB1 HB2 HAsk
  have HAl : Hid (∀ r ∈ Cov.okRows ns F, r.length = ns.length) := hid (fun r hr => allP_len false ns r (List.mem_filter.1 hr).1)
  have HKl : Hid (∀ r ∈ Cov.asked ns tn, r.length = ns.length) := hid (fun r hr => allP_len true ns r (List.mem_filter.1 hr).1)
  have hKsz : (Cov.asked ns tn).length ≤ 50000000 := Nat.le_trans (List.length_filter_le _ _) (Nat.le_trans (allP_size true ns HO.out.le) (Nat.le_trans (Nat.pow_le_pow_right (by omega) hl) (by decide)))
  have HRes : Hid (((Cov.asked ns tn).map (Cov.cntA (Cov.okRows ns F) (Cov.asked ns tn))).foldl max 0 = Cov.leastL (Cov.openL ns F tn)) := hid (Cov.least_asked _ _ (fun c hc d hd => by rw [HKl.out c hc, HKl.out d hd]))
  generalize Cov.okRows ns F = A at *
  generalize Cov.asked ns tn = K at *
  go_wp2
  go_loopw [7, 8] (fun m i wr => ∃ k mm : Nat, k ≤ K.length ∧ i = .int .i64 k ∧ m = .int .i64 mm ∧ mm ≤ 50000000 ∧ Hid (((K.take k).map (Cov.cntA A K)).foldl max 0 = mm) ∧ ∃ n, wr = w3.drewN n) (fun _ i _ => K.length - (intOf i).toNat)
  case atStart => exact ⟨0, 0, by omega, rfl, rfl, by omega, hid rfl, 0, rfl⟩
  case round =>
    obtain ⟨k, mm, hk, rfl, rfl, hmm, HM, n, rfl⟩ := hrel
    by_cases hlt : k < K.length
    · have hk0 : (0 : Int) ≤ k := by omega
      have hk1 : (k : Int) < K.length := by omega
      have HST := hid (foldl_snoc_max (Cov.cntA A K) K k hlt)
      obtain ⟨ur, hcr, hbr, hrr⟩ := HXK3.out.at hlt
      obtain ⟨ae, ce, rfl, hokc, hcapc, hmaxc⟩ := hrr.form
      have hcl := HKl.out _ (List.getElem_mem hlt)
      have HRR := hid hrr
      have HCL := hid hcl
      clear hrr hcl
      generalize K[k] = c at *
      go_wp2
      go_loopw [9, 10] (fun o i w2 => ∃ j : Nat, j ≤ K.length ∧ i = .int .i64 j ∧ o = .int .i64 (((K.take j).filter fun d => Cov.sameP c d c.length && Cov.inR A d).length : Nat) ∧ ∃ n, w2 = w3.drewN n) (fun _ i _ => K.length - (intOf i).toNat)
      case atStart => exact ⟨0, by omega, rfl, rfl, n, rfl⟩
      case round =>
        obtain ⟨j, hj, rfl, rfl, n2, rfl⟩ := hrel
        by_cases hjo : j < K.length
        · obtain ⟨uo, hco, hbo, hoo⟩ := HXK3.out.at hjo
          obtain ⟨ax, cx, rfl, hokd, hcapd, hmaxd⟩ := hoo.form
          have hxl := HKl.out _ (List.getElem_mem hjo)
          have HT := hid (filter_take (fun d => Cov.sameP c d c.length && Cov.inR A d) K j hjo)
          have hfl := filter_len (fun d => Cov.sameP c d c.length && Cov.inR A d) K j
          have hj0 : (0 : Int) ≤ j := by omega
          have hj1 : (j : Int) < K.length := by omega
          have HIn := hid (fun nq => in_any A K[j] (fun r hr => by rw [HAl.out r hr, hxl]) (.slice aa A.length ca) (.slice ax K[j].length cx) _ _ (w3.drewN nq) (RowsV.keep HXA3.out (KeepS.below (below_drewN (Below.refl _ _) nq))) (IntsV.keep hoo (KeepS.below (below_drewN (Below.refl _ _) nq))))
          have hdl := hid (show K[j].length = c.length by rw [hxl, HCL.out])
          have HOO := hid hoo
          clear hoo hxl
          generalize K[j] = d at *
          generalize hL : ((K.take j).filter fun d => Cov.sameP c d c.length && Cov.inR A d) = L at *
          clear hL
          go_wp2
          go_loopw [11, 12] (fun s i w4 => ∃ q : Nat, q ≤ c.length ∧ i = .int .i64 q ∧ s = .bool (Cov.sameP c d q) ∧ ∃ n, w4 = w3.drewN n) (fun _ i _ => c.length - (intOf i).toNat)
          case atStart => exact ⟨0, by omega, rfl, rfl, n2, rfl⟩
          case round =>
            obtain ⟨q, hq, rfl, rfl, n3, rfl⟩ := hrel
            by_cases hqc : q < c.length
            · have hqd : q < d.length := by rw [hdl.out]; exact hqc
              obtain ⟨_, hcx, hbx, rfl⟩ := HRR.out.at hqc
              obtain ⟨_, hcy, hby, rfl⟩ := HOO.out.at hqd
              have HSS := hid (Cov.sameP_succ c d q)
              rw [getD_at hqc, getD_at hqd] at HSS
              have hc8 : c.length ≤ 8 := by rw [HCL.out]; exact hl
              have hq0 : (0 : Int) ≤ q := by omega
              have hq1 : (q : Int) < c.length := by omega
              have hq2 : (q : Int) < d.length := by omega
              generalize c[q] = x at *
              generalize d[q] = y at *
              generalize hsp : Cov.sameP c d q = sp at *
              clear hsp
              cases sp with
              | false =>
                have HSS2 : Hid (false = Cov.sameP c d (q + 1)) := hid (by rw [HSS.out]; rfl)
                clear HSS
                go_wp2
                go_quiet (fail)
                go_wp2
                go_roundw
                case rel => exact ⟨q + 1, by omega, by go_num, by rw [← HSS2.out], _, rfl⟩
                case measure => simp [intOf]; omega
              | true =>
                have HSS2 : Hid ((decide (0 ≤ x) == decide (0 ≤ y)) = Cov.sameP c d (q + 1)) := hid (by rw [HSS.out]; rfl)
                clear HSS
                by_cases hx : 0 ≤ x
                · have dx : decide (0 ≤ x) = true := decide_eq_true hx
                  by_cases hy : 0 ≤ y
                  · have dy : decide (0 ≤ y) = true := decide_eq_true hy
                    have HS3 : Hid (Cov.sameP c d (q + 1) = true) := hid (by rw [← HSS2.out, dx, dy]; rfl)
                    clear HSS2
                    go_wp2
                    go_quiet (fail)
                    go_wp2
                    go_roundw
                    case rel => exact ⟨q + 1, by omega, by go_num, by rw [HS3.out], _, rfl⟩
                    case measure => simp [intOf]; omega
                  · have dy : decide (0 ≤ y) = false := decide_eq_false hy
                    have HS3 : Hid (Cov.sameP c d (q + 1) = false) := hid (by rw [← HSS2.out, dx, dy]; rfl)
                    clear HSS2
                    go_wp2
                    go_quiet (fail)
                    go_wp2
                    go_roundw
                    case rel => exact ⟨q + 1, by omega, by go_num, by rw [HS3.out], _, rfl⟩
                    case measure => simp [intOf]; omega
                · have dx : decide (0 ≤ x) = false := decide_eq_false hx
                  by_cases hy : 0 ≤ y
                  · have dy : decide (0 ≤ y) = true := decide_eq_true hy
                    have HS3 : Hid (Cov.sameP c d (q + 1) = false) := hid (by rw [← HSS2.out, dx, dy]; rfl)
                    clear HSS2
                    go_wp2
                    go_quiet (fail)
                    go_wp2
                    go_roundw
                    case rel => exact ⟨q + 1, by omega, by go_num, by rw [HS3.out], _, rfl⟩
                    case measure => simp [intOf]; omega
                  · have dy : decide (0 ≤ y) = false := decide_eq_false hy
                    have HS3 : Hid (Cov.sameP c d (q + 1) = true) := hid (by rw [← HSS2.out, dx, dy]; rfl)
                    clear HSS2
                    go_wp2
                    go_quiet (fail)
                    go_wp2
                    go_roundw
                    case rel => exact ⟨q + 1, by omega, by go_num, by rw [HS3.out], _, rfl⟩
                    case measure => simp [intOf]; omega
            · obtain rfl : q = c.length := by omega
              generalize hsp : Cov.sameP c d c.length = sp at *
              generalize hin : Cov.inR A d = bin at *
              clear hsp hin
              cases sp with
              | false =>
                have HT2 : Hid (L.length = ((K.take (j + 1)).filter fun d => Cov.sameP c d c.length && Cov.inR A d).length) := hid (by rw [HT.out]; simp)
                clear HT
                go_wp2
                go_roundw
                case rel => exact ⟨j + 1, by omega, by go_num, by rw [← HT2.out], _, rfl⟩
                case measure => simp [intOf]; omega
              | true =>
                go_wp2_with fail
                refine (HIn.out n3).mono ?_
                rintro e w5 ⟨rfl, nq, rfl⟩
                cases bin with
                | false =>
                  have HT2 : Hid (L.length = ((K.take (j + 1)).filter fun d => Cov.sameP c d c.length && Cov.inR A d).length) := hid (by rw [HT.out]; simp)
                  clear HT
                  go_wp2
                  go_roundw
                  case rel => exact ⟨j + 1, by omega, by go_num, by rw [← HT2.out], _, rfl⟩
                  case measure => simp [intOf]; omega
                | true =>
                  have HT2 : Hid (L.length + 1 = ((K.take (j + 1)).filter fun d => Cov.sameP c d c.length && Cov.inR A d).length) := hid (by rw [HT.out]; simp)
                  have hL0 : (0 : Int) ≤ L.length := by omega
                  have hL1 : (L.length : Int) ≤ 50000000 := by omega
                  clear HT
                  go_wp2
                  go_roundw
                  case rel => exact ⟨j + 1, by omega, by go_num, by rw [← HT2.out]; go_num, _, rfl⟩
                  case measure => simp [intOf]; omega
        · obtain rfl : j = K.length := by omega
          have hfl := List.length_filter_le (fun d => Cov.sameP c d c.length && Cov.inR A d) K
          rw [List.take_length]
          have HST2 : Hid (((K.take (k + 1)).map (Cov.cntA A K)).foldl max 0 = max mm (K.filter fun d => Cov.sameP c d c.length && Cov.inR A d).length) := hid (by rw [HST.out, HM.out]; rfl)
          clear HST HM
          generalize (K.filter fun d => Cov.sameP c d c.length && Cov.inR A d).length = q at *
          have h0 : (0 : Int) ≤ q := by omega
          have h1 : (0 : Int) ≤ mm := by omega
          go_wp2
          go_roundw
          case rel => exact ⟨k + 1, max mm q, by omega, by go_num, by rw [show (max (mm : Int) (q : Int)) = ((max mm q : Nat) : Int) by omega], by omega, hid HST2.out, _, rfl⟩
          case measure => simp [intOf]; omega
    · obtain rfl : k = K.length := by omega
      have HF : Hid (mm = Cov.leastL (Cov.openL ns F tn)) := hid (by have := HM.out; rw [List.take_length] at this; rw [← this, HRes.out])
      clear HM
      go_wp2
      go_ret2
      exact ⟨by rw [HF.out]; rfl, below_drewN HB3.out _⟩

end Go.Proofs.YtjaejnacdanpkaaDoor
