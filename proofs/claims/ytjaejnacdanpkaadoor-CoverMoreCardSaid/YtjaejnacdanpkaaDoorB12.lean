/- Why of the reference of layer 28. Valid of the reference of layer 28. Valid of the reference of layer 28: right sizes. Own rows side by side. -/
import Derived.Test.YtjaejnacdanpkaaDoorC11
namespace Go.Proofs.YtjaejnacdanpkaaDoor
open Go.RowKit

/-- The first set that shows it. -/
def whyR (R F : List (List Int)) (c : List Int) : List Int := ((Cov.sets F.length).find? (showsR R F c)).getD []
theorem whyR_eq (ns : List Nat) (F : List (List Int)) (c : List Int) : whyR (Cov.rowsC ns) F c = Cov.whyL ns F c := rfl
theorem firstO_nil (R F : List (List Int)) (c : List Int) (j : Nat) : firstO R F c [] 0 j = (Cov.comb 0 F.length j).find? (showsR R F c) := by
  unfold firstO
  rw [Nat.sub_zero]
  congr 1
  simp
theorem whyR_none (R F : List (List Int)) (c : List Int) (h : ∀ i, i < F.length + 1 → firstO R F c [] 0 i = none) : whyR R F c = [] := by
  unfold whyR Cov.sets
  rw [List.find?_eq_none.2]; · rfl
  intro x hx
  obtain ⟨j, hj, hx⟩ := List.mem_flatMap.1 hx
  have := h j (List.mem_range.1 hj)
  rw [firstO_nil] at this
  exact List.find?_eq_none.1 this x hx
theorem whyR_some (R F : List (List Int)) (c L : List Int) (k : Nat) (hk : k ≤ F.length) (h : ∀ i, i < k → firstO R F c [] 0 i = none) (h2 : firstO R F c [] 0 k = some L) : whyR R F c = L := by
  unfold whyR Cov.sets
  have e : List.range (F.length + 1) = List.range k ++ (k :: (List.range (F.length - k)).map (fun i => k + (i + 1))) := by
    rw [show F.length + 1 = k + ((F.length - k) + 1) by omega, List.range_add, List.range_succ_eq_map]
    simp [Function.comp_def]
  rw [e, List.flatMap_append, List.find?_append, List.flatMap_cons, List.find?_append, ← firstO_nil, h2]
  have h0 : ((List.range k).flatMap (Cov.comb 0 F.length)).find? (showsR R F c) = none := by
    refine List.find?_eq_none.2 fun x hx => ?_
    obtain ⟨j, hj, hx⟩ := List.mem_flatMap.1 hx
    have := h j (List.mem_range.1 hj)
    rw [firstO_nil] at this
    exact List.find?_eq_none.1 this x hx
  rw [h0]
  rfl

set_option maxRecDepth 100000 in
set_option maxHeartbeats 4000000 in
theorem why_any (m : Nat) (R F : List (List Int)) (c : List Int) (hR : ∀ r ∈ R, r.length = m) (hF : ∀ f ∈ F, f.length = m) (hFl : F.length ≤ 100) (hc : c.length = m) (sa : Option Addr) (sl sc : Nat) (fa : Option Addr) (fc : Nat) (t : Int) (vr vc : Value) (S1 S2 S3 : Nat → Prop) (w : World)
    (hf : RowsV S1 w (.slice fa F.length fc) F) (hr : RowsV S2 w vr R) (hcv : IntsV S3 w vc c) :
    Calls Tryd.prog 42 #[.agg #[.slice sa sl sc, .slice fa F.length fc, .int .i64 t], vr, vc] w fun e w' => ∃ x, e = .returned x ∧ IntsV (w.heap.size ≤ ·) w' x (whyR R F c) ∧ Below w.heap.size w w' := by
  have hA0 : Below w.heap.size w (w.alloc (.cells #[.slice sa sl sc, .slice fa F.length fc, .int .i64 t] 25)) := (Below.refl _ _).alloc (Nat.le_refl _) _
  have hr0 := hr
  have hc0 := hcv
  obtain ⟨ar, cr, rfl, hokr, hcapr, hmaxr⟩ := hr.form
  obtain ⟨ac, cc, rfl, hokc, hcapc, hmaxc⟩ := hcv.form
  obtain ⟨fa', fc', ef, hokf, hcapf, hmaxf⟩ := hf.form
  cases ef
  have bx : ∀ q (h : q < 3) W, Below (w.heap.size + 1) (w.alloc (.cells #[.slice sa sl sc, .slice fa F.length fc, .int .i64 t] 25)) W → W.cell? ⟨w.heap.size, q, none⟩ = (#[.slice sa sl sc, .slice fa F.length fc, .int .i64 t] : Array Value)[q]? := fun q h W hW => by
    have hb0 : (w.alloc (.cells #[.slice sa sl sc, .slice fa F.length fc, .int .i64 t] 25)).heap[w.heap.size]? = some (.cells #[.slice sa sl sc, .slice fa F.length fc, .int .i64 t] 25 (0, 0)) := World.alloc_heap_new w _
    exact cell_of_row _ _ q _ _ (0, 0) ((hW.block w.heap.size (by omega)).trans hb0)
  have HBX := hid bx
  have hF0 := RowsV.keep hf (KeepS.below hA0)
  have hR0 := RowsV.keep hr0 (KeepS.below hA0)
  have hC0 := IntsV.keep hc0 (KeepS.below hA0)
  have hsz1 : (w.alloc (.cells #[.slice sa sl sc, .slice fa F.length fc, .int .i64 t] 25)).heap.size = w.heap.size + 1 := by simp
  have HA0 := hid hA0
  have HFI := hid (first_any w.heap.size m R F c hR hF hc sa sl sc fa fc t (.slice ar R.length cr) (.slice ac c.length cc) S1 S2 S3)
  clear hA0 hf hr hr0 hcv hc0 bx hR hF hc
  go_enter Tryd.func42, Tryd.ntmps42
  go_wp2
  generalize hW : w.alloc (.cells #[.slice sa sl sc, .slice fa F.length fc, .int .i64 t] 25) = W at *
  clear hW
  have HF1 := hid hF0
  have HR1 := hid hR0
  have HC1 := hid hC0
  clear hF0 hR0 hC0
  go_loopw [7] (fun i wr => ∃ k : Nat, k ≤ F.length + 1 ∧ i = .int .i64 k ∧ Hid (∀ i, i < k → firstO R F c [] 0 i = none) ∧ Below (w.heap.size + 1) W wr) (fun i _ => F.length + 1 - (intOf i).toNat)
  case atStart => exact ⟨0, by omega, rfl, hid (fun i h => absurd h (Nat.not_lt_zero i)), Below.refl _ _⟩
  case round =>
    obtain ⟨k, hk, rfl, hpre, hb⟩ := hrel
    have bx0 := HBX.out 0 (by omega) wr hb
    have bx1 := HBX.out 1 (by omega) wr hb
    have bx2 := HBX.out 2 (by omega) wr hb
    simp only [List.getElem?_toArray, List.getElem?_cons_zero, List.getElem?_cons_succ] at bx0 bx1 bx2
    have hzb : w.heap.size < wr.heap.size := by have := hb.size; omega
    by_cases hlt : k ≤ F.length
    · have hk1 : (k : Int) ≤ F.length := by omega
      have hbW : Below W.heap.size W wr := by rw [hsz1]; exact hb
      have HC := hid (HFI.out k [] 0 0 k (.slice none 0 0) wr rfl rfl (by omega) (by simp) (by simp; omega) (RowsV.keep HF1.out (KeepS.below hbW)) (RowsV.keep HR1.out (KeepS.below hbW)) (IntsV.keep HC1.out (KeepS.below hbW)) ⟨Nat.le_of_lt hzb, SlV.nil _ _ _⟩)
      have HB := hid hb
      clear hb hbW
      go_wp2_with fail
      refine HC.out.mono ?_
      rintro e w9 ⟨a9, l9, c9, rfl, h9, hb9⟩
      have hb10 := HB.out.trans (hb9.mono hzb)
      have HS := hid (fun L => whyR_some R F c L k hlt hpre.out)
      have HN : Hid (firstO R F c [] 0 k = none → ∀ i, i < k + 1 → firstO R F c [] 0 i = none) := hid (fun h i hi => by
        by_cases e : i = k
        · subst e; exact h
        · exact hpre.out i (by omega))
      generalize firstO R F c [] 0 k = fo at *
      cases fo with
      | some L =>
        have HL := hid (HS.out L rfl)
        have H9 := hid (h9 L rfl)
        have HB10 := hid (HA0.out.trans (hb10.mono (Nat.le_succ _)))
        clear hb9 hb10 h9 hpre HS HN HC
        go_wp2
        go_ret
        exact ⟨_, rfl, by rw [HL.out]; exact H9.out, HB10.out⟩
      | none =>
        have HN2 := hid (HN.out rfl)
        have HB10 := hid hb10
        clear hb9 hb10 h9 hpre HS HN HC
        go_wp2
        go_roundw
        case rel => exact ⟨k + 1, by omega, by go_num, HN2, HB10.out⟩
        case measure => simp [intOf]; omega
    · obtain rfl : k = F.length + 1 := by omega
      have hk1 : ¬ (((F.length + 1 : Nat) : Int) ≤ F.length) := by omega
      have HP := hid (whyR_none R F c hpre.out)
      have HB2 := hid (HA0.out.trans (hb.mono (Nat.le_succ _)))
      clear hb hpre
      go_wp2
      go_ret
      exact ⟨_, rfl, by rw [HP.out]; exact SlV.nil _ _ _, HB2.out⟩

end Go.Proofs.YtjaejnacdanpkaaDoor

namespace Go.Proofs.YtjaejnacdanpkaaDoor
open Go.RowKit

def badS (s : Int) : Bool := decide (s < 1) || decide (8 < s)
def wrongB (sz : List Int) : Bool := decide (sz.length = 0) || sz.any badS
def prodR (sz : List Int) : Int := sz.foldl (fun p s => min (p * s) 4097) 1
def prodV (sz : List Int) : Int := if wrongB sz = true then 1 else prodR sz
def limB (sz : List Int) (F : List (List Int)) : Bool := decide (8 < sz.length) || (decide (12 < F.length) || decide (4096 < prodV sz))
def argB (sz : List Int) (t : Int) : Bool := wrongB sz || (decide (t < 2) || (decide (3 < t) || decide ((sz.length : Int) < t)))
def nats (sz : List Int) : List Nat := sz.map Int.toNat
def badC (ns : List Nat) (c : List Int) : Bool := !Cov.comboB ns c || decide (Cov.vals c = 0)
/-- The error of a problem. -/
def validE (sz : List Int) (F : List (List Int)) (t : Int) : Int := if limB sz F = true then 4 else if argB sz t = true then 1 else if F.any (badC (nats sz)) = true then 1 else 0

theorem szI_nats {sz : List Int} (h : wrongB sz = false) : szI (nats sz) = sz := by
  unfold wrongB at h
  simp only [Bool.or_eq_false_iff, List.any_eq_false] at h
  unfold szI nats
  rw [List.map_map]
  refine (List.map_congr_left (g := id) fun s hs => ?_).trans (List.map_id _)
  have := h.2 s hs
  simp [badS] at this
  simp [Function.comp]; omega
theorem any_snoc (sz : List Int) (k : Nat) (h : k < sz.length) : (sz.take (k + 1)).any badS = ((sz.take k).any badS || badS sz[k]) := by
  rw [← take_snoc h, List.any_append]; simp

set_option maxRecDepth 100000 in
set_option maxHeartbeats 4000000 in
theorem valid_wrong (sz : List Int) (hwr : wrongB sz = true) (F : List (List Int)) (t : Int) (sa : Option Addr) (sc : Nat) (fa : Option Addr) (fc : Nat) (S T : Nat → Prop) (w : World)
    (hs : IntsV S w (.slice sa sz.length sc) sz) (hf : RowsV T w (.slice fa F.length fc) F) :
    Calls Tryd.prog 39 #[.agg #[.slice sa sz.length sc, .slice fa F.length fc, .int .i64 t]] w fun e w' => e = .returned (.int .i64 (validE sz F t)) ∧ Below w.heap.size w w' := by
  have hA0 : Below w.heap.size w (w.alloc (.cells #[.slice sa sz.length sc, .slice fa F.length fc, .int .i64 t] 25)) := (Below.refl _ _).alloc (Nat.le_refl _) _
  obtain ⟨sa', sc', es, hoks, hcaps, hmaxs⟩ := hs.form
  cases es
  obtain ⟨fa', fc', ef, hokf, hcapf, hmaxf⟩ := hf.form
  cases ef
  have hb0 : (w.alloc (.cells #[.slice sa sz.length sc, .slice fa F.length fc, .int .i64 t] 25)).heap[w.heap.size]? = some (.cells #[.slice sa sz.length sc, .slice fa F.length fc, .int .i64 t] 25 (0, 0)) := World.alloc_heap_new w _
  have bx0 : (w.alloc (.cells #[.slice sa sz.length sc, .slice fa F.length fc, .int .i64 t] 25)).cell? ⟨w.heap.size, 0, none⟩ = some (.slice sa sz.length sc) := by rw [cell_of_row _ _ 0 _ _ (0, 0) hb0]; rfl
  have bx1 : (w.alloc (.cells #[.slice sa sz.length sc, .slice fa F.length fc, .int .i64 t] 25)).cell? ⟨w.heap.size, 1, none⟩ = some (.slice fa F.length fc) := by rw [cell_of_row _ _ 1 _ _ (0, 0) hb0]; rfl
  have hzb : w.heap.size < (w.alloc (.cells #[.slice sa sz.length sc, .slice fa F.length fc, .int .i64 t] 25)).heap.size := by simp
  have hS0 := IntsV.keep hs (KeepS.below hA0)
  have HA0 := hid hA0
  have HL4 : Hid (limB sz F = true → validE sz F t = 4) := hid (fun h => by unfold validE; rw [if_pos h])
  have HL1 : Hid (limB sz F = false → validE sz F t = 1) := hid (fun h => by unfold validE; rw [if_neg (by rw [h]; decide), if_pos (by unfold argB; rw [hwr]; rfl)])
  have HLim : Hid (limB sz F = (decide (8 < sz.length) || decide (12 < F.length))) := hid (by unfold limB prodV; rw [hwr]; simp)
  have HWR := hid hwr
  clear hA0 hs hf hb0 hwr
  obtain ⟨z0, hz0⟩ : ∃ z0, ((sz.length : Int) == 0) = z0 := ⟨_, rfl⟩
  have HZ0 : Hid (z0 = decide (sz.length = 0)) := hid (by rw [← hz0]; by_cases h : sz.length = 0 <;> simp [h])
  go_enter Tryd.func39, Tryd.ntmps39
  go_wp2
  generalize hW : w.alloc (.cells #[.slice sa sz.length sc, .slice fa F.length fc, .int .i64 t] 25) = W at *
  clear hW hz0
  have HS0 := hid hS0
  clear hS0
  go_loopw [3, 4] (fun v i wr => ∃ (k : Nat) (b : Bool), k ≤ sz.length ∧ i = .int .i64 k ∧ v = .bool b ∧ Hid (b = (decide (sz.length = 0) || (sz.take k).any badS)) ∧ W = wr) (fun _ i _ => sz.length - (intOf i).toNat)
  case atStart => exact ⟨0, z0, by omega, rfl, rfl, hid (by rw [HZ0.out]; simp), rfl⟩
  case round =>
    obtain ⟨k, b, hk, rfl, rfl, hpre, rfl⟩ := hrel
    by_cases hlt : k < sz.length
    · obtain ⟨u, hc, hbk, rfl⟩ := HS0.out.at hlt
      have HT := hid (any_snoc sz k hlt)
      generalize sz[k] = x at *
      have hk0 : (0 : Int) ≤ k := by omega
      have hk1 : (k : Int) < sz.length := by omega
      cases b with
      | true =>
        have HN : Hid (true = (decide (sz.length = 0) || (sz.take (k + 1)).any badS)) := hid (by rw [HT.out, ← Bool.or_assoc, ← hpre.out]; rfl)
        clear hpre HT
        go_wp2
        go_roundw
        case rel => exact ⟨k + 1, true, by omega, by go_num, rfl, HN, by simp⟩
        case measure => simp [intOf]; omega
      | false =>
        have HN : Hid (badS x = (decide (sz.length = 0) || (sz.take (k + 1)).any badS)) := hid (by rw [HT.out, ← Bool.or_assoc, ← hpre.out]; rfl)
        clear hpre HT
        by_cases h1 : x < 1
        · have d1 : decide (x < 1) = true := decide_eq_true h1
          have HN2 : Hid (true = (decide (sz.length = 0) || (sz.take (k + 1)).any badS)) := hid (by rw [← HN.out]; unfold badS; rw [d1]; rfl)
          clear HN
          go_wp2
          go_roundw
          case rel => exact ⟨k + 1, true, by omega, by go_num, rfl, HN2, by simp⟩
          case measure => simp [intOf]; omega
        · have d1 : decide (x < 1) = false := decide_eq_false h1
          have HN2 : Hid (decide (8 < x) = (decide (sz.length = 0) || (sz.take (k + 1)).any badS)) := hid (by rw [← HN.out]; unfold badS; rw [d1]; rfl)
          clear HN
          by_cases h2 : 8 < x
          · have d2 : decide (8 < x) = true := decide_eq_true h2
            rw [d2] at HN2
            go_wp2
            go_roundw
            case rel => exact ⟨k + 1, true, by omega, by go_num, rfl, HN2, by simp⟩
            case measure => simp [intOf]; omega
          · have d2 : decide (8 < x) = false := decide_eq_false h2
            rw [d2] at HN2
            go_wp2
            go_roundw
            case rel => exact ⟨k + 1, false, by omega, by go_num, rfl, HN2, by simp⟩
            case measure => simp [intOf]; omega
    · obtain rfl : k = sz.length := by omega
      have hb := hpre.out
      rw [List.take_length] at hb
      obtain rfl : b = true := by rw [hb]; exact HWR.out
      clear hpre hb HWR
      go_wp2
      go_loopw [5, 6] (fun p i wr => p = .int .i64 1 ∧ i = .int .i64 0 ∧ W = wr) (fun _ _ _ => 0)
      case atStart => exact ⟨rfl, rfl, rfl⟩
      case round =>
        obtain ⟨rfl, rfl, rfl⟩ := hrel
        by_cases g0 : 0 < sz.length
        all_goals (
          by_cases g1 : 8 < sz.length
          · first
            | (exfalso; omega)
            | (have HE := hid (HL4.out (by rw [HLim.out, decide_eq_true g1]; rfl))
               have g1' : decide (8 < (sz.length : Int)) = true := decide_eq_true (by omega)
               clear HL4 HL1 HLim
               go_wp2
               go_ret
               exact ⟨ret_int HE.out.symm, HA0.out⟩)
          · have g1' : decide (8 < (sz.length : Int)) = false := decide_eq_false (by omega)
            by_cases g2 : 12 < F.length
            · have HE := hid (HL4.out (by rw [HLim.out, decide_eq_true g2, Bool.or_true]))
              have g2' : decide (12 < (F.length : Int)) = true := decide_eq_true (by omega)
              clear HL4 HL1 HLim
              go_wp2
              go_ret
              exact ⟨ret_int HE.out.symm, HA0.out⟩
            · have HE := hid (HL1.out (by rw [HLim.out, decide_eq_false g1, decide_eq_false g2]; rfl))
              have g2' : decide (12 < (F.length : Int)) = false := decide_eq_false (by omega)
              clear HL4 HL1 HLim
              go_wp2
              go_ret
              exact ⟨ret_int HE.out.symm, HA0.out⟩)

end Go.Proofs.YtjaejnacdanpkaaDoor

namespace Go.Proofs.YtjaejnacdanpkaaDoor
open Go.RowKit

theorem prodR_snoc (sz : List Int) (k : Nat) (h : k < sz.length) : prodR (sz.take (k + 1)) = min (prodR (sz.take k) * sz[k]) 4097 := by
  unfold prodR
  rw [← take_snoc h, List.foldl_append]; rfl
theorem prodR_le (sz : List Int) (h : ∀ s ∈ sz, 1 ≤ s) : 1 ≤ prodR sz ∧ prodR sz ≤ 4097 := by
  unfold prodR
  have : ∀ (l : List Int) (p : Int), (∀ s ∈ l, 1 ≤ s) → 1 ≤ p → p ≤ 4097 → 1 ≤ l.foldl (fun p s => min (p * s) 4097) p ∧ l.foldl (fun p s => min (p * s) 4097) p ≤ 4097 := by
    intro l
    induction l with
    | nil => intro p _ h1 h2; exact ⟨h1, h2⟩
    | cons x l ih =>
      intro p hl h1 h2
      have hx := hl x (List.mem_cons_self ..)
      have hpx : 1 ≤ p * x := by
        have := Int.mul_le_mul h1 hx (by omega) (by omega)
        omega
      exact ih (min (p * x) 4097) (fun s hs => hl s (List.mem_cons_of_mem _ hs)) (by omega) (by omega)
  exact this sz 1 h (by omega) (by omega)

set_option maxRecDepth 100000 in
set_option maxHeartbeats 4000000 in
theorem valid_right (sz : List Int) (hwr : wrongB sz = false) (hszl : sz.length ≤ 100000) (F : List (List Int)) (hFl : F.length ≤ 100000) (hFe : ∀ c ∈ F, c.length ≤ 100000) (t : Int) (sa : Option Addr) (sc : Nat) (fa : Option Addr) (fc : Nat) (S T : Nat → Prop) (w : World)
    (hs : IntsV S w (.slice sa sz.length sc) sz) (hf : RowsV T w (.slice fa F.length fc) F) :
    Calls Tryd.prog 39 #[.agg #[.slice sa sz.length sc, .slice fa F.length fc, .int .i64 t]] w fun e w' => e = .returned (.int .i64 (validE sz F t)) ∧ Below w.heap.size w w' := by
  have hA0 : Below w.heap.size w (w.alloc (.cells #[.slice sa sz.length sc, .slice fa F.length fc, .int .i64 t] 25)) := (Below.refl _ _).alloc (Nat.le_refl _) _
  obtain ⟨sa', sc', es, hoks, hcaps, hmaxs⟩ := hs.form
  cases es
  obtain ⟨fa', fc', ef, hokf, hcapf, hmaxf⟩ := hf.form
  cases ef
  have hsz1 : (w.alloc (.cells #[.slice sa sz.length sc, .slice fa F.length fc, .int .i64 t] 25)).heap.size = w.heap.size + 1 := by simp
  have bx : ∀ q (h : q < 3) W, Below (w.heap.size + 1) (w.alloc (.cells #[.slice sa sz.length sc, .slice fa F.length fc, .int .i64 t] 25)) W → W.cell? ⟨w.heap.size, q, none⟩ = (#[.slice sa sz.length sc, .slice fa F.length fc, .int .i64 t] : Array Value)[q]? := fun q h W hW => by
    have hb0 : (w.alloc (.cells #[.slice sa sz.length sc, .slice fa F.length fc, .int .i64 t] 25)).heap[w.heap.size]? = some (.cells #[.slice sa sz.length sc, .slice fa F.length fc, .int .i64 t] 25 (0, 0)) := World.alloc_heap_new w _
    exact cell_of_row _ _ q _ _ (0, 0) ((hW.block w.heap.size (by omega)).trans hb0)
  have HBX := hid bx
  have hS0 := IntsV.keep hs (KeepS.below hA0)
  have hF0 := RowsV.keep hf (KeepS.below hA0)
  have HA0 := hid hA0
  have hall : ∀ s ∈ sz, 1 ≤ s ∧ s ≤ 8 := fun s h => by
    unfold wrongB at hwr
    simp only [Bool.or_eq_false_iff, List.any_eq_false] at hwr
    have := hwr.2 s h
    simp [badS] at this
    omega
  have hne : sz.length ≠ 0 := fun h => by unfold wrongB at hwr; rw [h] at hwr; simp at hwr
  have hz0 : ((sz.length : Int) == 0) = false := beqF (by omega)
  have HSZ := hid (szI_nats hwr)
  have HNL : Hid ((nats sz).length = sz.length) := hid (by simp [nats])
  have HN8 : Hid (∀ n ∈ nats sz, n ≤ 100000) := hid (fun n h => by
    obtain ⟨s, h1, rfl⟩ := List.mem_map.1 h
    have := hall s h1
    omega)
  have HLim : Hid (limB sz F = (decide (8 < sz.length) || (decide (12 < F.length) || decide (4096 < prodR sz)))) := hid (by unfold limB prodV; rw [hwr]; simp)
  have HArg : Hid (argB sz t = (decide (t < 2) || (decide (3 < t) || decide ((sz.length : Int) < t)))) := hid (by unfold argB; rw [hwr]; rfl)
  have HV : Hid (validE sz F t = if limB sz F = true then 4 else if argB sz t = true then 1 else if F.any (badC (nats sz)) = true then 1 else 0) := hid rfl
  have HPR := hid (prodR_le sz (fun s h => (hall s h).1))
  have HPT := hid (fun k => prodR_le (sz.take k) (fun s h => (hall s (List.mem_of_mem_take h)).1))
  have HALL := hid hall
  have HFE := hid hFe
  clear hA0 hs hf hwr hall hFe bx
  go_enter Tryd.func39, Tryd.ntmps39
  go_wp2
  generalize hW : w.alloc (.cells #[.slice sa sz.length sc, .slice fa F.length fc, .int .i64 t] 25) = W at *
  clear hW
  have HS0 := hid hS0
  have HF0 := hid hF0
  clear hS0 hF0
  have hzb : w.heap.size < W.heap.size := by omega
  have bx0 := HBX.out 0 (by omega) W (Below.refl _ _)
  have bx1 := HBX.out 1 (by omega) W (Below.refl _ _)
  have bx2 := HBX.out 2 (by omega) W (Below.refl _ _)
  simp only [List.getElem?_toArray, List.getElem?_cons_zero, List.getElem?_cons_succ] at bx0 bx1 bx2
  go_loopw [3, 4] (fun v i wr => ∃ (k : Nat), k ≤ sz.length ∧ i = .int .i64 k ∧ v = .bool false ∧ W = wr) (fun _ i _ => sz.length - (intOf i).toNat)
  case atStart => exact ⟨0, by omega, rfl, rfl, rfl⟩
  case round =>
    obtain ⟨k, hk, rfl, rfl, rfl⟩ := hrel
    by_cases hlt : k < sz.length
    · obtain ⟨u, hc, hbk, rfl⟩ := HS0.out.at hlt
      have hx := HALL.out _ (List.getElem_mem hlt)
      generalize sz[k] = x at *
      have hk0 : (0 : Int) ≤ k := by omega
      have hk1 : (k : Int) < sz.length := by omega
      have d1 : decide (x < 1) = false := decide_eq_false (by omega)
      have d2 : decide (8 < x) = false := decide_eq_false (by omega)
      clear hx
      go_wp2
      go_roundw
      case rel => exact ⟨k + 1, by omega, by go_num, by simp⟩
      case measure => simp [intOf]; omega
    · obtain rfl : k = sz.length := by omega
      go_wp2
      go_loopw [5, 6] (fun p i wr => ∃ (k : Nat), k ≤ sz.length ∧ i = .int .i64 k ∧ p = .int .i64 (prodR (sz.take k)) ∧ W = wr) (fun _ i _ => sz.length - (intOf i).toNat)
      case atStart => exact ⟨0, by omega, rfl, rfl, rfl⟩
      case round =>
        obtain ⟨k, hk, rfl, rfl, rfl⟩ := hrel
        by_cases hlt : k < sz.length
        · obtain ⟨u, hc, hbk, rfl⟩ := HS0.out.at hlt
          have hx := HALL.out _ (List.getElem_mem hlt)
          have HT := hid (prodR_snoc sz k hlt)
          have hp := HPT.out k
          generalize sz[k] = x at *
          generalize prodR (sz.take k) = p at *
          have hk0 : (0 : Int) ≤ k := by omega
          have hk1 : (k : Int) < sz.length := by omega
          obtain ⟨q, hq⟩ : ∃ q, p * x = q := ⟨_, rfl⟩
          have hq1 : 0 ≤ q := by rw [← hq]; exact Int.mul_nonneg (by omega) (by omega)
          have hq2 : q ≤ 4097 * 8 := by rw [← hq]; exact Int.mul_le_mul hp.2 hx.2 (by omega) (by omega)
          rw [hq] at HT
          by_cases h7 : q ≤ 4097
          · have HT2 : Hid (q = prodR (sz.take (k + 1))) := hid (by rw [HT.out]; omega)
            clear HT
            go_wp2
            go_roundw
            case rel => exact ⟨k + 1, by omega, by go_num, by first | (rw [← HT2.out]; done) | (rw [← HT2.out]; go_num; done) | (rw [← HT2.out]; simp; omega), by simp⟩
            case measure => simp [intOf]; omega
          · have HT2 : Hid (4097 = prodR (sz.take (k + 1))) := hid (by rw [HT.out]; omega)
            clear HT
            go_wp2
            go_roundw
            case rel => exact ⟨k + 1, by omega, by go_num, by first | (rw [← HT2.out]; done) | (rw [← HT2.out]; go_num; done) | (rw [← HT2.out]; simp; omega), by simp⟩
            case measure => simp [intOf]; omega
        · obtain rfl : k = sz.length := by omega
          rw [List.take_length]
          have HP := hid HPR.out
          generalize prodR sz = p at *
          have g1s := fun h => HLim.out.trans (h : _ = true)
          have HE4 := hid (fun (h : limB sz F = true) => HV.out.trans (if_pos h))
          have HE5 := hid (fun (h : limB sz F = false) => HV.out.trans (if_neg (by rw [h]; decide)))
          clear g1s HV HPR HPT HALL hz0
          have hp := HP.out
          by_cases g1 : 8 < sz.length
          · have HE := hid (HE4.out (by rw [HLim.out, decide_eq_true g1]; rfl))
            have g1' : decide (8 < (sz.length : Int)) = true := decide_eq_true (by omega)
            clear HE4 HE5 HLim
            go_wp2
            go_ret
            exact ⟨ret_int HE.out.symm, HA0.out⟩
          have g1' : decide (8 < (sz.length : Int)) = false := decide_eq_false (by omega)
          by_cases g2 : 12 < F.length
          · have HE := hid (HE4.out (by rw [HLim.out, decide_eq_true g2]; simp))
            have g2' : decide (12 < (F.length : Int)) = true := decide_eq_true (by omega)
            clear HE4 HE5 HLim
            go_wp2
            go_ret
            exact ⟨ret_int HE.out.symm, HA0.out⟩
          have g2' : decide (12 < (F.length : Int)) = false := decide_eq_false (by omega)
          by_cases g3 : 4096 < p
          · have HE := hid (HE4.out (by rw [HLim.out, decide_eq_true g3]; simp))
            have g3' : decide (4096 < p) = true := decide_eq_true g3
            clear HE4 HE5 HLim
            go_wp2
            go_ret
            exact ⟨ret_int HE.out.symm, HA0.out⟩
          have g3' : decide (4096 < p) = false := decide_eq_false g3
          have HE := hid (HE5.out (by rw [HLim.out, decide_eq_false g1, decide_eq_false g2, g3']; rfl))
          have HE6 := hid (fun (h : argB sz t = true) => HE.out.trans (if_pos h))
          have HE7 := hid (fun (h : argB sz t = false) => HE.out.trans (if_neg (by rw [h]; decide)))
          clear HE4 HE5 HLim HE
          by_cases g4 : t < 2
          · have HE := hid (HE6.out (by rw [HArg.out, decide_eq_true g4]; rfl))
            have g4' : decide (t < 2) = true := decide_eq_true g4
            clear HE6 HE7 HArg
            go_wp2
            go_ret
            exact ⟨ret_int HE.out.symm, HA0.out⟩
          have g4' : decide (t < 2) = false := decide_eq_false g4
          by_cases g5 : 3 < t
          · have HE := hid (HE6.out (by rw [HArg.out, decide_eq_true g5]; simp))
            have g5' : decide (3 < t) = true := decide_eq_true g5
            clear HE6 HE7 HArg
            go_wp2
            go_ret
            exact ⟨ret_int HE.out.symm, HA0.out⟩
          have g5' : decide (3 < t) = false := decide_eq_false g5
          by_cases g6 : (sz.length : Int) < t
          · have HE := hid (HE6.out (by rw [HArg.out, decide_eq_true g6]; simp))
            have g6' : decide ((sz.length : Int) < t) = true := decide_eq_true g6
            clear HE6 HE7 HArg
            go_wp2
            go_ret
            exact ⟨ret_int HE.out.symm, HA0.out⟩
          have g6' : decide ((sz.length : Int) < t) = false := decide_eq_false g6
          have HE := hid (HE7.out (by rw [HArg.out, g4', g5', g6']; rfl))
          clear HE6 HE7 HArg
          go_wp2
          clear bx0 bx1 bx2
          go_loopw [7] (fun i wr => ∃ (k : Nat), k ≤ F.length ∧ i = .int .i64 k ∧ Hid ((F.take k).any (badC (nats sz)) = false) ∧ Below (w.heap.size + 1) W wr) (fun i _ => F.length - (intOf i).toNat)
          case atStart => exact ⟨0, by omega, rfl, hid (by simp), Below.refl _ _⟩
          case round =>
            obtain ⟨k, hk, rfl, hpre, hb⟩ := hrel
            have bx0 := HBX.out 0 (by omega) wr hb
            have bx1 := HBX.out 1 (by omega) wr hb
            have bx2 := HBX.out 2 (by omega) wr hb
            simp only [List.getElem?_toArray, List.getElem?_cons_zero, List.getElem?_cons_succ] at bx0 bx1 bx2
            have hzr : w.heap.size < wr.heap.size := by have := hb.size; omega
            have hbW : Below W.heap.size W wr := by rw [hsz1]; exact hb
            by_cases hlt : k < F.length
            · obtain ⟨ur, hcr, hbr, hrr⟩ := (RowsV.keep HF0.out (KeepS.below hbW)).at hlt
              have hcl := HFE.out _ (List.getElem_mem hlt)
              have HT := hid (any_take (badC (nats sz)) F k hlt)
              have HY := hid (fun (h : badC (nats sz) F[k] = true) => HE.out.trans (if_pos (List.any_eq_true.2 ⟨F[k], List.getElem_mem hlt, h⟩)))
              have HBD : Hid (badC (nats sz) F[k] = (!Cov.comboB (nats sz) F[k] || decide (Cov.vals F[k] = 0))) := hid rfl
              generalize F[k] = c at *
              obtain ⟨ac, cc, rfl, -⟩ := hrr.form
              have HC := hid (fun (x : Grew wr) => Calls.grew_of (x := x) (by
                have h := combo_any (nats sz) c (by rw [HNL.out]; exact hszl) HN8.out sa sc (.slice fa F.length fc) (.int .i64 t) (.slice ac c.length cc) fa F.length fc t rfl rfl S T x.1
                  (by rw [HNL.out, HSZ.out]; exact IntsV.keep (IntsV.keep HS0.out (KeepS.below hbW)) (KeepS.below x.2)) (IntsV.keep hrr (KeepS.below x.2))
                rw [HNL.out] at h
                exact h))
              have HVl := hid (fun (x : Grew wr) => Calls.mono (values_any c hcl (.slice ac c.length cc) T x.1 (IntsV.keep hrr (KeepS.below x.2))) (fun e w' (h : _ ∧ w' = x.1) => (⟨h.1, x, h.2⟩ : e = .returned (.int .i64 (Cov.vals c : Nat)) ∧ ∃ y : Grew wr, w' = y.1)))
              have HRR := hid hrr
              have HB := hid hb
              have hv0 : (0 : Int) ≤ (Cov.vals c : Nat) := by omega
              have HPRE := hid hpre.out
              clear hrr hb hbW hpre
              generalize Cov.comboB (nats sz) c = cb at *
              generalize Cov.vals c = vc at *
              generalize badC (nats sz) c = bb at *
              have hg := Grew.cell (w := wr)
              have hk0 : (0 : Int) ≤ k := by omega
              have hk1 : (k : Int) < F.length := by omega
              cases cb with
              | false =>
                have HY2 := hid (HY.out (by rw [HBD.out]; rfl))
                clear HY HBD HT HE
                go_wp2
                refine wp_region_quietG (by kernel_rfl) (by kernel_rfl) ?_
                repeat (go_big_quiet_step (first | exact HC.out _ | exact HVl.out _))
                refine wpQuiet_nil ?_
                intro w2 hx
                have HB2 := hid (HA0.out.trans ((HB.out.trans ((grew_below hx).mono hzr)).mono (Nat.le_succ _)))
                clear hx hg
                go_wp2
                go_ret
                exact ⟨ret_int HY2.out.symm, HB2.out⟩
              | true =>
                by_cases hv : vc = 0
                · have HY2 := hid (HY.out (by rw [HBD.out, hv]; rfl))
                  have hv' : (((vc : Nat) : Int) == 0) = true := beqT (by omega)
                  clear HY HBD HT HE hv
                  go_wp2
                  refine wp_region_quietG (by kernel_rfl) (by kernel_rfl) ?_
                  repeat (go_big_quiet_step (first | exact HC.out _ | exact HVl.out _))
                  refine wpQuiet_nil ?_
                  intro w2 hx
                  have HB2 := hid (HA0.out.trans ((HB.out.trans ((grew_below hx).mono hzr)).mono (Nat.le_succ _)))
                  clear hx hg
                  go_wp2
                  go_ret
                  exact ⟨ret_int HY2.out.symm, HB2.out⟩
                · have HP2 : Hid ((F.take (k + 1)).any (badC (nats sz)) = false) := hid (by rw [HT.out, HPRE.out, HBD.out, decide_eq_false hv]; rfl)
                  have hv' : (((vc : Nat) : Int) == 0) = false := beqF (by omega)
                  clear HY HBD HT hv
                  go_wp2
                  refine wp_region_quietG (by kernel_rfl) (by kernel_rfl) ?_
                  repeat (go_big_quiet_step (first | exact HC.out _ | exact HVl.out _))
                  refine wpQuiet_nil ?_
                  intro w2 hx
                  have HB2 := hid (HB.out.trans ((grew_below hx).mono hzr))
                  clear hx hg
                  go_wp2
                  go_roundw
                  case rel => exact ⟨k + 1, by omega, by go_num, HP2, HB2.out⟩
                  case measure => simp [intOf]; omega
            · obtain rfl : k = F.length := by omega
              have hp2 := hpre.out
              rw [List.take_length] at hp2
              have HE2 := hid (HE.out.trans (if_neg (by rw [hp2]; decide)))
              have HB2 := hid (HA0.out.trans (hb.mono (Nat.le_succ _)))
              clear hp2 hpre hb hbW HE
              go_wp2
              go_ret
              exact ⟨ret_int HE2.out.symm, HB2.out⟩

end Go.Proofs.YtjaejnacdanpkaaDoor

namespace Go.Proofs.YtjaejnacdanpkaaDoor
open Go.RowKit

/-- The error of a problem. -/
theorem valid_any (sz : List Int) (hszl : sz.length ≤ 100000) (F : List (List Int)) (hFl : F.length ≤ 100000) (hFe : ∀ c ∈ F, c.length ≤ 100000) (t : Int) (sa : Option Addr) (sc : Nat) (fa : Option Addr) (fc : Nat) (S T : Nat → Prop) (w : World)
    (hs : IntsV S w (.slice sa sz.length sc) sz) (hf : RowsV T w (.slice fa F.length fc) F) :
    Calls Tryd.prog 39 #[.agg #[.slice sa sz.length sc, .slice fa F.length fc, .int .i64 t]] w fun e w' => e = .returned (.int .i64 (validE sz F t)) ∧ Below w.heap.size w w' := by
  cases h : wrongB sz with
  | true => exact valid_wrong sz h F t sa sc fa fc S T w hs hf
  | false => exact valid_right sz h hszl F hFl hFe t sa sc fa fc S T w hs hf

/-- b is the value's own block. -/
def OB (v : Value) (b : Nat) : Prop := some b = v.ownBlock

/-- v is a row of the call's own (from block B on) whose elements lead to the blocks E. -/
def OwnS (B : Nat) (E : Nat → Prop) (w : World) (v : Value) (xs : List (List Int)) : Prop :=
  ∃ us, w.ownsRow B 22 1 v xs.length us ∧ us.length = xs.length ∧ ∀ j (h1 : j < us.length) (h2 : j < xs.length), IntsV E w us[j] xs[j]
theorem OwnS.nil (B : Nat) (E : Nat → Prop) (w : World) : OwnS B E w (.slice none 0 0) [] :=
  ⟨[], World.ownsRow_nil _ _ _ _, rfl, fun j h => absurd h (by simp)⟩
theorem OwnS.lt {B : Nat} {E : Nat → Prop} {w : World} {v : Value} {xs : List (List Int)} (h : OwnS B E w v xs) : ∀ b, OB v b → B ≤ b ∧ b < w.heap.size := by
  obtain ⟨us, h1, _⟩ := h
  exact fun b hb => h1.lt b hb.symm
theorem OwnS.kept {B : Nat} {E : Nat → Prop} {w w' : World} {v : Value} {xs : List (List Int)} (h : OwnS B E w v xs) (hk : ∀ b, b < w.heap.size → OB v b ∨ E b → w'.heap[b]? = w.heap[b]?) : OwnS B E w' v xs := by
  obtain ⟨us, h1, h2, h3⟩ := h
  exact ⟨us, ownsRow_keep (S := OB v) h1 (fun b hb => hb.symm) (fun b hb hlt => hk b hlt (.inl hb)), h2, fun j g1 g2 => (h3 j g1 g2).keep (fun b hb hlt => hk b hlt (.inr hb))⟩
theorem OwnS.mono {B : Nat} {E E' : Nat → Prop} {w : World} {v : Value} {xs : List (List Int)} (h : OwnS B E w v xs) (hE : ∀ b, b < w.heap.size → E b → E' b) : OwnS B E' w v xs := by
  obtain ⟨us, h1, h2, h3⟩ := h
  exact ⟨us, h1, h2, fun j g1 g2 => (h3 j g1 g2).mono hE⟩
theorem OwnS.sl {B : Nat} {E : Nat → Prop} {w : World} {v : Value} {xs : List (List Int)} (h : OwnS B E w v xs) {S : Nat → Prop} (h1 : ∀ b, OB v b → S b) (h2 : ∀ b, b < w.heap.size → E b → S b) : RowsV S w v xs := by
  obtain ⟨us, g1, g2, g3⟩ := h
  exact ownsRow_sl g1 (fun b hb => h1 b hb.symm) g2 (fun j k1 k2 => (g3 j k1 k2).mono h2)

/-- One more element. -/
theorem wpList_appS1 {P : Program} {t : TypeId} {bytes : Nat} {w : World} {ops : Array Oper} {rest : List Oper} {o : Oper} {a : Act} {Q : Exit → Act → World → Prop} (hgd : o.guard = none) (s x : Operand)
    (ho : o.op = .call { callee := .builtin .append, args := #[s, x], argTypes := #[t, t] }) (hT : AppT P t 22 1 bytes)
    {B : Nat} {E : Nat → Prop} {v : Value} {xs : List (List Int)} (hs : a.eval s = v) (hown : OwnS B E w v xs) (hE : ∀ b, b < w.heap.size → E b → ¬ OB v b)
    {u : Value} {e' : TypeId} (hx : a.eval x = .slice (some ⟨w.heap.size, 0, none⟩) 1 1) (y : List Int) (hu : IntsV E w u y) (h1 : u.oneCell' = true)
    (hsmall : xs.length + 1 ≤ 1000000000) (hB : B ≤ w.heap.size)
    (h : ∀ v' w', OwnS B E w' v' (xs ++ [y]) → Turns (OB v) w w' → (∀ b, OB v' b → OB v b ∨ w.heap.size ≤ b) → wpList P ops Q rest (a.put o.dst v') w') :
    wpList P ops Q (o :: rest) a (w.alloc (.cells #[u] e')) := by
  obtain ⟨us, h2, h3, h4⟩ := hown
  have ha : Below w.heap.size w (w.alloc (.cells #[u] e')) := (Below.refl _ _).alloc (Nat.le_refl _) _
  refine wpList_app hgd s x ho hT hs (h2.alloc _) _ 1 1 hx (fun _ => ⟨_, _, rfl⟩) [u] rfl (news_alloc w #[u] e') (by simpa using h1) hsmall (by simp; omega) (fun v' w' g1 g2 g3 => ?_)
  have hT0 := Turns.of_grown (S := OB v) g2 fun b hb' => hb'.symm
  have hT : Turns (OB v) w w' := (Turns.of_below ha).trans ⟨hT0.os, hT0.tape, hT0.output, hT0.size, hT0.block⟩
  refine h v' w' ⟨us ++ [u], by simpa using g1, by simp [h3], fun j k1 k2 => ?_⟩ hT (fun b hb => ?_)
  · have keep : ∀ {u y}, IntsV E w u y → IntsV E w' u y := fun h => by
      have := IntsV.mono (S' := fun b => E b ∧ b < w.heap.size) h (fun b hb hE => ⟨hE, hb⟩)
      exact IntsV.mono (IntsV.keep this (hT.keep (fun b hb => hE b hb.2 hb.1))) (fun b _ hb => hb.1)
    by_cases hj : j < us.length
    · rw [List.getElem_append_left hj, List.getElem_append_left (by omega)]
      exact keep (h4 j hj (by omega))
    · simp at k1
      obtain rfl : j = us.length := by omega
      simp only [List.getElem_append_right (Nat.le_refl _), Nat.sub_self, List.getElem_cons_zero]
      rw [List.getElem_append_right (by omega)]
      simp [h3]
      exact keep hu
  · unfold OB at hb ⊢
    rcases g3 with g3 | g3
    · exact .inl (hb.trans g3)
    · rw [g3] at hb
      right
      have := Option.some.inj hb
      have := ha.size
      omega

/-- Three own rows side by side. -/
structure Trio (B : Nat) (w : World) (o l y : Value) (O L Y : List (List Int)) : Prop where
  ho : OwnS B (· < B) w o O
  hl : OwnS B (· < B) w l L
  hy : OwnS B (fun b => b < w.heap.size ∧ B ≤ b ∧ ¬ OB o b ∧ ¬ OB l b ∧ ¬ OB y b) w y Y
  ol : ∀ b, OB o b → ¬ OB l b
  oy : ∀ b, OB o b → ¬ OB y b
  ly : ∀ b, OB l b → ¬ OB y b

theorem Trio.nil (B : Nat) (w : World) : Trio B w (.slice none 0 0) (.slice none 0 0) (.slice none 0 0) [] [] [] :=
  ⟨OwnS.nil _ _ _, OwnS.nil _ _ _, OwnS.nil _ _ _, fun b hb => by simp [OB, Value.ownBlock] at hb, fun b hb => by simp [OB, Value.ownBlock] at hb, fun b hb => by simp [OB, Value.ownBlock] at hb⟩
theorem Trio.below {B : Nat} {w w' : World} {o l y : Value} {O L Y : List (List Int)} (h : Trio B w o l y O L Y) (hb : Below w.heap.size w w') : Trio B w' o l y O L Y :=
  ⟨h.ho.kept (fun b hlt _ => hb.block b hlt), h.hl.kept (fun b hlt _ => hb.block b hlt), (h.hy.kept (fun b hlt _ => hb.block b hlt)).mono (fun _ _ g => ⟨Nat.lt_of_lt_of_le g.1 hb.size, g.2⟩), h.ol, h.oy, h.ly⟩
theorem Trio.turn_o {B : Nat} {w w' : World} {o o' l y : Value} {O O' L Y : List (List Int)} (h : Trio B w o l y O L Y) (ho : OwnS B (· < B) w' o' O') (hT : Turns (OB o) w w') (hn : ∀ b, OB o' b → OB o b ∨ w.heap.size ≤ b) : Trio B w' o' l y O' L Y := by
  refine ⟨ho, h.hl.kept (fun b hlt g => hT.block b (fun k => ?_) hlt), (h.hy.kept (fun b hlt g => hT.block b (fun k => ?_) hlt)).mono (fun b hlt g => ⟨Nat.lt_of_lt_of_le g.1 hT.size, g.2.1, fun k => ?_, g.2.2.2⟩), fun b k g => ?_, fun b k g => ?_, h.ly⟩
  · rcases g with g | g
    · exact h.ol b k g
    · have := (h.ho.lt b k).1; omega
  · rcases g with g | g
    · exact h.oy b k g
    · exact g.2.2.1 k
  · rcases hn b k with k | k
    · exact g.2.2.1 k
    · omega
  · rcases hn b k with k | k
    · exact h.ol b k g
    · have := (h.hl.lt b g).2; omega
  · rcases hn b k with k | k
    · exact h.oy b k g
    · have := (h.hy.lt b g).2; omega
theorem Trio.swap {B : Nat} {w : World} {o l y : Value} {O L Y : List (List Int)} (h : Trio B w o l y O L Y) : Trio B w l o y L O Y :=
  ⟨h.hl, h.ho, h.hy.mono (fun _ _ g => ⟨g.1, g.2.1, g.2.2.2.1, g.2.2.1, g.2.2.2.2⟩), fun b k g => h.ol b g k, h.ly, h.oy⟩
theorem Trio.turn_y {B : Nat} {w w' : World} {o l y y' : Value} {O L Y Y' : List (List Int)} (h : Trio B w o l y O L Y) (hy : OwnS B (fun b => b < w.heap.size ∧ B ≤ b ∧ ¬ OB o b ∧ ¬ OB l b ∧ ¬ OB y b) w' y' Y') (hT : Turns (OB y) w w') (hn : ∀ b, OB y' b → OB y b ∨ w.heap.size ≤ b) : Trio B w' o l y' O L Y' := by
  have hyl := h.hy.lt
  refine ⟨h.ho.kept (fun b hlt g => hT.block b (fun k => ?_) hlt), h.hl.kept (fun b hlt g => hT.block b (fun k => ?_) hlt), hy.mono (fun b hlt g => ⟨Nat.lt_of_lt_of_le g.1 hT.size, g.2.1, g.2.2.1, g.2.2.2.1, fun k => ?_⟩), h.ol, fun b k g => ?_, fun b k g => ?_⟩
  · rcases g with g | g
    · exact h.oy b g k
    · have := (hyl b k).1; omega
  · rcases g with g | g
    · exact h.ly b g k
    · have := (hyl b k).1; omega
  · rcases hn b k with k | k
    · exact g.2.2.2.2 k
    · omega
  · rcases hn b g with g | g
    · exact h.oy b k g
    · have := (h.ho.lt b k).2; omega
  · rcases hn b g with g | g
    · exact h.ly b k g
    · have := (h.hl.lt b k).2; omega

end Go.Proofs.YtjaejnacdanpkaaDoor
