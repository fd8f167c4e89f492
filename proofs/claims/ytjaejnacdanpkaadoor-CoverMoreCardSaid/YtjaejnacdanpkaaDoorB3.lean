/- Leaf functions of the reference of layer 28: Has, Values, In, Before, SameRows. Functions of the reference of layer 28 that take a problem: Combo, Allowed; SameRows, Before, Take. SameRows, Before of the reference of layer 28; Take of the reference of layer 1; combos and plain of the laws. All, Rows, Asked of the reference of layer 28. -/
import Derived.Test.YtjaejnacdanpkaaDoorB1
import Derived.Test.YtjaejnacdanpkaaDoorBCov
namespace Go.Proofs.YtjaejnacdanpkaaDoor
open Go.RowKit

theorem has_iff : ∀ (xs ys : List Int), xs.length = ys.length → (Cov.has xs ys = true ↔ ∀ i (h : i < ys.length) (h' : i < xs.length), ys[i] < 0 ∨ xs[i] = ys[i])
  | [], [], _ => by simp [Cov.has]
  | [], _ :: _, h => by simp at h
  | _ :: _, [], h => by simp at h
  | x :: xs, y :: ys, h => by
    rw [Cov.has_cons, Bool.and_eq_true, decide_eq_true_eq, has_iff xs ys (by simpa using h)]
    constructor
    · rintro ⟨h1, h2⟩ i hi hi'
      cases i with
      | zero => exact h1
      | succ i => exact h2 i (by simpa using hi) (by simpa using hi')
    · intro h1
      exact ⟨h1 0 (by simp) (by simp), fun i hi hi' => h1 (i + 1) (by simpa using hi) (by simpa using hi')⟩

set_option maxHeartbeats 1000000 in
theorem has_any (xs ys : List Int) (hl : xs.length = ys.length) (u v : Value) (S T : Nat → Prop) (w : World) (hu : IntsV S w u xs) (hv : IntsV T w v ys) :
    Calls Tryd.prog 25 #[u, v] w fun e w' => e = .returned (.bool (Cov.has xs ys)) ∧ ∃ n, w' = w.drewN n := by
  obtain ⟨a, cap, rfl, hok, hcap, hmax, hS, hcell⟩ := hu
  obtain ⟨a', cap', rfl, hok', hcap', hmax', hS', hcell'⟩ := hv
  clear hS hS'
  unfold maxLen at hmax hmax'
  have HI := hid (has_iff xs ys hl)
  have HL := hid hl
  have hlx : ∀ k, k < ys.length → k < xs.length := fun k h => by omega
  have HLX := hid hlx
  clear hl hlx
  go_enter Tryd.func25, Tryd.ntmps25
  go_wp2
  go_loopw [5] (fun i wr => ∃ k : Nat, k ≤ ys.length ∧ i = .int .i64 k ∧ Hid (∀ i (h : i < ys.length) (h' : i < xs.length), i < k → ys[i] < 0 ∨ xs[i] = ys[i]) ∧ ∃ n, wr = w.drewN n) (fun i _ => ys.length - (intOf i).toNat)
  case atStart => exact ⟨0, Nat.zero_le _, rfl, hid (fun i _ _ h => by omega), 0, rfl⟩
  case round =>
    obtain ⟨k, hk, rfl, hpre, n, rfl⟩ := hrel
    by_cases hlt : k < ys.length
    · have hltx := HLX.out k hlt
      obtain ⟨x, hx, hx2⟩ := hcell k hltx
      obtain ⟨y, hy, hy2⟩ := hcell' k hlt
      have HS : Hid ((ys[k] < 0 ∨ xs[k] = ys[k]) → ∀ i (h : i < ys.length) (h' : i < xs.length), i < k + 1 → ys[i] < 0 ∨ xs[i] = ys[i]) := hid (fun h0 i h h' hi => by
        by_cases e : i = k
        · subst e; exact h0
        · exact hpre.out i h h' (by omega))
      have HN : Hid (¬ (ys[k] < 0 ∨ xs[k] = ys[k]) → Cov.has xs ys = false) := hid (fun h0 => by
        cases hh : Cov.has xs ys with
        | false => rfl
        | true => exact absurd (HI.out.1 hh k hlt hltx) h0)
      generalize xs[k] = x0 at *
      generalize ys[k] = y0 at *
      subst hx2; subst hy2
      have hk0 : (0 : Int) ≤ (k : Int) := by omega
      have hk1 : (k : Int) < (xs.length : Int) := by omega
      have hk2 : (k : Int) < (ys.length : Int) := by omega
      by_cases hy0 : y0 < 0
      · have d1 : decide ((0 : Int) ≤ y0) = false := decide_eq_false (by omega)
        have HS2 := hid (HS.out (.inl hy0))
        clear HS HN
        go_wp2
        go_quiet (fail)
        go_wp2
        go_roundw
        case rel => exact ⟨k + 1, by omega, by go_num, HS2, _, rfl⟩
        case measure => simp [intOf]; omega
      · have d1 : decide ((0 : Int) ≤ y0) = true := decide_eq_true (by omega)
        by_cases hxy : x0 = y0
        · subst hxy
          have d2 : (x0 != x0) = false := bneF rfl
          have HS2 := hid (HS.out (.inr rfl))
          clear HS HN
          go_wp2
          go_quiet (fail)
          go_wp2
          go_roundw
          case rel => exact ⟨k + 1, by omega, by go_num, HS2, _, rfl⟩
          case measure => simp [intOf]; omega
        · have d2 : (x0 != y0) = true := bneT hxy
          have HN2 := hid (HN.out (by omega))
          clear HS HN hxy
          go_wp2
          go_quiet (fail)
          go_wp2
          go_ret
          exact ⟨ret_bool HN2.out.symm, by rw [World.drewN_drewN]; exact ⟨_, rfl⟩⟩
    · have hT : Hid (Cov.has xs ys = true) := hid (HI.out.2 (fun i h h' => hpre.out i h h' (by omega)))
      clear hpre
      go_wp2
      go_ret
      exact ⟨ret_bool hT.out.symm, _, rfl⟩

theorem vals_take (xs : List Int) (k : Nat) (h : k < xs.length) : Cov.vals (xs.take (k + 1)) = Cov.vals (xs.take k) + (if 0 ≤ xs[k] then 1 else 0) := by
  unfold Cov.vals
  rw [← take_snoc h, List.filter_append, List.length_append]
  by_cases h0 : 0 ≤ xs[k] <;> simp [h0]

set_option maxHeartbeats 1000000 in
theorem values_any (xs : List Int) (hl : xs.length ≤ 100000) (u : Value) (S : Nat → Prop) (w : World) (hu : IntsV S w u xs) :
    Calls Tryd.prog 24 #[u] w fun e w' => e = .returned (.int .i64 (Cov.vals xs : Nat)) ∧ w' = w := by
  have hu0 := hu
  obtain ⟨a, cap, rfl, hok, hcap, hmax⟩ := hu.form
  clear hu
  go_enter Tryd.func24, Tryd.ntmps24
  go_wp2
  go_loop [3, 4] (fun n i => ∃ k t : Nat, k ≤ xs.length ∧ i = .int .i64 k ∧ n = .int .i64 t ∧ t ≤ k ∧ Hid (t = Cov.vals (xs.take k))) (fun _ i => xs.length - (intOf i).toNat)
  case atStart => exact ⟨0, 0, by omega, rfl, rfl, by omega, hid rfl⟩
  case round =>
    obtain ⟨k, t, hk, rfl, rfl, htk, ht⟩ := hrel
    by_cases hlt : k < xs.length
    · obtain ⟨c, hc, hbk, rfl⟩ := hu0.at hlt
      have HV := hid (vals_take xs k hlt)
      generalize xs[k] = x at *
      have hk0 : (0 : Int) ≤ k := by omega
      have hk1 : (k : Int) < xs.length := by omega
      by_cases h0 : 0 ≤ x
      · have HV2 := hid (HV.out.trans (by rw [if_pos h0]))
        clear HV
        go_wp2
        go_round
        case rel => exact ⟨k + 1, t + 1, by omega, by go_num, by go_num, by omega, hid (by rw [HV2.out, ht.out])⟩
        case measure => simp [intOf]; omega
      · have HV2 := hid (HV.out.trans (by rw [if_neg h0]))
        clear HV
        go_wp2
        go_round
        case rel => exact ⟨k + 1, t, by omega, by go_num, rfl, by omega, hid (by rw [HV2.out, ht.out]; rfl)⟩
        case measure => simp [intOf]; omega
    · obtain rfl : k = xs.length := by omega
      have hte := ht.out
      rw [List.take_length] at hte
      have HT := hid hte
      clear hte ht
      go_wp2
      go_ret
      exact ⟨ret_int (by rw [HT.out]), rfl⟩

theorem any_take {α : Type} (p : α → Bool) (xs : List α) (k : Nat) (h : k < xs.length) : (xs.take (k + 1)).any p = ((xs.take k).any p || p xs[k]) := by
  rw [← take_snoc h, List.any_append]; simp

set_option maxHeartbeats 1000000 in
theorem in_any (rows : List (List Int)) (c : List Int) (hr : ∀ r ∈ rows, r.length = c.length) (u v : Value) (S T : Nat → Prop) (w : World) (hu : RowsV S w u rows) (hv : IntsV T w v c) :
    Calls Tryd.prog 26 #[u, v] w fun e w' => e = .returned (.bool (Cov.inR rows c)) ∧ ∃ n, w' = w.drewN n := by
  have hu0 := hu
  have hv0 := hv
  obtain ⟨a, cap, rfl, hok, hcap, hmax⟩ := hu.form
  obtain ⟨av, cv, rfl, hokv, hcapv, hmaxv⟩ := hv.form
  clear hu hv
  go_enter Tryd.func26, Tryd.ntmps26
  go_wp2
  go_loopw [5] (fun i wr => ∃ k : Nat, k ≤ rows.length ∧ i = .int .i64 k ∧ Hid ((rows.take k).any (fun r => Cov.has r c) = false) ∧ ∃ n, wr = w.drewN n) (fun i _ => rows.length - (intOf i).toNat)
  case atStart => exact ⟨0, Nat.zero_le _, rfl, hid rfl, 0, rfl⟩
  case round =>
    obtain ⟨k, hk, rfl, hpre, n, rfl⟩ := hrel
    by_cases hlt : k < rows.length
    · have hdb : Below w.heap.size w (w.drewN n) := below_drewN (Below.refl _ _) n
      obtain ⟨ur, hc, hbk, hrr⟩ := (RowsV.keep hu0 (KeepS.below hdb)).at hlt
      obtain ⟨ar, cr, rfl, hokr, hcapr, hmaxr⟩ := hrr.form
      have hlen := hr _ (List.getElem_mem hlt)
      have HAt := hid (any_take (fun r => Cov.has r c) rows k hlt)
      have HAll : Hid (Cov.has rows[k] c = true → Cov.inR rows c = true) := hid (fun h => List.any_eq_true.2 ⟨rows[k], List.getElem_mem hlt, h⟩)
      have HH := hid (has_any rows[k] c hlen (.slice ar rows[k].length cr) (.slice av c.length cv) S T (w.drewN n) hrr (IntsV.keep hv0 (KeepS.below hdb)))
      have hk0 : (0 : Int) ≤ k := by omega
      have hk1 : (k : Int) < rows.length := by omega
      clear hrr hdb hlen
      generalize rows[k] = r at *
      go_wp2_with fail
      refine HH.out.mono ?_
      rintro e w' ⟨rfl, m, rfl⟩
      cases hh : Cov.has r c with
      | true =>
        have HT := hid (HAll.out hh)
        clear HAt HAll HH hh hpre
        go_wp2
        go_ret
        exact ⟨ret_bool HT.out.symm, _, rfl⟩
      | false =>
        have HP : Hid ((rows.take (k + 1)).any (fun r => Cov.has r c) = false) := hid (by rw [HAt.out, hpre.out, hh]; rfl)
        clear HAt HAll HH hh hpre
        go_wp2
        go_roundw
        case rel => exact ⟨k + 1, by omega, by go_num, HP, _, rfl⟩
        case measure => simp [intOf]; omega
    · obtain rfl : k = rows.length := by omega
      have hp := hpre.out
      rw [List.take_length] at hp
      have HF : Hid (Cov.inR rows c = false) := hid hp
      clear hp hpre
      go_wp2
      go_ret
      exact ⟨ret_bool HF.out.symm, _, rfl⟩

end Go.Proofs.YtjaejnacdanpkaaDoor

namespace Go.Proofs.YtjaejnacdanpkaaDoor
open Go.RowKit

/-- The sizes as numbers of the program. -/
abbrev szI (ns : List Nat) : List Int := ns.map fun (n : Nat) => (n : Int)

theorem comboB_iff : ∀ (ns : List Nat) (c : List Int), c.length = ns.length → (Cov.comboB ns c = true ↔ ∀ i (h : i < c.length) (h' : i < ns.length), -1 ≤ c[i] ∧ c[i] < (ns[i] : Int))
  | [], [], _ => by simp [Cov.comboB]
  | [], _ :: _, h => by simp at h
  | _ :: _, [], h => by simp at h
  | n :: ns, x :: c, h => by
    simp only [Cov.comboB, Bool.and_eq_true, decide_eq_true_eq]
    rw [comboB_iff ns c (by simpa using h)]
    constructor
    · rintro ⟨h1, h2⟩ i hi hi'
      cases i with
      | zero => exact h1
      | succ i => exact h2 i (by simpa using hi) (by simpa using hi')
    · intro h1
      exact ⟨h1 0 (by simp) (by simp), fun i hi hi' => h1 (i + 1) (by simpa using hi) (by simpa using hi')⟩

set_option maxRecDepth 100000 in
set_option maxHeartbeats 2000000 in
theorem combo_any (ns : List Nat) (c : List Int) (_hn : ns.length ≤ 100000) (hns : ∀ n ∈ ns, n ≤ 100000) (sa : Option Addr) (sc : Nat) (fv tv v : Value) (fa : Option Addr) (fl fc : Nat) (t : Int) (hfv : fv = .slice fa fl fc) (htv : tv = .int .i64 t) (S T : Nat → Prop) (w : World)
    (hs : IntsV S w (.slice sa ns.length sc) (szI ns)) (hv : IntsV T w v c) :
    Calls Tryd.prog 23 #[.agg #[.slice sa ns.length sc, fv, tv], v] w fun e w' => e = .returned (.bool (Cov.comboB ns c)) ∧ Below w.heap.size w w' := by
  subst hfv htv
  have hv0 := hv
  obtain ⟨av, cv, rfl, hokv, hcapv, hmaxv⟩ := hv.form
  obtain ⟨sa', sc', es, hoks, hcaps, hmaxs⟩ := hs.form
  rw [List.length_map] at es hoks hcaps
  cases es
  clear hv
  have hb0 : Below w.heap.size w (w.alloc (.cells #[.slice sa ns.length sc, .slice fa fl fc, .int .i64 t] 25)) := (Below.refl _ _).alloc (Nat.le_refl _) _
  have HB := hid hb0
  clear hb0
  by_cases hl : c.length = ns.length
  · have hl2 : ((c.length : Int) != (ns.length : Int)) = false := bneF (by omega)
    have HI := hid (comboB_iff ns c hl)
    have HL := hid hl
    clear hl
    go_enter Tryd.func23, Tryd.ntmps23
    go_wp2
    go_loopw [5] (fun i wr => ∃ k : Nat, k ≤ c.length ∧ i = .int .i64 k ∧ Hid (∀ i (h : i < c.length) (h' : i < ns.length), i < k → -1 ≤ c[i] ∧ c[i] < (ns[i] : Int)) ∧ ∃ n, wr = (w.alloc (.cells #[.slice sa ns.length sc, .slice fa fl fc, .int .i64 t] 25)).drewN n) (fun i _ => c.length - (intOf i).toNat)
    case atStart => exact ⟨0, by omega, rfl, hid (fun i _ _ h => by omega), 0, rfl⟩
    case round =>
      obtain ⟨k, hk, rfl, hpre, n, rfl⟩ := hrel
      by_cases hlt : k < c.length
      · have hlt2 : k < ns.length := by have := HL.out; omega
        obtain ⟨x, hc, hbk, hx⟩ := hv0.at hlt
        obtain ⟨y, hcs, hbs, hy⟩ := hs.at (j := k) (by rw [List.length_map]; exact hlt2)
        rw [List.getElem_map] at hy
        have hnb := hns _ (List.getElem_mem hlt2)
        have HS : Hid (-1 ≤ c[k] ∧ c[k] < (ns[k] : Int) → ∀ i (h : i < c.length) (h' : i < ns.length), i < k + 1 → -1 ≤ c[i] ∧ c[i] < (ns[i] : Int)) := hid (fun h0 i h h' hi => by
          by_cases e : i = k
          · subst e; exact h0
          · exact hpre.out i h h' (by omega))
        have HN : Hid (¬ (-1 ≤ c[k] ∧ c[k] < (ns[k] : Int)) → Cov.comboB ns c = false) := hid (fun h0 => by
          cases hh : Cov.comboB ns c with
          | false => rfl
          | true => exact absurd (HI.out.1 hh k hlt hlt2) h0)
        generalize c[k] = x0 at *
        generalize ns[k] = n0 at *
        subst hx; subst hy
        have hk0 : (0 : Int) ≤ (k : Int) := by omega
        have hk1 : (k : Int) < (c.length : Int) := by omega
        have hk2 : (k : Int) < (ns.length : Int) := by omega
        by_cases h1 : x0 < -1
        · have d1 : decide (x0 < -1) = true := decide_eq_true h1
          have HN2 := hid (HN.out (by omega))
          clear HS HN
          go_wp2
          go_quiet (fail)
          go_wp2
          go_ret
          exact ⟨ret_bool HN2.out.symm, below_drewN (below_drewN HB.out _) _⟩
        · have d1 : decide (x0 < -1) = false := decide_eq_false h1
          by_cases h2 : (n0 : Int) ≤ x0
          · have d2 : decide ((n0 : Int) ≤ x0) = true := decide_eq_true h2
            have HN2 := hid (HN.out (by omega))
            clear HS HN
            go_wp2
            go_quiet (fail)
            go_wp2
            go_ret
            exact ⟨ret_bool HN2.out.symm, below_drewN (below_drewN HB.out _) _⟩
          · have d2 : decide ((n0 : Int) ≤ x0) = false := decide_eq_false h2
            have HS2 := hid (HS.out (by omega))
            clear HS HN
            go_wp2
            go_quiet (fail)
            go_wp2
            go_roundw
            case rel => exact ⟨k + 1, by omega, by go_num, HS2, _, rfl⟩
            case measure => simp [intOf]; omega
      · have hT : Hid (Cov.comboB ns c = true) := hid (HI.out.2 (fun i h h' => hpre.out i h h' (by omega)))
        clear hpre
        go_wp2
        go_ret
        exact ⟨ret_bool hT.out.symm, below_drewN HB.out _⟩
  · have hl2 : ((c.length : Int) != (ns.length : Int)) = true := bneT (by omega)
    have hF : Hid (Cov.comboB ns c = false) := hid (by
      cases hh : Cov.comboB ns c with
      | false => rfl
      | true => exact absurd (Cov.comboB_len ns c hh) hl)
    clear hl
    go_enter Tryd.func23, Tryd.ntmps23
    go_wp2
    go_ret
    exact ⟨ret_bool hF.out.symm, HB.out⟩

set_option maxRecDepth 100000 in
set_option maxHeartbeats 2000000 in
theorem allowed_any (F : List (List Int)) (r : List Int) (hF : ∀ c ∈ F, r.length = c.length) (hl : F.length ≤ 100000) (sv : Value) (sa : Option Addr) (sl sc : Nat) (hsv : sv = .slice sa sl sc) (fa : Option Addr) (fc : Nat) (t : Int) (v : Value) (S T : Nat → Prop) (w : World)
    (hf : RowsV S w (.slice fa F.length fc) F) (hv : IntsV T w v r) :
    Calls Tryd.prog 27 #[.agg #[sv, .slice fa F.length fc, .int .i64 t], v] w fun e w' => e = .returned (.bool (Cov.allowed F r)) ∧ Below w.heap.size w w' := by
  subst hsv
  have hv0 := hv
  obtain ⟨av, cv, rfl, hokv, hcapv, hmaxv⟩ := hv.form
  obtain ⟨fa', fc', ef, hokf, hcapf, hmaxf⟩ := hf.form
  cases ef
  clear hv
  have hb0 : Below w.heap.size w (w.alloc (.cells #[.slice sa sl sc, .slice fa F.length fc, .int .i64 t] 25)) := (Below.refl _ _).alloc (Nat.le_refl _) _
  have HB := hid hb0
  clear hb0
  go_enter Tryd.func27, Tryd.ntmps27
  go_wp2
  go_loopw [5] (fun i wr => ∃ k : Nat, k ≤ F.length ∧ i = .int .i64 k ∧ Hid ((F.take k).any (fun c => Cov.has r c) = false) ∧ ∃ n, wr = (w.alloc (.cells #[.slice sa sl sc, .slice fa F.length fc, .int .i64 t] 25)).drewN n) (fun i _ => F.length - (intOf i).toNat)
  case atStart => exact ⟨0, by omega, rfl, hid rfl, 0, rfl⟩
  case round =>
    obtain ⟨k, hk, rfl, hpre, n, rfl⟩ := hrel
    by_cases hlt : k < F.length
    · have hdb := below_drewN HB.out n
      obtain ⟨ur, hc, hbk, hrr⟩ := hf.at hlt
      obtain ⟨ar, cr, rfl, hokr, hcapr, hmaxr⟩ := hrr.form
      have hlen := hF _ (List.getElem_mem hlt)
      have HAt := hid (any_take (fun c => Cov.has r c) F k hlt)
      have HAll : Hid (Cov.has r F[k] = true → Cov.allowed F r = false) := hid (fun h => by
        unfold Cov.allowed
        rw [List.any_eq_true.2 ⟨F[k], List.getElem_mem hlt, h⟩]; rfl)
      have HH := hid (has_any r F[k] hlen (.slice av r.length cv) (.slice ar F[k].length cr) T S _ (IntsV.keep hv0 (KeepS.below hdb)) (IntsV.keep hrr (KeepS.below hdb)))
      have hk0 : (0 : Int) ≤ k := by omega
      have hk1 : (k : Int) < F.length := by omega
      clear hrr hdb hlen
      generalize F[k] = c at *
      go_wp2_with fail
      refine HH.out.mono ?_
      rintro e w' ⟨rfl, m, rfl⟩
      cases hh : Cov.has r c with
      | true =>
        have HT := hid (HAll.out hh)
        clear HAt HAll HH hh hpre
        go_wp2
        go_ret
        exact ⟨ret_bool HT.out.symm, below_drewN HB.out _⟩
      | false =>
        have HP : Hid ((F.take (k + 1)).any (fun c => Cov.has r c) = false) := hid (by rw [HAt.out, hpre.out, hh]; rfl)
        clear HAt HAll HH hh hpre
        go_wp2
        go_roundw
        case rel => exact ⟨k + 1, by omega, by go_num, HP, _, rfl⟩
        case measure => simp [intOf]; omega
    · obtain rfl : k = F.length := by omega
      have hp := hpre.out
      rw [List.take_length] at hp
      have HT : Hid (Cov.allowed F r = true) := hid (by unfold Cov.allowed; rw [hp]; rfl)
      clear hp hpre
      go_wp2
      go_ret
      exact ⟨ret_bool HT.out.symm, below_drewN HB.out _⟩

end Go.Proofs.YtjaejnacdanpkaaDoor

namespace Go.Proofs.YtjaejnacdanpkaaDoor
open Go.RowKit

theorem same_prefix' {α : Type} {xs ys : List α} {k : Nat} (hl : xs.length = ys.length) (hk : k = xs.length) (h : xs.take k = ys.take k) : xs = ys := by
  have e1 : xs.take xs.length = xs := List.take_length
  have e2 : ys.take ys.length = ys := List.take_length
  rw [hk] at h
  rw [← e1, h, hl, e2]
theorem take_eq_succ' {α : Type} {xs ys : List α} {k : Nat} (hx : k < xs.length) (hy : k < ys.length) (h : xs.take k = ys.take k) (e : xs[k] = ys[k]) : xs.take (k + 1) = ys.take (k + 1) := by
  rw [List.take_succ_eq_append_getElem hx, List.take_succ_eq_append_getElem hy, h, e]

set_option maxHeartbeats 1000000 in
theorem sameRows_any (rows sows : List (List Int)) (u v : Value) (S T : Nat → Prop) (w : World) (hu : RowsV S w u rows) (hv : RowsV T w v sows) :
    Calls Tryd.prog 14 #[u, v] w fun e w' => e = .returned (.bool (decide (rows = sows))) ∧ ∃ n, w' = w.drewN n := by
  have hrk0 := hu
  have hsk0 := hv
  obtain ⟨ak, ck, rfl, hokk, hcapk, hmaxk⟩ := hu.form
  obtain ⟨bk, dk, rfl, hokk', hcapk', hmaxk'⟩ := hv.form
  clear hu hv
  by_cases hr : rows.length = sows.length
  · have g1 : ((rows.length : Int) != (sows.length : Int)) = false := bneF (by omega)
    have hr3 : rows.length ≤ sows.length := by omega
    have HR := hid hr
    clear hr
    go_enter Tryd.func14, Tryd.ntmps14
    go_wp2
    go_loopw [5] (fun i wr => ∃ j : Nat, j ≤ rows.length ∧ i = .int .i64 j ∧ Hid (rows.take j = sows.take j) ∧ ∃ n, wr = w.drewN n) (fun i _ => rows.length - (intOf i).toNat)
    case atStart => exact ⟨0, Nat.zero_le _, rfl, hid rfl, 0, rfl⟩
    case round =>
      obtain ⟨j, hj, rfl, hpre2, n, rfl⟩ := hrel
      have hdb : Below w.heap.size w (w.drewN n) := below_drewN (Below.refl _ _) n
      by_cases hjr : j < rows.length
      · have hjr' : j < sows.length := by omega
        obtain ⟨ur, hcr, hbr, hrr⟩ := (RowsV.keep hrk0 (KeepS.below hdb)).at hjr
        obtain ⟨vr, hdr, hbr', hsr⟩ := (RowsV.keep hsk0 (KeepS.below hdb)).at hjr'
        have HE2 : Hid (rows[j] = sows[j] → rows.take (j + 1) = sows.take (j + 1)) := hid (take_eq_succ' hjr hjr' hpre2.out)
        have HN2 : Hid (rows[j] ≠ sows[j] → ¬ rows = sows) := hid (fun h e => h (by subst e; rfl))
        generalize rows[j] = r at *
        generalize sows[j] = s at *
        have hrr0 := hrr
        have hsr0 := hsr
        obtain ⟨ar, cr, rfl, -, -, -⟩ := hrr.form
        obtain ⟨br, dr, rfl, -, -, -⟩ := hsr.form
        clear hrr hsr
        have hj0 : (0 : Int) ≤ j := by omega
        have hj1 : (j : Int) < rows.length := by omega
        have hj2 : (j : Int) < sows.length := by omega
        have HS : ∀ nq, Hid (Calls Tryd.prog 29 #[.slice ar r.length cr, .slice br s.length dr] ((w.drewN n).drewN nq) fun e w'' => e = .returned (.bool (decide (r = s))) ∧ ∃ m, w'' = (w.drewN n).drewN m) := fun nq =>
          hid (Calls.quiet_of (sameInts_any r s _ _ S T ((w.drewN n).drewN nq) (IntsV.keep hrr0 (KeepS.below (below_drewN (Below.refl _ _) _))) (IntsV.keep hsr0 (KeepS.below (below_drewN (Below.refl _ _) _)))))
        generalize hW : w.drewN n = W at *
        have HW := hid hW
        clear hW
        by_cases hrs : r = s
        · have HT := hid (HE2.out hrs)
          have HD := hid (decide_eq_true hrs)
          rw [HD.out] at HS
          clear HE2 HN2 hrr0 hsr0 hrs HD hdb
          go_wp2
          go_quiet (exact (HS _).out)
          go_wp2
          go_roundw
          case rel => exact ⟨j + 1, by omega, by go_num, HT, by rw [← HW.out, World.drewN_drewN]; exact ⟨_, rfl⟩⟩
          case measure => simp [intOf]; omega
        · have HT := hid (HN2.out hrs)
          have HD := hid (decide_eq_false hrs)
          rw [HD.out] at HS
          clear HE2 HN2 hrr0 hsr0 hrs HD hdb
          go_wp2
          go_quiet (exact (HS _).out)
          go_wp2
          go_ret
          exact ⟨ret_bool (decide_eq_false HT.out).symm, by rw [← HW.out, World.drewN_drewN]; exact ⟨_, rfl⟩⟩
      · have HT := hid (same_prefix' HR.out (by omega) hpre2.out)
        go_wp2
        go_ret
        exact ⟨ret_bool (decide_eq_true HT.out).symm, _, rfl⟩
  · have g1 : ((rows.length : Int) != (sows.length : Int)) = true := bneT (by omega)
    have HD := hid (decide_eq_false (p := rows = sows) (fun e => hr (by rw [e])))
    clear hr
    go_enter Tryd.func14, Tryd.ntmps14
    go_wp2
    go_ret
    exact ⟨ret_bool HD.out.symm, 0, rfl⟩

theorem ltL_take : ∀ (xs ys : List Int) (k : Nat), xs.take k = ys.take k → k ≤ xs.length → k ≤ ys.length → Cov.ltL xs ys = Cov.ltL (xs.drop k) (ys.drop k)
  | xs, ys, 0, _, _, _ => by simp
  | [], _, k + 1, _, h, _ => by simp at h
  | _ :: _, [], k + 1, _, _, h => by simp at h
  | x :: xs, y :: ys, k + 1, h, h1, h2 => by
    simp only [List.take_succ_cons, List.cons.injEq] at h
    obtain ⟨rfl, h⟩ := h
    rw [List.drop_succ_cons, List.drop_succ_cons, ← ltL_take xs ys k h (by simpa using h1) (by simpa using h2)]
    simp [Cov.ltL]

set_option maxHeartbeats 1000000 in
theorem before_any (xs ys : List Int) (u v : Value) (S T : Nat → Prop) (w : World) (hu : IntsV S w u xs) (hv : IntsV T w v ys) :
    Calls Tryd.prog 51 #[u, v] w fun e w' => e = .returned (.bool (Cov.ltL xs ys)) ∧ ∃ n, w' = w.drewN n := by
  obtain ⟨a, cap, rfl, hok, hcap, hmax, hS, hcell⟩ := hu
  obtain ⟨a', cap', rfl, hok', hcap', hmax', hS', hcell'⟩ := hv
  clear hS hS'
  unfold maxLen at hmax hmax'
  go_enter Tryd.func51, Tryd.ntmps51
  go_wp2
  go_loopw [5] (fun i wr => ∃ k : Nat, k ≤ xs.length ∧ k ≤ ys.length ∧ i = .int .i64 k ∧ Hid (xs.take k = ys.take k) ∧ ∃ n, wr = w.drewN n) (fun i _ => xs.length - (intOf i).toNat)
  case atStart => exact ⟨0, Nat.zero_le _, Nat.zero_le _, rfl, hid rfl, 0, rfl⟩
  case round =>
    obtain ⟨k, hk, hk', rfl, hpre, n, rfl⟩ := hrel
    have HL := hid (ltL_take xs ys k hpre.out hk hk')
    by_cases hlt : k < xs.length
    · have d1 : decide ((k : Int) < xs.length) = true := decide_eq_true (by omega)
      have d1' : decide (k < xs.length) = true := decide_eq_true hlt
      by_cases hlt' : k < ys.length
      · have d2 : decide ((k : Int) < ys.length) = true := decide_eq_true (by omega)
        have d2' : decide (k < ys.length) = true := decide_eq_true hlt'
        obtain ⟨x, hx, hx2⟩ := hcell k hlt
        obtain ⟨y, hy, hy2⟩ := hcell' k hlt'
        have HT : Hid (xs[k] = ys[k] → xs.take (k + 1) = ys.take (k + 1)) := hid (take_eq_succ' hlt hlt' hpre.out)
        have HL2 : Hid (Cov.ltL xs ys = (decide (xs[k] < ys[k]) || (decide (xs[k] = ys[k]) && Cov.ltL (xs.drop (k + 1)) (ys.drop (k + 1))))) := hid (by
          rw [HL.out, List.drop_eq_getElem_cons hlt, List.drop_eq_getElem_cons hlt']; rfl)
        generalize xs[k] = x0 at *
        generalize ys[k] = y0 at *
        subst hx2; subst hy2
        have hk0 : (0 : Int) ≤ (k : Int) := by omega
        have hk1 : (k : Int) < (xs.length : Int) := by omega
        have hk2 : (k : Int) < (ys.length : Int) := by omega
        clear HL
        by_cases hxy : x0 = y0
        · have HT2 := hid (HT.out hxy)
          subst hxy
          have d3 : (x0 != x0) = false := bneF rfl
          clear HT
          go_wp2
          go_quiet (fail)
          go_wp2
          go_roundw
          case rel => exact ⟨k + 1, by omega, by omega, by go_num, HT2, _, rfl⟩
          case measure => simp [intOf]; omega
        · have d3 : (x0 != y0) = true := bneT hxy
          have HR : Hid (Cov.ltL xs ys = decide (x0 < y0)) := hid (by rw [HL2.out, decide_eq_false hxy]; simp)
          clear HT HL2 hxy
          go_wp2
          go_quiet (fail)
          go_wp2
          go_quiet (fail)
          go_wp2
          go_ret
          exact ⟨ret_bool HR.out.symm, by simp only [World.drewN_drewN]; exact ⟨_, rfl⟩⟩
      · have d2 : decide ((k : Int) < ys.length) = false := decide_eq_false (by omega)
        have d2' : decide (k < ys.length) = false := decide_eq_false hlt'
        have hle : ys.length < xs.length := by omega
        have HR : Hid (Cov.ltL xs ys = decide ((xs.length : Int) < ys.length)) := hid (by
          rw [HL.out, show ys.drop k = [] from List.drop_eq_nil_of_le (by omega), List.drop_eq_getElem_cons hlt, decide_eq_false (by omega)]; rfl)
        clear HL
        go_wp2
        go_ret
        exact ⟨ret_bool (by rw [HR.out]; simp), _, rfl⟩
    · have d1 : decide ((k : Int) < xs.length) = false := decide_eq_false (by omega)
      have d1' : decide (k < xs.length) = false := decide_eq_false hlt
      have HR : Hid (Cov.ltL xs ys = decide ((xs.length : Int) < ys.length)) := hid (by
        rw [HL.out, show xs.drop k = [] from List.drop_eq_nil_of_le (by omega)]
        by_cases h : k < ys.length
        · rw [List.drop_eq_getElem_cons h, decide_eq_true (by omega)]; rfl
        · rw [show ys.drop k = [] from List.drop_eq_nil_of_le (by omega), decide_eq_false (by omega)]; rfl)
      clear HL
      go_wp2
      go_ret
      exact ⟨ret_bool (by rw [HR.out]; simp), _, rfl⟩

end Go.Proofs.YtjaejnacdanpkaaDoor

namespace Go.Proofs.YtjaejnacdanpkaaDoor
open Go.RowKit

/-- All combinations of features: with values alone, or also with gaps. -/
def allP (g : Bool) (ns : List Nat) : List (List Int) := if g then Cov.allG ns else Cov.rowsC ns
/-- The values of a feature. -/
def valsP (g : Bool) (n : Nat) : List Int := if g then (List.range (n + 1)).map (fun (v : Nat) => (v : Int) - 1) else (List.range n).map (fun (v : Nat) => (v : Int))
theorem allP_nil (g : Bool) : allP g [] = [[]] := by cases g <;> rfl
theorem allP_cons (g : Bool) (n : Nat) (ns : List Nat) : allP g (n :: ns) = (valsP g n).flatMap fun v => (allP g ns).map fun r => v :: r := by
  cases g
  · simp [allP, valsP, Cov.rowsC, List.flatMap_map]
  · simp [allP, valsP, Cov.allG, List.flatMap_map]
theorem valsP_len (g : Bool) (n : Nat) : (valsP g n).length = n + (if g then 1 else 0) := by cases g <;> simp [valsP]
theorem valsP_at (g : Bool) (n k : Nat) (h : k < (valsP g n).length) : (valsP g n)[k] = (k : Int) - (if g then 1 else 0) := by
  cases g <;> simp [valsP]
theorem allP_len (g : Bool) : ∀ (ns : List Nat), ∀ r ∈ allP g ns, r.length = ns.length
  | [], r, h => by rw [allP_nil] at h; rw [List.mem_singleton.1 h]; rfl
  | n :: ns, r, h => by
    rw [allP_cons] at h
    obtain ⟨v, _, h⟩ := List.mem_flatMap.1 h
    obtain ⟨l, hl, rfl⟩ := List.mem_map.1 h
    simp [allP_len g ns l hl]
/-- How many there are: at most 9 values for each feature. -/
theorem allP_size (g : Bool) : ∀ (ns : List Nat), (∀ n ∈ ns, n ≤ 8) → (allP g ns).length ≤ 9 ^ ns.length
  | [], _ => by rw [allP_nil]; simp
  | n :: ns, h => by
    rw [allP_cons]
    have ih := allP_size g ns (fun m hm => h m (List.mem_cons_of_mem _ hm))
    have hv : (valsP g n).length ≤ 9 := by rw [valsP_len]; have := h n (List.mem_cons_self ..); split <;> omega
    have e : ((valsP g n).flatMap fun v => (allP g ns).map fun r => v :: r).length = (valsP g n).length * (allP g ns).length := by
      generalize valsP g n = l
      induction l with
      | nil => simp
      | cons x l ih => rw [List.flatMap_cons, List.length_append, List.length_map, ih, List.length_cons, Nat.add_mul]; omega
    rw [e, List.length_cons, Nat.pow_succ, Nat.mul_comm]
    exact Nat.mul_le_mul ih hv

theorem int1F (w : World) (x : Int) : IntsF (w.heap.size ≤ ·) (w.alloc (.cells #[.int .i64 x] 3)) (.slice (some ⟨w.heap.size, 0, none⟩) 1 1) [x] :=
  ⟨⟨rfl, .inr ⟨w.heap.size, 1, #[.int .i64 x], rfl, Nat.zero_le _, heap_alloc_new w _, Nat.le_refl _, by unfold maxLen; omega, rfl, rfl⟩⟩, fun b hb => by simp [Value.ownBlock] at hb; omega⟩

theorem flat_take {α β : Type} (f : α → List β) (l : List α) (k : Nat) (h : k < l.length) : (l.take k).flatMap f ++ f l[k] = (l.take (k + 1)).flatMap f := by
  rw [← take_snoc h, List.flatMap_append]; simp

set_option maxRecDepth 100000 in
set_option maxHeartbeats 4000000 in
theorem all_step (g : Bool) (n : Nat) (hn : n ≤ 8) (R : List (List Int)) (hR : R.length ≤ 50000000) (hRl : ∀ r ∈ R, r.length ≤ 8) (ns : List Nat) (_hl : ns.length ≤ 8) (from_ : Nat) (hf : from_ < ns.length) (hnf : ns[from_] = n) (sa : Option Addr) (sc : Nat) (fa : Option Addr) (fl fc : Nat) (t : Int) (S : Nat → Prop) (w : World)
    (hs : IntsV S w (.slice sa ns.length sc) (szI ns))
    (ih : ∀ W, IntsV S W (.slice sa ns.length sc) (szI ns) → Calls Tryd.prog 40 #[.agg #[.slice sa ns.length sc, .slice fa fl fc, .int .i64 t], .int .i64 (from_ + 1 : Nat), .bool g] W fun e w' => ∃ x, e = .returned x ∧ RowsV (W.heap.size ≤ ·) w' x R ∧ Below W.heap.size W w') :
    Calls Tryd.prog 40 #[.agg #[.slice sa ns.length sc, .slice fa fl fc, .int .i64 t], .int .i64 from_, .bool g] w fun e w' => ∃ x, e = .returned x ∧ RowsV (w.heap.size ≤ ·) w' x ((valsP g n).flatMap fun v => R.map fun r => v :: r) ∧ Below w.heap.size w w' := by
  obtain ⟨sa', sc', es, hoks, hcaps, hmaxs⟩ := hs.form
  rw [List.length_map] at es hoks hcaps
  cases es
  have hA0 : Below w.heap.size w (w.alloc (.cells #[.slice sa ns.length sc, .slice fa fl fc, .int .i64 t] 25)) := (Below.refl _ _).alloc (Nat.le_refl _) _
  have hIH := ih (w.alloc (.cells #[.slice sa ns.length sc, .slice fa fl fc, .int .i64 t] 25)) (hs.keep (KeepS.below hA0))
  rw [Int.natCast_add] at hIH
  have HIH := hid hIH
  have HA0 := hid hA0
  clear ih hIH hA0
  have hne : ((from_ : Int) == (ns.length : Int)) = false := beqF (by omega)
  have hf1 : (from_ : Int) < ns.length := by omega
  have hf0 : (0 : Int) ≤ from_ := by omega
  have hvl := valsP_len g n
  have HV := hid (valsP_at g n)
  have HNF := hid hnf
  clear hnf
  go_enter Tryd.func40, Tryd.ntmps40
  go_wp2_with fail
  refine HIH.out.mono ?_
  rintro e w1 ⟨xr, rfl, hxr, hb1⟩
  obtain ⟨ar, cr, rfl, hokr, hcapr, hmaxr⟩ := hxr.form
  have hbox := (hb1.block w.heap.size (by simp)).trans (World.alloc_heap_new _ _)
  have hszb := (Array.getElem?_eq_some_iff.1 hbox).1
  have bx0 : ∀ W, Below w1.heap.size w1 W → W.cell? ⟨w.heap.size, 0, none⟩ = some (.slice sa ns.length sc) := fun W h => cell_later h (by simp [World.cell?, hbox])
  have hb01 : Below w.heap.size w w1 := HA0.out.trans (hb1.mono (by simp))
  have hS1 : ∀ W, Below w1.heap.size w1 W → IntsV S W (.slice sa ns.length sc) (szI ns) := fun W h => hs.keep (KeepS.below (hb01.trans (h.mono hb01.size)))
  have HX := hid hxr
  have HB := hid hb01
  have HBX := hid bx0
  have HS1 := hid hS1
  clear hxr hbox bx0 hS1 hb1 hb01 HIH hs
  cases g
  · have hvl' : (valsP false n).length = n + 0 := by rw [hvl]; rfl
    have HV' : Hid (∀ k (h : k < (valsP false n).length), (valsP false n)[k] = (k : Int)) := hid (fun k h => by rw [HV.out k h]; simp)
    clear hvl HV
    go_wp2
    go_loopw [9, 10] (fun o v wr => ∃ k : Nat, k ≤ (valsP false n).length ∧ v = .int .i64 (k : Int) ∧ OwnV (fun S => IntsV S) w1.heap.size 22 wr o (((valsP false n).take k).flatMap fun v => R.map fun r => v :: r) ∧ Below w1.heap.size w1 wr) (fun _ v _ => (valsP false n).length - (intOf v + 0).toNat)
    case atStart => exact ⟨0, by omega, rfl, by simpa using OwnV.nil _ _ _ _, Below.refl _ _⟩
    case round =>
      obtain ⟨k, hk, rfl, hown, hb⟩ := hrel
      have hbx := HBX.out wr hb
      have hs1 := HS1.out wr hb
      obtain ⟨y, hcs, hbs, hy⟩ := hs1.at (j := from_) (by rw [List.length_map]; exact hf)
      rw [List.getElem_map] at hy
      rw [HNF.out] at hy
      subst hy
      have hzb : w.heap.size < wr.heap.size := by have := hb.size; omega
      by_cases hlt : k < (valsP false n).length
      · have HT := hid (flat_take (fun v => R.map fun r => v :: r) (valsP false n) k hlt)
        have hvk := HV'.out k hlt
        have hlen : (((valsP false n).take k).flatMap fun v => R.map fun r => v :: r).length ≤ 9 * 50000000 := by
          have h1 : ∀ l : List Int, (l.flatMap fun v => R.map fun r => v :: r).length = l.length * R.length := by
            intro l
            induction l with
            | nil => simp
            | cons x l ih => rw [List.flatMap_cons, List.length_append, List.length_map, ih, List.length_cons, Nat.add_mul]; omega
          rw [h1]
          exact Nat.mul_le_mul (by simp; omega) hR
        rw [hvk] at HT
        generalize hpre : (((valsP false n).take k).flatMap fun v => R.map fun r => v :: r) = pre at *
        have hkn : (k : Int) < (n : Int) := by omega
        have HRX := fun W (h : Below w1.heap.size w1 W) => RowsV.keep HX.out (KeepS.below h)
        have HHRX := hid HRX
        clear HRX hpre hvk
        obtain ⟨wo, rfl⟩ : ∃ wo : World, wo = wr := ⟨_, rfl⟩
        have HO0 : Hid (OwnV (fun S => IntsV S) w1.heap.size 22 wo u9 (pre ++ (R.take 0).map fun r => (k : Int) :: r)) := hid (by simpa using hown)
        clear hown
        go_wp2
        go_loopw [9, 11] (fun o i w2 => ∃ j : Nat, j ≤ R.length ∧ i = .int .i64 j ∧ OwnV (fun S => IntsV S) w1.heap.size 22 w2 o (pre ++ (R.take j).map fun r => (k : Int) :: r) ∧ Below w1.heap.size w1 w2) (fun _ i _ => R.length - (intOf i).toNat)
        case atStart => exact ⟨0, by omega, rfl, HO0.out, hb⟩
        case round =>
          obtain ⟨j, hj, rfl, hown2, hb2⟩ := hrel
          by_cases hjr : j < R.length
          · obtain ⟨ur, hcr, hbr, hrr⟩ := (HHRX.out wr hb2).at hjr
            obtain ⟨ae, ce, rfl, -, -, -⟩ := hrr.form
            have hr8 := hRl _ (List.getElem_mem hjr)
            have HT2 : Hid ((pre ++ (R.take j).map fun r => (k : Int) :: r) ++ [(k : Int) :: R[j]] = pre ++ (R.take (j + 1)).map fun r => (k : Int) :: r) := hid (by
              rw [← take_snoc hjr, List.map_append]; simp)
            have hlen2 : (pre ++ (R.take j).map fun r => (k : Int) :: r).length ≤ 600000000 := by rw [List.length_append, List.length_map, List.length_take]; omega
            generalize R[j] = r at *
            generalize (pre ++ (R.take j).map fun r => (k : Int) :: r) = L at *
            have hj0 : (0 : Int) ≤ j := by omega
            have hj1 : (j : Int) < R.length := by omega
            have hI : IntsF (wr.heap.size ≤ ·) (wr.alloc (.cells #[.int .i64 (k : Int)] 3)) (.slice (some ⟨wr.heap.size, 0, none⟩) 1 1) [(k : Int)] := int1F wr _
            have hrr1 : IntsV _ (wr.alloc (.cells #[.int .i64 (k : Int)] 3)) (.slice ae r.length ce) r := hrr.keep (KeepS.below ((Below.refl _ _).alloc (Nat.le_refl _) _))
            go_wp2_with (at_builtin; go_must (refine wpList_appI rfl _ _ rfl Tryd.app22 rfl hI (Below.refl _ _) rfl hrr1 (by simp; omega) ?_))
            intro v1 w3 hI1 ht1
            have hI2 : IntsF (wr.heap.size ≤ ·) w3 v1 ((k : Int) :: r) := by
              have := steady_intsF.mono hI1 (fun b _ hb => grow_from (by simp) b hb)
              simpa using this
            have hb3 : Below wr.heap.size wr w3 := ((Below.refl _ _).alloc (Nat.le_refl _) _).trans (ht1.below (by simp) (fun b hb => Nat.le_of_eq (Option.some.inj hb).symm))
            have hsl := hI2.sl
            obtain ⟨av, cv, rfl, -, -, -⟩ := hsl.form
            have hfr := hown2.fresh hb2.size
            have hown3 := hown2.below steady_ints hb3
            have hb4 := hb2.trans (hb3.mono hb2.size)
            have HSL := hid (steady_ints.mono hsl (fun b _ h => hfr b h))
            clear hI hI1 hrr1 ht1 hI2 hsl hown2 hrr hfr hcr hb3 hb2
            go_wp2_with (at_builtin; go_must (refine wpList_app1 steady_ints rfl _ _ rfl Tryd.app63 rfl hown3 rfl ((k : Int) :: r) HSL.out rfl (by omega) hb4.size hb4 (Nat.le_refl _) ?_))
            intro v2 w5 hown5 hb5 _
            rw [HT2.out] at hown5
            clear hown3 hb4 HSL HT2
            go_wp2
            go_roundw
            case rel => exact ⟨j + 1, by omega, by go_num, hown5, hb5⟩
            case measure => simp [intOf]; omega
          · obtain rfl : j = R.length := by omega
            rw [List.take_length, HT.out] at hown2
            have HO2 := hid hown2
            clear hown2 HT HO0
            go_wp2
            go_roundw
            case rel => exact ⟨k + 1, by omega, by go_num, HO2.out, hb2⟩
            case measure => simp [intOf]; omega
      · obtain rfl : k = (valsP false n).length := by omega
        rw [List.take_length] at hown
        have HO2 := hid (RowsV.mono (S' := (w.heap.size ≤ ·)) (hown.sl steady_ints) (fun b _ h => by have := HB.out.size; have h' : w1.heap.size ≤ b := h; omega))
        have hB2 := HB.out.trans (hb.mono HB.out.size)
        have hkn : ¬ ((n : Int) > ((valsP false n).length : Int)) := by omega
        clear hown
        go_wp2
        go_ret
        exact ⟨_, rfl, HO2.out, hB2⟩
  · have hvl' : (valsP true n).length = n + 1 := by rw [hvl]; rfl
    have HV' : Hid (∀ k (h : k < (valsP true n).length), (valsP true n)[k] = ((k : Int) - 1)) := hid (fun k h => by rw [HV.out k h]; simp)
    clear hvl HV
    go_wp2
    go_loopw [9, 10] (fun o v wr => ∃ k : Nat, k ≤ (valsP true n).length ∧ v = .int .i64 ((k : Int) - 1) ∧ OwnV (fun S => IntsV S) w1.heap.size 22 wr o (((valsP true n).take k).flatMap fun v => R.map fun r => v :: r) ∧ Below w1.heap.size w1 wr) (fun _ v _ => (valsP true n).length - (intOf v + 1).toNat)
    case atStart => exact ⟨0, by omega, rfl, by simpa using OwnV.nil _ _ _ _, Below.refl _ _⟩
    case round =>
      obtain ⟨k, hk, rfl, hown, hb⟩ := hrel
      have hbx := HBX.out wr hb
      have hs1 := HS1.out wr hb
      obtain ⟨y, hcs, hbs, hy⟩ := hs1.at (j := from_) (by rw [List.length_map]; exact hf)
      rw [List.getElem_map] at hy
      rw [HNF.out] at hy
      subst hy
      have hzb : w.heap.size < wr.heap.size := by have := hb.size; omega
      by_cases hlt : k < (valsP true n).length
      · have HT := hid (flat_take (fun v => R.map fun r => v :: r) (valsP true n) k hlt)
        have hvk := HV'.out k hlt
        have hlen : (((valsP true n).take k).flatMap fun v => R.map fun r => v :: r).length ≤ 9 * 50000000 := by
          have h1 : ∀ l : List Int, (l.flatMap fun v => R.map fun r => v :: r).length = l.length * R.length := by
            intro l
            induction l with
            | nil => simp
            | cons x l ih => rw [List.flatMap_cons, List.length_append, List.length_map, ih, List.length_cons, Nat.add_mul]; omega
          rw [h1]
          exact Nat.mul_le_mul (by simp; omega) hR
        rw [hvk] at HT
        generalize hpre : (((valsP true n).take k).flatMap fun v => R.map fun r => v :: r) = pre at *
        have hkn : ((k : Int) - 1) < (n : Int) := by omega
        have HRX := fun W (h : Below w1.heap.size w1 W) => RowsV.keep HX.out (KeepS.below h)
        have HHRX := hid HRX
        clear HRX hpre hvk
        obtain ⟨wo, rfl⟩ : ∃ wo : World, wo = wr := ⟨_, rfl⟩
        have HO0 : Hid (OwnV (fun S => IntsV S) w1.heap.size 22 wo u9 (pre ++ (R.take 0).map fun r => ((k : Int) - 1) :: r)) := hid (by simpa using hown)
        clear hown
        go_wp2
        go_loopw [9, 11] (fun o i w2 => ∃ j : Nat, j ≤ R.length ∧ i = .int .i64 j ∧ OwnV (fun S => IntsV S) w1.heap.size 22 w2 o (pre ++ (R.take j).map fun r => ((k : Int) - 1) :: r) ∧ Below w1.heap.size w1 w2) (fun _ i _ => R.length - (intOf i).toNat)
        case atStart => exact ⟨0, by omega, rfl, HO0.out, hb⟩
        case round =>
          obtain ⟨j, hj, rfl, hown2, hb2⟩ := hrel
          by_cases hjr : j < R.length
          · obtain ⟨ur, hcr, hbr, hrr⟩ := (HHRX.out wr hb2).at hjr
            obtain ⟨ae, ce, rfl, -, -, -⟩ := hrr.form
            have hr8 := hRl _ (List.getElem_mem hjr)
            have HT2 : Hid ((pre ++ (R.take j).map fun r => ((k : Int) - 1) :: r) ++ [((k : Int) - 1) :: R[j]] = pre ++ (R.take (j + 1)).map fun r => ((k : Int) - 1) :: r) := hid (by
              rw [← take_snoc hjr, List.map_append]; simp)
            have hlen2 : (pre ++ (R.take j).map fun r => ((k : Int) - 1) :: r).length ≤ 600000000 := by rw [List.length_append, List.length_map, List.length_take]; omega
            generalize R[j] = r at *
            generalize (pre ++ (R.take j).map fun r => ((k : Int) - 1) :: r) = L at *
            have hj0 : (0 : Int) ≤ j := by omega
            have hj1 : (j : Int) < R.length := by omega
            have hI : IntsF (wr.heap.size ≤ ·) (wr.alloc (.cells #[.int .i64 ((k : Int) - 1)] 3)) (.slice (some ⟨wr.heap.size, 0, none⟩) 1 1) [((k : Int) - 1)] := int1F wr _
            have hrr1 : IntsV _ (wr.alloc (.cells #[.int .i64 ((k : Int) - 1)] 3)) (.slice ae r.length ce) r := hrr.keep (KeepS.below ((Below.refl _ _).alloc (Nat.le_refl _) _))
            go_wp2_with (at_builtin; go_must (refine wpList_appI rfl _ _ rfl Tryd.app22 rfl hI (Below.refl _ _) rfl hrr1 (by simp; omega) ?_))
            intro v1 w3 hI1 ht1
            have hI2 : IntsF (wr.heap.size ≤ ·) w3 v1 (((k : Int) - 1) :: r) := by
              have := steady_intsF.mono hI1 (fun b _ hb => grow_from (by simp) b hb)
              simpa using this
            have hb3 : Below wr.heap.size wr w3 := ((Below.refl _ _).alloc (Nat.le_refl _) _).trans (ht1.below (by simp) (fun b hb => Nat.le_of_eq (Option.some.inj hb).symm))
            have hsl := hI2.sl
            obtain ⟨av, cv, rfl, -, -, -⟩ := hsl.form
            have hfr := hown2.fresh hb2.size
            have hown3 := hown2.below steady_ints hb3
            have hb4 := hb2.trans (hb3.mono hb2.size)
            have HSL := hid (steady_ints.mono hsl (fun b _ h => hfr b h))
            clear hI hI1 hrr1 ht1 hI2 hsl hown2 hrr hfr hcr hb3 hb2
            go_wp2_with (at_builtin; go_must (refine wpList_app1 steady_ints rfl _ _ rfl Tryd.app63 rfl hown3 rfl (((k : Int) - 1) :: r) HSL.out rfl (by omega) hb4.size hb4 (Nat.le_refl _) ?_))
            intro v2 w5 hown5 hb5 _
            rw [HT2.out] at hown5
            clear hown3 hb4 HSL HT2
            go_wp2
            go_roundw
            case rel => exact ⟨j + 1, by omega, by go_num, hown5, hb5⟩
            case measure => simp [intOf]; omega
          · obtain rfl : j = R.length := by omega
            rw [List.take_length, HT.out] at hown2
            have HO2 := hid hown2
            clear hown2 HT HO0
            go_wp2
            go_roundw
            case rel => exact ⟨k + 1, by omega, by go_num, HO2.out, hb2⟩
            case measure => simp [intOf]; omega
      · obtain rfl : k = (valsP true n).length := by omega
        rw [List.take_length] at hown
        have HO2 := hid (RowsV.mono (S' := (w.heap.size ≤ ·)) (hown.sl steady_ints) (fun b _ h => by have := HB.out.size; have h' : w1.heap.size ≤ b := h; omega))
        have hB2 := HB.out.trans (hb.mono HB.out.size)
        have hkn : ¬ ((n : Int) > (((valsP true n).length : Int) - 1)) := by omega
        clear hown
        go_wp2
        go_ret
        exact ⟨_, rfl, HO2.out, hB2⟩

set_option maxHeartbeats 1000000 in
theorem all_base (g : Bool) (ns : List Nat) (_hl : ns.length ≤ 8) (sa : Option Addr) (sc : Nat) (fa : Option Addr) (fl fc : Nat) (t : Int) (S : Nat → Prop) (w : World)
    (hs : IntsV S w (.slice sa ns.length sc) (szI ns)) :
    Calls Tryd.prog 40 #[.agg #[.slice sa ns.length sc, .slice fa fl fc, .int .i64 t], .int .i64 ns.length, .bool g] w fun e w' => ∃ x, e = .returned x ∧ RowsV (w.heap.size ≤ ·) w' x [[]] ∧ Below w.heap.size w w' := by
  obtain ⟨sa', sc', es, hoks, hcaps, hmaxs⟩ := hs.form
  rw [List.length_map] at es hoks hcaps
  cases es
  have hA0 : Below w.heap.size w (w.alloc (.cells #[.slice sa ns.length sc, .slice fa fl fc, .int .i64 t] 25)) := (Below.refl _ _).alloc (Nat.le_refl _) _
  have he : ((ns.length : Int) == (ns.length : Int)) = true := beqT rfl
  have hres : RowsV (w.heap.size ≤ ·) ((w.alloc (.cells #[.slice sa ns.length sc, .slice fa fl fc, .int .i64 t] 25)).alloc (.cells #[.slice none 0 0] 22)) (.slice (some ⟨w.heap.size + 1, 0, none⟩) 1 1) [[]] := by
    refine ⟨_, _, rfl, fun _ => ⟨_, _, rfl⟩, Nat.le_refl _, by unfold maxLen; simp, fun _ => by simp, fun j hj => ?_⟩
    obtain rfl : j = 0 := by simp at hj; omega
    refine ⟨.slice none 0 0, ?_, SlV.nil _ _ _⟩
    have hh : ((w.alloc (.cells #[.slice sa ns.length sc, .slice fa fl fc, .int .i64 t] 25)).alloc (.cells #[.slice none 0 0] 22)).heap[w.heap.size + 1]? = some (.cells #[.slice none 0 0] 22 (0, 0)) := heap_new _ _ (by simp)
    rw [slb_some, slo_some, Nat.zero_add, cell_of_row _ _ 0 _ _ (0, 0) hh]
    rfl
  have hb2 : Below w.heap.size w ((w.alloc (.cells #[.slice sa ns.length sc, .slice fa fl fc, .int .i64 t] 25)).alloc (.cells #[.slice none 0 0] 22)) := hA0.alloc (by simp) _
  have HR := hid hres
  have HB := hid hb2
  clear hA0 hres hb2 hs
  go_enter Tryd.func40, Tryd.ntmps40
  go_wp2
  go_ret
  exact ⟨_, rfl, HR.out, HB.out⟩

theorem all_from (g : Bool) (ns : List Nat) (hn : ∀ n ∈ ns, n ≤ 8) (hl : ns.length ≤ 8) (sa : Option Addr) (sc : Nat) (fa : Option Addr) (fl fc : Nat) (t : Int) (S : Nat → Prop) :
    ∀ (d from_ : Nat), from_ + d = ns.length → ∀ w, IntsV S w (.slice sa ns.length sc) (szI ns) →
    Calls Tryd.prog 40 #[.agg #[.slice sa ns.length sc, .slice fa fl fc, .int .i64 t], .int .i64 from_, .bool g] w fun e w' => ∃ x, e = .returned x ∧ RowsV (w.heap.size ≤ ·) w' x (allP g (ns.drop from_)) ∧ Below w.heap.size w w'
  | 0, from_, hd, w, hs => by
    obtain rfl : from_ = ns.length := by omega
    rw [List.drop_length, allP_nil]
    exact all_base g ns hl sa sc fa fl fc t S w hs
  | d + 1, from_, hd, w, hs => by
    have hf : from_ < ns.length := by omega
    have hsz := allP_size g (ns.drop (from_ + 1)) (fun n h => hn n (List.mem_of_mem_drop h))
    have hsz2 : (allP g (ns.drop (from_ + 1))).length ≤ 50000000 := by
      refine Nat.le_trans hsz (Nat.le_trans (Nat.pow_le_pow_right (by omega) (show (ns.drop (from_ + 1)).length ≤ 8 by rw [List.length_drop]; omega)) (by decide))
    rw [List.drop_eq_getElem_cons hf, allP_cons]
    exact all_step g ns[from_] (hn _ (List.getElem_mem hf)) _ hsz2 (fun r hr => by rw [allP_len g _ r hr, List.length_drop]; omega) ns hl from_ hf rfl sa sc fa fl fc t S w hs
      (fun W hW => all_from g ns hn hl sa sc fa fl fc t S d (from_ + 1) (by omega) W hW)

/-- All combinations of the features, in order. -/
theorem all_any (g : Bool) (ns : List Nat) (hn : ∀ n ∈ ns, n ≤ 8) (hl : ns.length ≤ 8) (sa : Option Addr) (sc : Nat) (fa : Option Addr) (fl fc : Nat) (t : Int) (S : Nat → Prop) (w : World) (hs : IntsV S w (.slice sa ns.length sc) (szI ns)) :
    Calls Tryd.prog 40 #[.agg #[.slice sa ns.length sc, .slice fa fl fc, .int .i64 t], .int .i64 0, .bool g] w fun e w' => ∃ x, e = .returned x ∧ RowsV (w.heap.size ≤ ·) w' x (allP g ns) ∧ Below w.heap.size w w' := by
  have h := all_from g ns hn hl sa sc fa fl fc t S ns.length 0 (by omega) w hs
  rw [List.drop_zero] at h
  exact h

end Go.Proofs.YtjaejnacdanpkaaDoor
