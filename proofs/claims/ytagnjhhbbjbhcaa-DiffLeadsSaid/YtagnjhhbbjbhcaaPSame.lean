/- same of the program: up to which record values are set; the best changes are those. -/
import Derived.Test.YtagnjhhbbjbhcaaRDiff
namespace Go.Proofs.Ytagnjhhbbjbhcaa
open Go.RowKit

/-- How many values are set up to the record m. -/
def setsN (a b : List (List Int)) (m : Nat) : Nat := (sets 0 a b m).length
def sameM (a b : List (List Int)) : Nat → Nat × Nat
  | 0 => (a.length + b.length, 0)
  | i + 1 => if setsN a b (i + 1) + a.length + b.length - 2 * (i + 1) ≤ (sameM a b i).1 then (setsN a b (i + 1) + a.length + b.length - 2 * (i + 1), i + 1) else sameM a b i
def sameL (a b : List (List Int)) : Nat := (sameM a b (min a.length b.length)).2

theorem setAt_some {kind i kind' i' : Int} {r s : List Int} {k : Nat} : (setAt kind i r s k).isSome = (setAt kind' i' r s k).isSome := by
  unfold setAt; split <;> rfl
theorem filt_len {kind i kind' i' : Int} {r s : List Int} (n : Nat) : ((List.range n).filterMap (setAt kind i r s)).length = ((List.range n).filterMap (setAt kind' i' r s)).length := by
  induction n with
  | zero => rfl
  | succ n ih =>
    rw [List.range_succ, List.filterMap_append, List.filterMap_append, List.length_append, List.length_append, ih]
    congr 1
    have h := setAt_some (kind := kind) (i := i) (kind' := kind') (i' := i') (r := r) (s := s) (k := n)
    cases h1 : setAt kind i r s n <;> cases h2 : setAt kind' i' r s n <;> simp [h1, h2] at h ⊢
theorem sets_len_eq (kind : Int) (a b : List (List Int)) : ∀ m, (sets kind a b m).length = setsN a b m
  | 0 => by simp [sets, setsN]
  | m + 1 => by
    have ih := sets_len_eq kind a b m
    unfold setsN at ih ⊢
    rw [sets_succ, sets_succ, List.length_append, List.length_append, ih]
    congr 1
    unfold setR
    exact filt_len _
theorem setsN_succ (a b : List (List Int)) (m : Nat) : setsN a b (m + 1) = setsN a b m + ((List.range (a.getD m []).length).filterMap (setAt 0 0 (a.getD m []) (b.getD m []))).length := by
  unfold setsN
  rw [sets_succ, List.length_append]
  congr 1
  unfold setR
  exact filt_len _
theorem listL_length {kind : Int} {a b : List (List Int)} {m : Nat} (h1 : m ≤ a.length) (h2 : m ≤ b.length) : (listL kind a b m).length = setsN a b m + a.length + b.length - 2 * m := by
  unfold listL takes adds
  simp only [List.length_append, List.length_map, List.length_range, sets_len_eq]
  omega
/-- The best changes are those up to the record that same tells. -/
theorem best_same {kind : Int} {a b : List (List Int)} : ∀ i, i ≤ a.length → i ≤ b.length → (sameM a b i).2 ≤ i ∧ bestM kind a b i = listL kind a b (sameM a b i).2 ∧ (sameM a b i).1 = (bestM kind a b i).length
  | 0, _, _ => by
    refine ⟨Nat.le_refl _, rfl, ?_⟩
    show a.length + b.length = (listL kind a b 0).length
    rw [listL_length (Nat.zero_le _) (Nat.zero_le _)]
    simp [setsN, sets]
  | i + 1, h1, h2 => by
    obtain ⟨g1, g2, g3⟩ := best_same (kind := kind) (a := a) (b := b) i (by omega) (by omega)
    have hl := listL_length (kind := kind) (a := a) (b := b) h1 h2
    unfold sameM bestM
    rw [g3, hl]
    split
    · exact ⟨Nat.le_refl _, rfl, hl.symm⟩
    · exact ⟨by omega, g2, g3⟩
theorem kindDiff_eq (kind : Int) (a b : List (List Int)) : kindDiff kind a b = listL kind a b (sameL a b) ∧ sameL a b ≤ a.length ∧ sameL a b ≤ b.length := by
  obtain ⟨g1, g2, _⟩ := best_same (kind := kind) (a := a) (b := b) (min a.length b.length) (by omega) (by omega)
  unfold sameL
  exact ⟨g2, by omega, by omega⟩

theorem setsN_le (a b : List (List Int)) (ha : ∀ r ∈ a, r.length ≤ 10) (m : Nat) : setsN a b m ≤ 10 * m := sets_len 0 a b ha m

set_option maxHeartbeats 2000000 in
theorem same_any (a b : List (List Int)) (ha : a.length ≤ 512) (hb : b.length ≤ 512) (ha10 : ∀ r ∈ a, r.length ≤ 10) (hab : ∀ i (h1 : i < a.length) (h2 : i < b.length), a[i].length ≤ b[i].length) (u v : Value) (S T : Nat → Prop) (w : World) (hu : RowsV S w u a) (hv : RowsV T w v b) :
    Calls Try.prog 35 #[u, v] w fun e w' => e = .returned (.int .i64 (sameL a b)) ∧ w = w' := by
  have hu0 := hu
  have hv0 := hv
  obtain ⟨aa, ca, rfl, hoka, hcapa, hmaxa⟩ := hu.form
  obtain ⟨ab, cb, rfl, hokb, hcapb, hmaxb⟩ := hv.form
  clear hu hv
  obtain ⟨mn, hmn⟩ : ∃ mn, mn = min a.length b.length := ⟨_, rfl⟩
  have hmn1 : mn ≤ a.length := by omega
  have hmn2 : mn ≤ b.length := by omega
  have HMN : Hid (sameL a b = (sameM a b mn).2) := hid (by unfold sameL; rw [hmn])
  have HM3 : Hid ((min (a.length : Int) (b.length : Int)) = (mn : Int)) := hid (by omega)
  have HB1 := hid (fun i (h : i ≤ mn) => (best_same (kind := 0) (a := a) (b := b) i (by omega) (by omega)).1)
  have HB2 : Hid (∀ i, i ≤ mn → (sameM a b i).1 ≤ 7000) := hid (fun i h => by
    rw [(best_same (kind := 0) (a := a) (b := b) i (by omega) (by omega)).2.2]
    have := bestM_len (kind := 0) (b := b) ha10 i (by omega)
    omega)
  rcases Nat.lt_or_ge b.length a.length with hle | hle
  case' inl => have hmn3 : b.length ≤ mn := by omega
  case' inr => have hmn3 : a.length ≤ mn := by omega
  all_goals
    clear hmn
    go_enter Try.func35, Try.ntmps35
    go_wp2
    go_loopw [5, 6, 7, 22] (fun be m c i wr => ∃ k : Nat, k ≤ mn ∧ i = .int .i64 k ∧ be = .int .i64 ((sameM a b k).1 : Nat) ∧ m = .int .i64 ((sameM a b k).2 : Nat) ∧ c = .int .i64 (setsN a b k : Nat) ∧ w = wr) (fun _ _ _ i _ => mn - (intOf i).toNat)
    case atStart => exact ⟨0, Nat.zero_le _, rfl, by simp [sameM], by simp [sameM], by simp [setsN, sets], rfl⟩
    case round =>
      obtain ⟨k, hk, rfl, rfl, rfl, rfl, rfl⟩ := hrel
      by_cases hlt : k < mn
      · have hia : k < a.length := by omega
        have hib : k < b.length := by omega
        have hab1 := hab k hia hib
        have hr10 := ha10 _ (List.getElem_mem hia)
        have HT := hid (setsN_succ a b k)
        have HS : Hid (sameM a b (k + 1) = if setsN a b (k + 1) + a.length + b.length - 2 * (k + 1) ≤ (sameM a b k).1 then (setsN a b (k + 1) + a.length + b.length - 2 * (k + 1), k + 1) else sameM a b k) := hid rfl
        have hsn1 := setsN_le a b ha10 k
        have hsn2 := setsN_le a b ha10 (k + 1)
        have hb1 := HB1.out k hk
        have hb2 := HB2.out k hk
        rw [getD_eq hia, getD_eq hib] at HT
        obtain ⟨ur, hcr, hbr, hrr⟩ := hu0.at hia
        obtain ⟨vr, hdr, hbr', hsr⟩ := hv0.at hib
        generalize a[k] = r at *
        generalize b[k] = s at *
        generalize hsn1e : setsN a b (k + 1) = sn1 at *
        have HSN1 := hid hsn1e
        clear hsn1e
        generalize setsN a b k = sn at *
        generalize hsm1e : sameM a b (k + 1) = sm1 at *
        have HSM1 := hid hsm1e
        clear hsm1e
        generalize sameM a b k = sm at *
        obtain ⟨be, m⟩ := sm
        simp only at hb1 hb2
        have hrr0 := hrr
        have hsr0 := hsr
        obtain ⟨ar, cr, rfl, hokr, hcapr, hmaxr⟩ := hrr.form
        obtain ⟨br, dr, rfl, hoks, hcaps, hmaxs⟩ := hsr.form
        clear hrr hsr hab
        have hi0 : (0 : Int) ≤ k := by omega
        have hi1 : (k : Int) < a.length := by omega
        have hi2 : (k : Int) < b.length := by omega
        go_wp2
        go_loopw [7, 30] (fun c j w2 => ∃ q : Nat, q ≤ r.length ∧ j = .int .i64 q ∧ c = .int .i64 ((sn + ((List.range q).filterMap (setAt 0 0 r s)).length : Nat) : Int) ∧ w = w2) (fun _ j _ => r.length - (intOf j).toNat)
        case atStart => exact ⟨0, by omega, rfl, by simp, rfl⟩
        case round =>
          obtain ⟨q, hq, rfl, rfl, rfl⟩ := hrel
          by_cases hqr : q < r.length
          · obtain ⟨x1, hx1, hbx, hx2⟩ := SlV.at hrr0 hqr
            obtain ⟨y1, hy1, hby, hy2⟩ := SlV.at hsr0 (show q < s.length by omega)
            have hf : setAt 0 0 r s q = if r[q] = s[q]'(by omega) then none else some ⟨0, 0, q, r[q], s[q]'(by omega), []⟩ := by
              unfold setAt; rw [getD_eq hqr, getD_eq (show q < s.length by omega)]
            have hfl : ((List.range q).filterMap (setAt 0 0 r s)).length ≤ q := by
              have := List.length_filterMap_le (setAt 0 0 r s) (List.range q)
              simpa using this
            generalize r[q] = x at *
            generalize s[q]'(by omega) = y at *
            subst hx2; subst hy2
            have hk0 : (0 : Int) ≤ q := by omega
            have hk1 : (q : Int) < r.length := by omega
            have hk2 : (q : Int) < s.length := by omega
            by_cases hxy : x = y
            · have HE := hid (filt_succ_none (f := setAt 0 0 r s) (k := q) (by rw [hf, if_pos hxy]))
              have hd : (y != x) = false := bneF hxy.symm
              rw [HE.out] at hfl ⊢
              generalize hfl2 : ((List.range (q + 1)).filterMap (setAt 0 0 r s)).length = fl at *
              have HFL := hid hfl2
              clear hf HE hxy hfl2
              go_wp2
              go_roundw
              case rel => exact ⟨q + 1, by omega, by go_num, by rw [HFL.out], by first | rfl | trivial⟩
              case measure => simp [intOf]; omega
            · have HE := hid (filt_succ_some (f := setAt 0 0 r s) (k := q) (by rw [hf, if_neg hxy]))
              have hd : (y != x) = true := bneT (fun e => hxy e.symm)
              have HFL : Hid (((List.range q).filterMap (setAt 0 0 r s)).length + 1 = ((List.range (q + 1)).filterMap (setAt 0 0 r s)).length) := hid (by rw [← HE.out, List.length_append]; rfl)
              clear hf HE hxy
              generalize ((List.range q).filterMap (setAt 0 0 r s)).length = fl at *
              go_wp2
              go_roundw
              case rel => exact ⟨q + 1, by omega, by go_num, by rw [← HFL.out]; go_num, by first | rfl | trivial⟩
              case measure => simp [intOf]; omega
          · obtain rfl : q = r.length := by omega
            have hle2 := List.length_filterMap_le (setAt 0 0 r s) (List.range r.length)
            simp only [List.length_range] at hle2
            generalize ((List.range r.length).filterMap (setAt 0 0 r s)).length = fl at *
            have HT1 : sn1 = sn + fl := HT.out
            subst HT1
            clear HT
            by_cases hle3 : sn + fl + a.length + b.length - 2 * (k + 1) ≤ be
            · have HS1 : Hid ((sm1.1 : Int) = (sn : Int) + fl + a.length + b.length - 2 * (k + 1) ∧ sm1.2 = k + 1) := hid (by rw [HS.out, if_pos hle3]; exact ⟨by simp only []; omega, rfl⟩)
              have hle4 : (sn : Int) + fl + a.length + b.length - 2 * (k + 1) ≤ be := by omega
              clear HS hle3
              go_wp2
              go_roundw
              case rel => exact ⟨k + 1, by omega, by go_num, by rw [HSM1.out, HS1.out.1], by rw [HSM1.out, HS1.out.2]; go_num, by rw [HSN1.out], by first | rfl | trivial⟩
              case measure => simp [intOf]; omega
            · have HS1 : Hid (sm1 = (be, m)) := hid (by rw [HS.out, if_neg hle3])
              have hle4 : ¬ (sn : Int) + fl + a.length + b.length - 2 * (k + 1) ≤ be := by omega
              clear HS hle3
              go_wp2
              go_roundw
              case rel => exact ⟨k + 1, by omega, by go_num, by rw [HSM1.out, HS1.out], by rw [HSM1.out, HS1.out], by rw [HSN1.out], by first | rfl | trivial⟩
              case measure => simp [intOf]; omega
      · obtain rfl : k = mn := by omega
        go_wp2
        go_ret
        exact ⟨by rw [HMN.out]; rfl, rfl⟩

end Go.Proofs.Ytagnjhhbbjbhcaa
