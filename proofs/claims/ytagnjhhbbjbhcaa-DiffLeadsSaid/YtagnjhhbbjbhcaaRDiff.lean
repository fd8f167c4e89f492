/- Diff of the reference. -/
import Derived.Test.YtagnjhhbbjbhcaaList
namespace Go.Proofs.Ytagnjhhbbjbhcaa
open Go.RowKit

/-- The best changes with m up to n; of several the one of the greatest m. -/
def bestM (kind : Int) (a b : List (List Int)) : Nat → List Chg
  | 0 => listL kind a b 0
  | n + 1 => if (listL kind a b (n + 1)).length ≤ (bestM kind a b n).length then listL kind a b (n + 1) else bestM kind a b n
def kindDiff (kind : Int) (a b : List (List Int)) : List Chg := bestM kind a b (min a.length b.length)
/-- The records of two lists of records have as many values. -/
def fitsK (a b : List (List Int)) : Prop := 0 < a.length → 0 < b.length → (a.headD []).length = (b.headD []).length
def diffOk (A B : List (List (List Int))) : Prop := ShapedW A ∧ ShapedW B ∧ A.length = B.length ∧ ∀ k, k < A.length → fitsK (A.getD k []) (B.getD k [])
instance (a b : List (List Int)) : Decidable (fitsK a b) := by unfold fitsK; exact inferInstance
instance (A B : List (List (List Int))) : Decidable (diffOk A B) := by unfold diffOk; exact inferInstance
def diffL (A B : List (List (List Int))) (n : Nat) : List Chg := (List.range n).flatMap fun k : Nat => kindDiff (k : Int) (A.getD k []) (B.getD k [])
def diffC (A B : List (List (List Int))) : List Chg := if diffOk A B then diffL A B A.length else []
def diffE (A B : List (List (List Int))) : Int := if diffOk A B then 0 else 2

theorem diffL_succ (A B : List (List (List Int))) (n : Nat) : diffL A B (n + 1) = diffL A B n ++ kindDiff n (A.getD n []) (B.getD n []) := by
  unfold diffL; rw [List.range_succ, List.flatMap_append]; simp

theorem listL_len {kind : Int} {a b : List (List Int)} {m : Nat} (ha : ∀ r ∈ a, r.length ≤ 10) (hm : m ≤ a.length) : (listL kind a b m).length ≤ 10 * a.length + a.length + b.length := by
  unfold listL takes adds
  have := sets_len kind a b ha m
  simp only [List.length_append, List.length_map, List.length_range]
  omega
theorem bestM_len {kind : Int} {a b : List (List Int)} (ha : ∀ r ∈ a, r.length ≤ 10) : ∀ m, m ≤ a.length → (bestM kind a b m).length ≤ 10 * a.length + a.length + b.length
  | 0, h => listL_len ha h
  | m + 1, h => by
    have h1 := bestM_len (kind := kind) (b := b) ha m (by omega)
    have h2 := listL_len (kind := kind) (b := b) ha h
    unfold bestM
    split <;> omega
theorem sum_ge {l : List Nat} {x : Nat} (h : x ∈ l) : x ≤ l.sum := by
  induction l with
  | nil => cases h
  | cons y l ih =>
    rw [List.sum_cons]
    rcases List.mem_cons.1 h with rfl | h
    · omega
    · have := ih h; omega
theorem shaped_kind {W : List (List (List Int))} (h : ShapedW W) {rows : List (List Int)} (hr : rows ∈ W) : rows.length ≤ 512 ∧ ∀ r ∈ rows, r.length ≤ 10 ∧ 1 ≤ r.length ∧ r.length = (rows.headD []).length := by
  refine ⟨?_, fun r hr' => ⟨(h.1 rows hr r hr').2.1, (h.1 rows hr r hr').1, (h.1 rows hr r hr').2.2⟩⟩
  have h1 := h.2.2
  unfold total at h1
  have := sum_ge (List.mem_map.2 ⟨rows, hr, rfl⟩ : rows.length ∈ W.map List.length)
  omega

set_option maxRecDepth 100000 in
set_option maxHeartbeats 2000000 in
theorem rdiff_any (A B : List (List (List Int))) (hA : Small A) (hB : Small B) (u v : Value) (S T : Nat → Prop) (w : World) (hu : WorldV S w u A) (hv : WorldV T w v B) :
    Calls Try.prog 13 #[u, v] w fun e w' => ∃ x, e = .returned (.tuple #[x, .int .i64 (diffE A B)]) ∧ ChV AnyB w' x (diffC A B) ∧ Below w.heap.size w w' := by
  have hu0 : WorldV (fun b => (S b ∨ T b) ∧ b < w.heap.size) w u A := WorldV.mono hu (fun b hb h => ⟨.inl h, hb⟩)
  have hv0 : WorldV (fun b => (S b ∨ T b) ∧ b < w.heap.size) w v B := WorldV.mono hv (fun b hb h => ⟨.inr h, hb⟩)
  obtain ⟨aa, ca, rfl, hoka, hcapa, hmaxa⟩ := hu.form
  obtain ⟨ab, cb, rfl, hokb, hcapb, hmaxb⟩ := hv.form
  clear hu hv
  have CA := fun W (h : WorldV (fun b => (S b ∨ T b) ∧ b < w.heap.size) W (.slice aa A.length ca) A) => hid (shapedR_any A hA _ _ W h)
  have CB := fun W (h : WorldV (fun b => (S b ∨ T b) ∧ b < w.heap.size) W (.slice ab B.length cb) B) => hid (shapedR_any B hB _ _ W h)
  by_cases h1 : ShapedW A
  · have HD1 := hid (decide_eq_true h1)
    by_cases h2 : ShapedW B
    · have HD2 := hid (decide_eq_true h2)
      by_cases h3 : A.length = B.length
      · have d3 : ((A.length : Int) != (B.length : Int)) = false := bneF (by omega)
        have hAB : A.length ≤ B.length := by omega
        have H12 := hid (show ShapedW A ∧ ShapedW B ∧ A.length = B.length from ⟨h1, h2, h3⟩)
        have hA6 := h1.2.1
        clear h1 h2 h3
        go_enter Try.func13, Try.ntmps13
        go_wp2_with fail
        refine (CA _ hu0).out.mono ?_
        rintro e w1 ⟨rfl, n1, rfl⟩
        rw [HD1.out]
        go_wp2_with fail
        refine (CB _ (hv0.keep (KeepS.below (below_drewN (Below.refl _ _) _)))).out.mono ?_
        rintro e w1 ⟨rfl, n2, rfl⟩
        rw [HD2.out]
        go_wp2
        go_loopw [6, 7] (fun x i wr => ∃ k : Nat, k ≤ A.length ∧ i = .int .i64 k ∧ OwnC AnyB w.heap.size 73 wr x (diffL A B k) ∧ (diffL A B k).length ≤ 7000 * k ∧ Hid (∀ j, j < k → fitsK (A.getD j []) (B.getD j [])) ∧ Below w.heap.size w wr) (fun _ i _ => A.length - (intOf i).toNat)
        case atStart => exact ⟨0, by omega, rfl, by simpa [diffL] using OwnC.nil _ _ _ _, by simp [diffL], hid (fun j h => by omega), below_drewN (Below.refl _ _) _⟩
        case round =>
          obtain ⟨k, hk, rfl, hown, hlen, hfit, hbl⟩ := hrel
          by_cases hlt : k < A.length
          · have hltB : k < B.length := by omega
            have HT := hid (diffL_succ A B k)
            have HN : Hid (¬ fitsK A[k] B[k] → ¬ diffOk A B) := hid (fun h q => h (by have := q.2.2.2 k hlt; rwa [getD_eq hlt, getD_eq hltB] at this))
            have HF1 : Hid (fitsK A[k] B[k] → ∀ j, j < k + 1 → fitsK (A.getD j []) (B.getD j [])) := hid (fun h j hj => by
              by_cases e : j < k
              · exact hfit.out j e
              · obtain rfl : j = k := by omega
                rw [getD_eq hlt, getD_eq hltB]; exact h)
            have hsa := shaped_kind H12.out.1 (List.getElem_mem hlt)
            have hsb := shaped_kind H12.out.2.1 (List.getElem_mem hltB)
            rw [getD_eq hlt, getD_eq hltB] at HT
            have hu1 : WorldV (fun b => (S b ∨ T b) ∧ b < w.heap.size) wr (.slice aa A.length ca) A := hu0.keep (KeepS.below hbl)
            have hv1 : WorldV (fun b => (S b ∨ T b) ∧ b < w.heap.size) wr (.slice ab B.length cb) B := hv0.keep (KeepS.below hbl)
            obtain ⟨ua, hca, hba, hra⟩ := hu1.at hlt
            obtain ⟨vb, hcb, hbb, hrb⟩ := hv1.at hltB
            generalize diffL A B k = pre at *
            generalize A[k] = a at *
            generalize B[k] = b at *
            have hra0 := hra
            have hrb0 := hrb
            obtain ⟨ak, cka, rfl, hoka1, hcapa1, hmaxa1⟩ := hra.form
            obtain ⟨bk, ckb, rfl, hokb1, hcapb1, hmaxb1⟩ := hrb.form
            clear hra hrb
            have hk0 : (0 : Int) ≤ k := by omega
            have hk1 : (k : Int) < A.length := by omega
            have hk2 : (k : Int) < B.length := by omega
            have hla := hsa.1
            have hlb := hsb.1
            have hbl0 := hbl.size
            obtain ⟨wo, rfl⟩ : ∃ wo : World, wo = wr := ⟨_, rfl⟩
            have three : (a.length = 0 ∨ (0 < a.length ∧ b.length = 0)) ∨ (0 < a.length ∧ 0 < b.length ∧ (a.headD []).length ≠ (b.headD []).length) ∨ (0 < a.length ∧ 0 < b.length ∧ (a.headD []).length = (b.headD []).length) := by omega
            rcases three with (ha0 | ⟨ha0, hb0⟩) | ⟨ha0, hb0, hne⟩ | ⟨ha0, hb0, heq⟩
            case' inr.inl =>
              have HX := hid (HN.out (fun h => hne (h ha0 hb0)))
              obtain ⟨ua0, hca0, hba0, hra1⟩ := hra0.at ha0
              obtain ⟨vb0, hcb0, hbb0, hrb1⟩ := hrb0.at hb0
              rw [headD_eq [] ha0, headD_eq [] hb0] at hne
              rw [Nat.add_zero] at hca0 hcb0
              generalize a[0] = a0 at *
              generalize b[0] = b0 at *
              obtain ⟨ak0, cka0, rfl, -, -, -⟩ := hra1.form
              obtain ⟨bk0, ckb0, rfl, -, -, -⟩ := hrb1.form
              have d1 : ((a0.length : Int) != (b0.length : Int)) = true := bneT (by omega)
              have d2 : decide ((0 : Int) < a.length) = true := by simpa using ha0
              have d3 : decide ((0 : Int) < b.length) = true := by simpa using hb0
              clear HF1 HT HN hne hra1 hrb1
              go_wp2
              go_quiet (fail)
              go_wp2
              go_ret2
              exact ⟨.slice none 0 0, by unfold diffE; rw [if_neg HX.out]; rfl, by unfold diffC; rw [if_neg HX.out]; exact ChV.nil _ _, below_drewN hbl _⟩
            case' inr.inr =>
              have HFK : Hid (fitsK a b) := hid (fun _ _ => heq)
              obtain ⟨ua0, hca0, hba0, hra1⟩ := hra0.at ha0
              obtain ⟨vb0, hcb0, hbb0, hrb1⟩ := hrb0.at hb0
              rw [headD_eq [] ha0, headD_eq [] hb0] at heq
              rw [Nat.add_zero] at hca0 hcb0
              generalize a[0] = a0 at *
              generalize b[0] = b0 at *
              obtain ⟨ak0, cka0, rfl, -, -, -⟩ := hra1.form
              obtain ⟨bk0, ckb0, rfl, -, -, -⟩ := hrb1.form
              have d1 : ((a0.length : Int) != (b0.length : Int)) = false := bneF (by omega)
              have d2 : decide ((0 : Int) < a.length) = true := by simpa using ha0
              have d3 : decide ((0 : Int) < b.length) = true := by simpa using hb0
              clear HN heq hra1 hrb1
              go_wp2
              go_quiet (fail)
              go_wp2
              clear d1 d2 d3 hca0 hcb0 hba0 hbb0
            case' inl.inl =>
              have HFK : Hid (fitsK a b) := hid (fun h _ => by omega)
              have d2 : decide ((0 : Int) < a.length) = false := decide_eq_false (by omega)
              have hal : a.length ≤ 0 := by omega
              clear HN ha0
              go_wp2
            case' inl.inr =>
              have HFK : Hid (fitsK a b) := hid (fun _ h => by omega)
              have d2 : decide ((0 : Int) < a.length) = true := by simpa using ha0
              have d3 : decide ((0 : Int) < b.length) = false := decide_eq_false (by omega)
              have hbz : b.length ≤ 0 := by omega
              clear HN hb0
              go_wp2
            case inl.inl =>
              have hra1 : ∀ n, RowsV (fun b => (S b ∨ T b) ∧ b < w.heap.size) (wo.drewN n) (.slice ak a.length cka) a := fun n => hra0.keep (KeepS.below (below_drewN (Below.refl _ _) _))
              have hrb1 : ∀ n, RowsV (fun b => (S b ∨ T b) ∧ b < w.heap.size) (wo.drewN n) (.slice bk b.length ckb) b := fun n => hrb0.keep (KeepS.below (below_drewN (Below.refl _ _) _))
              have HF2 := hid (HF1.out HFK.out)
              have ha10 : ∀ r ∈ a, r.length ≤ 10 := fun r hr => (hsa.2 r hr).1
              have hb10 : ∀ r ∈ b, r.length ≤ 10 := fun r hr => (hsb.2 r hr).1
              have hab : ∀ i (h1 : i < a.length) (h2 : i < b.length), a[i].length ≤ b[i].length := fun i h1 h2 => by
                rw [(hsa.2 _ (List.getElem_mem h1)).2.2, (hsb.2 _ (List.getElem_mem h2)).2.2, HFK.out (by omega) (by omega)]
                exact Nat.le_refl _
              have HAB := hid hab
              have HA10 := hid ha10
              have HB10 := hid hb10
              have HRA := hid hra1
              have HRB := hid hrb1
              clear hab ha10 hb10 hra1 hrb1 HF1 HFK hsa hsb hu1 hv1 CA CB
              refine wp_region_quiet_tail 9 (by kernel_rfl) (by kernel_rfl) ?_
              simp only [List.take_succ_cons, List.take_zero, List.drop_succ_cons, List.drop_zero]
              repeat (go_big_quiet_step (fail))
              refine wpQuiet_nil ?_
              go_wp2_with fail
              refine (list_any k a b 0 hla hlb HA10.out HB10.out (Nat.zero_le _) (Nat.zero_le _) (fun i h1 h2 h => absurd h (Nat.not_lt_zero _)) _ _ (fun b => (S b ∨ T b) ∧ b < w.heap.size) (fun b => (S b ∨ T b) ∧ b < w.heap.size) _ (HRA.out _) (HRB.out _)).mono ?_
              rintro e w2 ⟨x, rfl, hx, hb2⟩
              have hb3 : Below wo.heap.size wo w2 := (below_drewN (Below.refl _ _) _).trans hb2
              have hx1 : ChV (fun b => b < w.heap.size ∨ wo.heap.size ≤ b) w2 x (bestM k a b 0) := ChV.mono hx (fun b _ hb => by
                rcases hb with (hb | hb) | hb
                · exact .inl hb.2
                · exact .inl hb.2
                · exact .inr hb)
              clear hx hb2
              go_wp2
              go_loopw [8, 9] (fun x i wr => ∃ p : Nat, p ≤ a.length ∧ p ≤ b.length ∧ i = .int .i64 ((p : Int) + 1) ∧ ChV (fun b => b < w.heap.size ∨ wo.heap.size ≤ b) wr x (bestM k a b p) ∧ Below wo.heap.size wo wr) (fun _ i _ => (a.length + 1 - intOf i).toNat)
              case atStart => exact ⟨0, Nat.zero_le _, Nat.zero_le _, rfl, hx1, hb3⟩
              case round =>
                obtain ⟨p, hpa, hpb, rfl, hbest, hb4⟩ := hrel
                have hb4s := hb4.size
                have hca4 := cell_later hb4 hca
                have hcb4 := cell_later hb4 hcb
                have hba4 : slb aa < wr.heap.size := by omega
                have hbb4 : slb ab < wr.heap.size := by omega
                obtain ⟨ax, cx, rfl, -, -, -⟩ := hbest.form
                have HK : Hid (kindDiff k a b = bestM k a b p) := hid (by unfold kindDiff; rw [show min a.length b.length = p from by omega])
                have hlen5 := bestM_len (kind := k) (b := b) HA10.out p hpa
                rw [HK.out] at HT
                generalize bestM k a b p = ds at *
                obtain ⟨-, hokx, us', l1, l2, l3, l4⟩ := hbest.news
                have hown4 := hown.below hb4
                have hb5 := hbl.trans (hb4.mono hbl.size)
                have hu4 : ∀ j (h1 : j < us'.length) (h2 : j < ds.length), IntsV (fun b => AnyB b ∧ some b ≠ u6.ownBlock) wr us'[j] ds[j].values := fun j h1 h2 =>
                  IntsV.mono (l4 j h1 h2) (fun b _ hb => ⟨trivial, fun e => by
                    have := hown.lt b e
                    rcases hb with hb | hb <;> omega⟩)
                clear hbest
                go_wp2_with (at_builtin; go_must (refine wpList_appC rfl _ _ rfl Try.app34 rfl hown4 rfl hokx ds us' l1 rfl l2 l3 hu4 (by omega) (by omega) ?_))
                intro v' w3 hown5 ht
                rw [← HT.out] at hown5
                have hb6 : Below w.heap.size w w3 := hb5.trans (ht.below (by omega) (fun b hb' => (hown4.lt b hb').1))
                have hlen6 : (diffL A B (k + 1)).length ≤ 7000 * (k + 1) := by rw [HT.out, List.length_append]; omega
                clear hown4 hown hb4 hb5 hu4 l1 l2 l3 l4 ht hlen5 hlen HK hca4 hcb4
                go_wp2
                go_roundw
                case rel => exact ⟨k + 1, by omega, by go_num, hown5, hlen6, HF2, hb6⟩
                case measure => simp [intOf]; omega
            case inl.inr =>
              have hra1 : ∀ n, RowsV (fun b => (S b ∨ T b) ∧ b < w.heap.size) (wo.drewN n) (.slice ak a.length cka) a := fun n => hra0.keep (KeepS.below (below_drewN (Below.refl _ _) _))
              have hrb1 : ∀ n, RowsV (fun b => (S b ∨ T b) ∧ b < w.heap.size) (wo.drewN n) (.slice bk b.length ckb) b := fun n => hrb0.keep (KeepS.below (below_drewN (Below.refl _ _) _))
              have HF2 := hid (HF1.out HFK.out)
              have ha10 : ∀ r ∈ a, r.length ≤ 10 := fun r hr => (hsa.2 r hr).1
              have hb10 : ∀ r ∈ b, r.length ≤ 10 := fun r hr => (hsb.2 r hr).1
              have hab : ∀ i (h1 : i < a.length) (h2 : i < b.length), a[i].length ≤ b[i].length := fun i h1 h2 => by
                rw [(hsa.2 _ (List.getElem_mem h1)).2.2, (hsb.2 _ (List.getElem_mem h2)).2.2, HFK.out (by omega) (by omega)]
                exact Nat.le_refl _
              have HAB := hid hab
              have HA10 := hid ha10
              have HB10 := hid hb10
              have HRA := hid hra1
              have HRB := hid hrb1
              clear hab ha10 hb10 hra1 hrb1 HF1 HFK hsa hsb hu1 hv1 CA CB
              refine wp_region_quiet_tail 9 (by kernel_rfl) (by kernel_rfl) ?_
              simp only [List.take_succ_cons, List.take_zero, List.drop_succ_cons, List.drop_zero]
              repeat (go_big_quiet_step (fail))
              refine wpQuiet_nil ?_
              go_wp2_with fail
              refine (list_any k a b 0 hla hlb HA10.out HB10.out (Nat.zero_le _) (Nat.zero_le _) (fun i h1 h2 h => absurd h (Nat.not_lt_zero _)) _ _ (fun b => (S b ∨ T b) ∧ b < w.heap.size) (fun b => (S b ∨ T b) ∧ b < w.heap.size) _ (HRA.out _) (HRB.out _)).mono ?_
              rintro e w2 ⟨x, rfl, hx, hb2⟩
              have hb3 : Below wo.heap.size wo w2 := (below_drewN (Below.refl _ _) _).trans hb2
              have hx1 : ChV (fun b => b < w.heap.size ∨ wo.heap.size ≤ b) w2 x (bestM k a b 0) := ChV.mono hx (fun b _ hb => by
                rcases hb with (hb | hb) | hb
                · exact .inl hb.2
                · exact .inl hb.2
                · exact .inr hb)
              clear hx hb2
              go_wp2
              go_loopw [8, 9] (fun x i wr => ∃ p : Nat, p ≤ a.length ∧ p ≤ b.length ∧ i = .int .i64 ((p : Int) + 1) ∧ ChV (fun b => b < w.heap.size ∨ wo.heap.size ≤ b) wr x (bestM k a b p) ∧ Below wo.heap.size wo wr) (fun _ i _ => (a.length + 1 - intOf i).toNat)
              case atStart => exact ⟨0, Nat.zero_le _, Nat.zero_le _, rfl, hx1, hb3⟩
              case round =>
                obtain ⟨p, hpa, hpb, rfl, hbest, hb4⟩ := hrel
                have hb4s := hb4.size
                have hca4 := cell_later hb4 hca
                have hcb4 := cell_later hb4 hcb
                have hba4 : slb aa < wr.heap.size := by omega
                have hbb4 : slb ab < wr.heap.size := by omega
                obtain ⟨ax, cx, rfl, -, -, -⟩ := hbest.form
                have HK : Hid (kindDiff k a b = bestM k a b p) := hid (by unfold kindDiff; rw [show min a.length b.length = p from by omega])
                have hlen5 := bestM_len (kind := k) (b := b) HA10.out p hpa
                rw [HK.out] at HT
                generalize bestM k a b p = ds at *
                obtain ⟨-, hokx, us', l1, l2, l3, l4⟩ := hbest.news
                have hown4 := hown.below hb4
                have hb5 := hbl.trans (hb4.mono hbl.size)
                have hu4 : ∀ j (h1 : j < us'.length) (h2 : j < ds.length), IntsV (fun b => AnyB b ∧ some b ≠ u6.ownBlock) wr us'[j] ds[j].values := fun j h1 h2 =>
                  IntsV.mono (l4 j h1 h2) (fun b _ hb => ⟨trivial, fun e => by
                    have := hown.lt b e
                    rcases hb with hb | hb <;> omega⟩)
                clear hbest
                go_wp2_with (at_builtin; go_must (refine wpList_appC rfl _ _ rfl Try.app34 rfl hown4 rfl hokx ds us' l1 rfl l2 l3 hu4 (by omega) (by omega) ?_))
                intro v' w3 hown5 ht
                rw [← HT.out] at hown5
                have hb6 : Below w.heap.size w w3 := hb5.trans (ht.below (by omega) (fun b hb' => (hown4.lt b hb').1))
                have hlen6 : (diffL A B (k + 1)).length ≤ 7000 * (k + 1) := by rw [HT.out, List.length_append]; omega
                clear hown4 hown hb4 hb5 hu4 l1 l2 l3 l4 ht hlen5 hlen HK hca4 hcb4
                go_wp2
                go_roundw
                case rel => exact ⟨k + 1, by omega, by go_num, hown5, hlen6, HF2, hb6⟩
                case measure => simp [intOf]; omega
            case inr.inr =>
              have hra1 : ∀ n, RowsV (fun b => (S b ∨ T b) ∧ b < w.heap.size) (wo.drewN n) (.slice ak a.length cka) a := fun n => hra0.keep (KeepS.below (below_drewN (Below.refl _ _) _))
              have hrb1 : ∀ n, RowsV (fun b => (S b ∨ T b) ∧ b < w.heap.size) (wo.drewN n) (.slice bk b.length ckb) b := fun n => hrb0.keep (KeepS.below (below_drewN (Below.refl _ _) _))
              have HF2 := hid (HF1.out HFK.out)
              have ha10 : ∀ r ∈ a, r.length ≤ 10 := fun r hr => (hsa.2 r hr).1
              have hb10 : ∀ r ∈ b, r.length ≤ 10 := fun r hr => (hsb.2 r hr).1
              have hab : ∀ i (h1 : i < a.length) (h2 : i < b.length), a[i].length ≤ b[i].length := fun i h1 h2 => by
                rw [(hsa.2 _ (List.getElem_mem h1)).2.2, (hsb.2 _ (List.getElem_mem h2)).2.2, HFK.out (by omega) (by omega)]
                exact Nat.le_refl _
              have HAB := hid hab
              have HA10 := hid ha10
              have HB10 := hid hb10
              have HRA := hid hra1
              have HRB := hid hrb1
              clear hab ha10 hb10 hra1 hrb1 HF1 HFK hsa hsb hu1 hv1 CA CB
              refine wp_region_quiet_tail 9 (by kernel_rfl) (by kernel_rfl) ?_
              simp only [List.take_succ_cons, List.take_zero, List.drop_succ_cons, List.drop_zero]
              repeat (go_big_quiet_step (fail))
              refine wpQuiet_nil ?_
              go_wp2_with fail
              refine (list_any k a b 0 hla hlb HA10.out HB10.out (Nat.zero_le _) (Nat.zero_le _) (fun i h1 h2 h => absurd h (Nat.not_lt_zero _)) _ _ (fun b => (S b ∨ T b) ∧ b < w.heap.size) (fun b => (S b ∨ T b) ∧ b < w.heap.size) _ (HRA.out _) (HRB.out _)).mono ?_
              rintro e w2 ⟨x, rfl, hx, hb2⟩
              have hb3 : Below wo.heap.size wo w2 := (below_drewN (Below.refl _ _) _).trans hb2
              have hx1 : ChV (fun b => b < w.heap.size ∨ wo.heap.size ≤ b) w2 x (bestM k a b 0) := ChV.mono hx (fun b _ hb => by
                rcases hb with (hb | hb) | hb
                · exact .inl hb.2
                · exact .inl hb.2
                · exact .inr hb)
              clear hx hb2
              go_wp2
              go_loopw [8, 9] (fun x i wr => ∃ p : Nat, p ≤ a.length ∧ p ≤ b.length ∧ i = .int .i64 ((p : Int) + 1) ∧ ChV (fun b => b < w.heap.size ∨ wo.heap.size ≤ b) wr x (bestM k a b p) ∧ Below wo.heap.size wo wr) (fun _ i _ => (a.length + 1 - intOf i).toNat)
              case atStart => exact ⟨0, Nat.zero_le _, Nat.zero_le _, rfl, hx1, hb3⟩
              case round =>
                obtain ⟨p, hpa, hpb, rfl, hbest, hb4⟩ := hrel
                have hb4s := hb4.size
                have hca4 := cell_later hb4 hca
                have hcb4 := cell_later hb4 hcb
                have hba4 : slb aa < wr.heap.size := by omega
                have hbb4 : slb ab < wr.heap.size := by omega
                obtain ⟨ax, cx, rfl, -, -, -⟩ := hbest.form
                by_cases hp1 : p < a.length
                · by_cases hp2 : p < b.length
                  · have hra2 : ∀ n, Hid (RowsV (fun b => (S b ∨ T b) ∧ b < w.heap.size) (wr.drewN n) (.slice ak a.length cka) a) := fun n => hid (RowsV.keep hra0 (KeepS.below (below_drewN hb4 _)))
                    have hrb2 : ∀ n, Hid (RowsV (fun b => (S b ∨ T b) ∧ b < w.heap.size) (wr.drewN n) (.slice bk b.length ckb) b) := fun n => hid (RowsV.keep hrb0 (KeepS.below (below_drewN hb4 _)))
                    have HC : Hid (∀ (x : Value) (W : World), ChV (fun b => b < w.heap.size ∨ wo.heap.size ≤ b) W x (bestM k a b p) → (bestM k a b p).length < (listL k a b (p + 1)).length → ChV (fun b => b < w.heap.size ∨ wo.heap.size ≤ b) W x (bestM k a b (p + 1))) := hid (fun x W h h2 => by
                      show ChV _ W x (if _ then _ else _)
                      rw [if_neg (by omega)]; exact h)
                    have HC2 : Hid (∀ (x : Value) (W : World), ChV (fun b => b < w.heap.size ∨ wo.heap.size ≤ b) W x (listL k a b (p + 1)) → (listL k a b (p + 1)).length ≤ (bestM k a b p).length → ChV (fun b => b < w.heap.size ∨ wo.heap.size ≤ b) W x (bestM k a b (p + 1))) := hid (fun x W h h2 => by
                      show ChV _ W x (if _ then _ else _)
                      rw [if_pos h2]; exact h)
                    have HL := hid (fun n => list_any k a b (p + 1) hla hlb HA10.out HB10.out hp1 hp2 (fun i h1 h2 _ => HAB.out i h1 h2) _ _ (fun b => (S b ∨ T b) ∧ b < w.heap.size) (fun b => (S b ∨ T b) ∧ b < w.heap.size) _ (hra2 n).out (hrb2 n).out)
                    have hlenb := bestM_len (kind := k) (b := b) HA10.out p hpa
                    have hlenl := listL_len (kind := k) (b := b) HA10.out hp1
                    generalize bestM k a b p = ds at *
                    generalize listL k a b (p + 1) = ls at *
                    go_wp2
                    refine wp_region_quiet_tail 10 (by kernel_rfl) (by kernel_rfl) ?_
                    simp only [List.take_succ_cons, List.take_zero, List.drop_succ_cons, List.drop_zero]
                    repeat (go_big_quiet_step (fail))
                    refine wpQuiet_nil ?_
                    go_wp2_with fail
                    refine (HL.out _).mono ?_
                    rintro e w3 ⟨y, rfl, hy, hb5⟩
                    have hb6 : Below wo.heap.size wo w3 := hb4.trans (((below_drewN (Below.refl _ _) _).trans hb5).mono hb4s)
                    have hy1 : ChV (fun b => b < w.heap.size ∨ wo.heap.size ≤ b) w3 y ls := ChV.mono hy (fun b _ hb => by
                      rcases hb with (hb | hb) | hb
                      · exact .inl hb.2
                      · exact .inl hb.2
                      · exact .inr (Nat.le_trans hb4s hb))
                    have hbest3 : ChV (fun b => b < w.heap.size ∨ wo.heap.size ≤ b) w3 (.slice ax ds.length cx) ds := ChV.keep hbest (KeepS.below ((below_drewN (Below.refl _ _) _).trans hb5))
                    clear hy hb5 hbest
                    obtain ⟨ay, cy, rfl, -, -, -⟩ := hy1.form
                    by_cases hle : ls.length ≤ ds.length
                    · have hfin := hid (HC2.out _ _ hy1 hle)
                      clear HC HC2 HL hy1 hbest3 hra2 hrb2
                      go_wp2
                      go_roundw
                      case rel => exact ⟨p + 1, hp1, hp2, by go_num, hfin.out, hb6⟩
                      case measure => simp [intOf]; omega
                    · have hfin := hid (HC.out _ _ hbest3 (by omega))
                      clear HC HC2 HL hy1 hbest3 hra2 hrb2
                      go_wp2
                      go_roundw
                      case rel => exact ⟨p + 1, hp1, hp2, by go_num, hfin.out, hb6⟩
                      case measure => simp [intOf]; omega
                  · have HK : Hid (kindDiff k a b = bestM k a b p) := hid (by unfold kindDiff; rw [show min a.length b.length = p from by omega])
                    have hlen5 := bestM_len (kind := k) (b := b) HA10.out p hpa
                    rw [HK.out] at HT
                    generalize bestM k a b p = ds at *
                    obtain ⟨-, hokx, us', l1, l2, l3, l4⟩ := hbest.news
                    have hown4 := hown.below hb4
                    have hb5 := hbl.trans (hb4.mono hbl.size)
                    have hu4 : ∀ j (h1 : j < us'.length) (h2 : j < ds.length), IntsV (fun b => AnyB b ∧ some b ≠ u6.ownBlock) wr us'[j] ds[j].values := fun j h1 h2 =>
                      IntsV.mono (l4 j h1 h2) (fun b _ hb => ⟨trivial, fun e => by
                        have := hown.lt b e
                        rcases hb with hb | hb <;> omega⟩)
                    clear hbest
                    go_wp2_with (at_builtin; go_must (refine wpList_appC rfl _ _ rfl Try.app34 rfl hown4 rfl hokx ds us' l1 rfl l2 l3 hu4 (by omega) (by omega) ?_))
                    intro v' w3 hown5 ht
                    rw [← HT.out] at hown5
                    have hb6 : Below w.heap.size w w3 := hb5.trans (ht.below (by omega) (fun b hb' => (hown4.lt b hb').1))
                    have hlen6 : (diffL A B (k + 1)).length ≤ 7000 * (k + 1) := by rw [HT.out, List.length_append]; omega
                    clear hown4 hown hb4 hb5 hu4 l1 l2 l3 l4 ht hlen5 hlen HK hca4 hcb4
                    go_wp2
                    go_roundw
                    case rel => exact ⟨k + 1, by omega, by go_num, hown5, hlen6, HF2, hb6⟩
                    case measure => simp [intOf]; omega
                · have HK : Hid (kindDiff k a b = bestM k a b p) := hid (by unfold kindDiff; rw [show min a.length b.length = p from by omega])
                  have hlen5 := bestM_len (kind := k) (b := b) HA10.out p hpa
                  rw [HK.out] at HT
                  generalize bestM k a b p = ds at *
                  obtain ⟨-, hokx, us', l1, l2, l3, l4⟩ := hbest.news
                  have hown4 := hown.below hb4
                  have hb5 := hbl.trans (hb4.mono hbl.size)
                  have hu4 : ∀ j (h1 : j < us'.length) (h2 : j < ds.length), IntsV (fun b => AnyB b ∧ some b ≠ u6.ownBlock) wr us'[j] ds[j].values := fun j h1 h2 =>
                    IntsV.mono (l4 j h1 h2) (fun b _ hb => ⟨trivial, fun e => by
                      have := hown.lt b e
                      rcases hb with hb | hb <;> omega⟩)
                  clear hbest
                  go_wp2_with (at_builtin; go_must (refine wpList_appC rfl _ _ rfl Try.app34 rfl hown4 rfl hokx ds us' l1 rfl l2 l3 hu4 (by omega) (by omega) ?_))
                  intro v' w3 hown5 ht
                  rw [← HT.out] at hown5
                  have hb6 : Below w.heap.size w w3 := hb5.trans (ht.below (by omega) (fun b hb' => (hown4.lt b hb').1))
                  have hlen6 : (diffL A B (k + 1)).length ≤ 7000 * (k + 1) := by rw [HT.out, List.length_append]; omega
                  clear hown4 hown hb4 hb5 hu4 l1 l2 l3 l4 ht hlen5 hlen HK hca4 hcb4
                  go_wp2
                  go_roundw
                  case rel => exact ⟨k + 1, by omega, by go_num, hown5, hlen6, HF2, hb6⟩
                  case measure => simp [intOf]; omega
          · have HOK : Hid (diffOk A B) := hid ⟨H12.out.1, H12.out.2.1, H12.out.2.2, fun j hj => hfit.out j (by omega)⟩
            obtain rfl : k = A.length := by omega
            have hres : ChV AnyB wr u6 (diffC A B) := by unfold diffC; rw [if_pos HOK.out]; exact ChV.mono hown.sl (fun _ _ _ => trivial)
            have HE : Hid (diffE A B = 0) := hid (by unfold diffE; rw [if_pos HOK.out])
            clear hown
            go_wp2
            go_ret2
            exact ⟨u6, by rw [HE.out]; rfl, hres, hbl⟩
      · have HX : Hid (¬ diffOk A B) := hid (fun q => h3 q.2.2.1)
        have d3 : ((A.length : Int) != (B.length : Int)) = true := bneT (by omega)
        clear h3
        go_enter Try.func13, Try.ntmps13
        go_wp2_with fail
        refine (CA _ hu0).out.mono ?_
        rintro e w1 ⟨rfl, n1, rfl⟩
        rw [HD1.out]
        go_wp2_with fail
        refine (CB _ (hv0.keep (KeepS.below (below_drewN (Below.refl _ _) _)))).out.mono ?_
        rintro e w1 ⟨rfl, n2, rfl⟩
        rw [HD2.out]
        go_wp2
        go_ret2
        exact ⟨.slice none 0 0, by unfold diffE; rw [if_neg HX.out]; rfl, by unfold diffC; rw [if_neg HX.out]; exact ChV.nil _ _, below_drewN (Below.refl _ _) _⟩
    · have HX : Hid (¬ diffOk A B) := hid (fun q => h2 q.2.1)
      have HD := hid (decide_eq_false h2)
      clear h2
      go_enter Try.func13, Try.ntmps13
      go_wp2_with fail
      refine (CA _ hu0).out.mono ?_
      rintro e w1 ⟨rfl, n1, rfl⟩
      rw [HD1.out]
      go_wp2_with fail
      refine (CB _ (hv0.keep (KeepS.below (below_drewN (Below.refl _ _) _)))).out.mono ?_
      rintro e w1 ⟨rfl, n2, rfl⟩
      rw [HD.out]
      go_wp2
      go_ret2
      exact ⟨.slice none 0 0, by unfold diffE; rw [if_neg HX.out]; rfl, by unfold diffC; rw [if_neg HX.out]; exact ChV.nil _ _, below_drewN (Below.refl _ _) _⟩
  · have HX : Hid (¬ diffOk A B) := hid (fun q => h1 q.1)
    have HD := hid (decide_eq_false h1)
    clear h1
    go_enter Try.func13, Try.ntmps13
    go_wp2_with fail
    refine (CA _ hu0).out.mono ?_
    rintro e w1 ⟨rfl, n1, rfl⟩
    rw [HD.out]
    go_wp2
    go_ret2
    exact ⟨.slice none 0 0, by unfold diffE; rw [if_neg HX.out]; rfl, by unfold diffC; rw [if_neg HX.out]; exact ChV.nil _ _, below_drewN (Below.refl _ _) _⟩

end Go.Proofs.Ytagnjhhbbjbhcaa
