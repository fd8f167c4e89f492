/- Shaped of the reference. -/
import Derived.Test.YtagnjhhbbjbhcaaCopy
namespace Go.Proofs.Ytagnjhhbbjbhcaa
open Go.RowKit

/-- The records of a kind have 1 to 10 values, and as many as the first one. -/
def RowOk (rows : List (List Int)) (r : List Int) : Prop := 1 ≤ r.length ∧ r.length ≤ 10 ∧ r.length = (rows.headD []).length
def total (W : List (List (List Int))) : Nat := (W.map List.length).sum
/-- A world is well shaped. -/
def ShapedW (W : List (List (List Int))) : Prop := (∀ rows ∈ W, ∀ r ∈ rows, RowOk rows r) ∧ W.length ≤ 6 ∧ total W ≤ 512
instance (rows : List (List Int)) (r : List Int) : Decidable (RowOk rows r) := by unfold RowOk; exact inferInstance
instance (W : List (List (List Int))) : Decidable (ShapedW W) := by unfold ShapedW; exact inferInstance

theorem total_succ {W : List (List (List Int))} {k : Nat} (h : k < W.length) : total (W.take (k + 1)) = total (W.take k) + W[k].length := by
  unfold total
  rw [← take_snoc h, List.map_append, List.sum_append]
  simp

theorem forall_take_succ {α : Type} {xs : List α} {P : α → Prop} {k : Nat} (h : k < xs.length) (h1 : ∀ x ∈ xs.take k, P x) (h2 : P xs[k]) : ∀ x ∈ xs.take (k + 1), P x := by
  rw [← take_snoc h]
  intro x hx
  rcases List.mem_append.1 hx with hx | hx
  · exact h1 x hx
  · rw [List.mem_singleton.1 hx]; exact h2

theorem total_le {W : List (List (List Int))} (h : ∀ rows ∈ W, rows.length ≤ 100000) : total W ≤ 100000 * W.length := by
  unfold total
  induction W with
  | nil => simp
  | cons r W ih =>
    have := ih (fun x hx => h x (List.mem_cons_of_mem _ hx))
    have := h r (List.mem_cons_self ..)
    simp
    omega

theorem headD_eq {α : Type} {xs : List α} (d : α) (h : 0 < xs.length) : xs.headD d = xs[0] := by
  cases xs with
  | nil => simp at h
  | cons x xs => rfl

set_option maxHeartbeats 1000000 in
theorem shapedR_any (W : List (List (List Int))) (hW : Small W) (u : Value) (T : Nat → Prop) (w : World) (hu : WorldV T w u W) :
    Calls Try.prog 36 #[u] w fun e w' => e = .returned (.bool (decide (ShapedW W))) ∧ ∃ n, w' = w.drewN n := by
  have hu0 := hu
  obtain ⟨a, cap, rfl, hok, hcap, hmax⟩ := hu.form
  clear hu
  have hn := hW.1
  go_enter Try.func36, Try.ntmps36
  go_wp2
  go_loopw [3, 4] (fun c i wr => ∃ k t : Nat, k ≤ W.length ∧ i = .int .i64 k ∧ c = .int .i64 t ∧ t ≤ 100000 * k ∧ Hid (t = total (W.take k)) ∧ Hid (∀ rows ∈ W.take k, ∀ r ∈ rows, RowOk rows r) ∧ ∃ m, wr = w.drewN m) (fun _ i _ => W.length - (intOf i).toNat)
  case atStart => exact ⟨0, 0, by omega, rfl, rfl, by omega, hid (by simp [total]), hid (by simp), 0, rfl⟩
  case round =>
    obtain ⟨k, t, hk, rfl, rfl, htk, ht, hall, m, rfl⟩ := hrel
    by_cases hlt : k < W.length
    · obtain ⟨uk, hck, hbk, hrk⟩ := hu0.at hlt
      have hWk := hW.2 _ (List.getElem_mem hlt)
      have HT := hid (total_succ hlt)
      have HA : Hid (∀ (p : ∀ r ∈ W[k], RowOk W[k] r), ∀ rows ∈ W.take (k + 1), ∀ r ∈ rows, RowOk rows r) := hid (fun p => forall_take_succ hlt hall.out p)
      have HM := hid (List.getElem_mem hlt)
      generalize W[k] = rows at *
      have hrk0 := hrk
      obtain ⟨ak, ck, rfl, hokk, hcapk, hmaxk⟩ := hrk.form
      clear hrk
      have hrows := hWk.1
      go_wp2
      go_loopw [3, 5] (fun c i w2 => ∃ j : Nat, j ≤ rows.length ∧ i = .int .i64 j ∧ c = .int .i64 ((t : Int) + j) ∧ Hid (∀ r ∈ rows.take j, RowOk rows r) ∧ ∃ m, w2 = w.drewN m) (fun _ i _ => rows.length - (intOf i).toNat)
      case atStart => exact ⟨0, by omega, rfl, by simp, hid (by simp), m, rfl⟩
      case round =>
        obtain ⟨j, hj, rfl, rfl, hall2, m2, rfl⟩ := hrel
        by_cases hjr : j < rows.length
        · obtain ⟨ur, hcr, hbr, hrr⟩ := hrk0.at hjr
          obtain ⟨u0, hc0, hb0, hr0⟩ := hrk0.at (show 0 < rows.length by omega)
          have HH := hid (headD_eq ([] : List Int) (show 0 < rows.length by omega))
          have HA2 : Hid (∀ (p : RowOk rows rows[j]), ∀ r ∈ rows.take (j + 1), RowOk rows r) := hid (fun p => forall_take_succ hjr hall2.out p)
          have HN : Hid (¬ RowOk rows rows[j] → ¬ ShapedW W) := hid (fun p q => p (q.1 rows HM.out _ (List.getElem_mem hjr)))
          generalize rows[j] = r at *
          generalize rows[0] = r0 at *
          obtain ⟨ar, cr, rfl, -, -, -⟩ := hrr.form
          obtain ⟨a0, c0, rfl, -, -, -⟩ := hr0.form
          clear hrr hr0
          rw [Nat.add_zero] at hc0
          have hk0 : (0 : Int) ≤ k := by omega
          have hk1 : (k : Int) < W.length := by omega
          have hj0 : (0 : Int) ≤ j := by omega
          have hj1 : (j : Int) < rows.length := by omega
          have hz1 : 0 < rows.length := by omega
          by_cases h1 : r.length < 1
          · have g1 : (r.length : Int) < 1 := by omega
            have d1 : decide ((r.length : Int) < 1) = true := by simpa using g1
            have HF : Hid (¬ ShapedW W) := hid (HN.out (fun q => by have := q.1; omega))
            clear HN HA2 HA HT HH HM
            go_wp2
            go_quiet (fail)
            go_wp2
            go_ret
            exact ⟨ret_bool (decide_eq_false HF.out).symm, by rw [World.drewN_drewN]; exact ⟨_, rfl⟩⟩
          · have g1 : ¬ ((r.length : Int) < 1) := by omega
            have g1' : 1 ≤ (r.length : Int) := by omega
            have d1 : decide ((r.length : Int) < 1) = false := by simpa using g1
            by_cases h2 : 10 < r.length
            · have g2 : (10 : Int) < r.length := by omega
              have d2 : decide ((10 : Int) < r.length) = true := by simpa using g2
              have HF : Hid (¬ ShapedW W) := hid (HN.out (fun q => by have := q.2.1; omega))
              clear HN HA2 HA HT HH HM h1 h2 g1
              go_wp2
              go_quiet (fail)
              go_wp2
              go_ret
              exact ⟨ret_bool (decide_eq_false HF.out).symm, by rw [World.drewN_drewN]; exact ⟨_, rfl⟩⟩
            · have g2 : (r.length : Int) ≤ 10 := by omega
              have d2 : decide ((10 : Int) < r.length) = false := by simpa using g2
              by_cases h3 : r.length = r0.length
              · have d3 : ((r.length : Int) != (r0.length : Int)) = false := bneF (by omega)
                have HG := hid (HA2.out ⟨by omega, by omega, by rw [HH.out]; exact h3⟩)
                clear HN HA2 HA HT HH HM h1 h2 g1 h3
                go_wp2
                go_quiet (fail)
                go_wp2
                go_roundw
                case rel => exact ⟨j + 1, by omega, by go_num, by go_num, HG, _, rfl⟩
                case measure => simp [intOf]; omega
              · have d3 : ((r.length : Int) != (r0.length : Int)) = true := bneT (by omega)
                have HF : Hid (¬ ShapedW W) := hid (HN.out (fun q => by have := q.2.2; rw [HH.out] at this; exact h3 this))
                clear HN HA2 HA HT HH HM h1 h2 g1 h3
                go_wp2
                go_quiet (fail)
                go_wp2
                go_ret
                exact ⟨ret_bool (decide_eq_false HF.out).symm, by rw [World.drewN_drewN]; exact ⟨_, rfl⟩⟩
        · obtain rfl : j = rows.length := by omega
          rw [List.take_length] at hall2
          have HG := hid (HA.out hall2.out)
          have HT2 : Hid (t + rows.length = total (W.take (k + 1))) := hid (by rw [HT.out, ht.out])
          clear HA HT HM
          go_wp2
          go_roundw
          case rel => exact ⟨k + 1, t + rows.length, by omega, by go_num, by go_num, by omega, HT2, HG, _, rfl⟩
          case measure => simp [intOf]; omega
    · obtain rfl : k = W.length := by omega
      have hall1 := hall.out
      have ht1 := ht.out
      rw [List.take_length] at hall1 ht1
      have HF : Hid (decide (ShapedW W) = (decide ((W.length : Int) ≤ 6) && decide ((t : Int) ≤ 512))) := hid (by
        rw [← Bool.decide_and]
        refine decide_eq_decide.2 ⟨fun q => ⟨by have := q.2.1; omega, by have := q.2.2; omega⟩, fun q => ⟨hall1, by have := q.1; omega, by have := q.2; omega⟩⟩)
      clear hall ht hall1 ht1
      by_cases h1 : (W.length : Int) ≤ 6
      · go_wp2
        go_ret
        exact ⟨ret_bool (by rw [HF.out, decide_eq_true h1]; rfl), _, rfl⟩
      · go_wp2
        go_ret
        exact ⟨ret_bool (by rw [HF.out, decide_eq_false (by omega)]; rfl), _, rfl⟩

end Go.Proofs.Ytagnjhhbbjbhcaa
