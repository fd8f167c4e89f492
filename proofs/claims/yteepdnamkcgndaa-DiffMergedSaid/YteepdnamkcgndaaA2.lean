/- Copy: a world of the call's own. Shaped of the reference. Regions that draw their order: first operations that only read (in every world of a class), then operations in one order that may make memory; the operations from n on wait for all others. Changes in memory: rows of six cells. plain and own: the changes of the one package as those of the other. own: the changes of the one package as those of the other. Same, SameAll: changes are compared. SameAll: two lists of changes are compared. SameWorld: two worlds are compared. -/
import Derived.Test.YteepdnamkcgndaaA1
import Derived.StillTail
import Derived.BigQuiet
import Derived.Deep.QuietTactic
namespace Go.Proofs.Yteepdnamkcgndaa
open Go.RowKit

/-- No part of a world is large. -/
def Small (W : List (List (List Int))) : Prop := W.length ≤ 100000 ∧ ∀ rows ∈ W, rows.length ≤ 100000 ∧ ∀ r ∈ rows, r.length ≤ 100000

/-- An element of a slice: its cell; the block is there. -/
theorem SlV.at {α : Type} {R : World → Value → α → Prop} {S : Nat → Prop} {w : World} {a : Option Addr} {n cap : Nat} {xs : List α} (h : SlV R S w (.slice a n cap) xs) {j : Nat} (hj : j < xs.length) :
    ∃ u, w.cell? ⟨slb a, slo a + j, none⟩ = some u ∧ slb a < w.heap.size ∧ R w u xs[j] := by
  obtain ⟨a', cap', hv, h1, h2, h3, h4, h5⟩ := h
  cases hv
  obtain ⟨u, hu, hr⟩ := h5 j hj
  exact ⟨u, hu, World.block_lt_of_cell? w ⟨slb a, slo a + j, none⟩ hu, hr⟩

/-- The value is a slice. -/
theorem SlV.form {α : Type} {R : World → Value → α → Prop} {S : Nat → Prop} {w : World} {v : Value} {xs : List α} (h : SlV R S w v xs) :
    ∃ a cap, v = .slice a xs.length cap ∧ Slok a xs.length ∧ xs.length ≤ cap ∧ cap ≤ 9223372036854775807 := by
  obtain ⟨a, cap, hv, h1, h2, h3, _⟩ := h
  exact ⟨a, cap, hv, h1, h2, by unfold maxLen at h3; omega⟩

theorem take_snoc {α : Type} {xs : List α} {k : Nat} (h : k < xs.length) : xs.take k ++ [xs[k]] = xs.take (k + 1) := (List.take_succ_eq_append_getElem h).symm

set_option maxHeartbeats 1000000 in
theorem copy_any (W : List (List (List Int))) (hW : Small W) (u : Value) (T : Nat → Prop) (w : World) (hu : WorldV T w u W) :
    Calls Try.prog 21 #[u] w fun e w' => ∃ x, e = .returned x ∧ WorldF (w.heap.size ≤ ·) w' x W ∧ Below w.heap.size w w' := by
  have hu0 := hu
  obtain ⟨a, cap, rfl, hok, hcap, hmax⟩ := hu.form
  clear hu
  have hn := hW.1
  go_enter Try.func21, Try.ntmps21
  go_wp2
  go_loopw [3, 4] (fun x i wr => ∃ k : Nat, k ≤ W.length ∧ i = .int .i64 k ∧ WorldF (w.heap.size ≤ ·) wr x (W.take k) ∧ Below w.heap.size w wr) (fun _ i _ => W.length - (intOf i).toNat)
  case atStart => exact ⟨0, by omega, rfl, OwnF.nil _ _ _ _, Below.refl _ _⟩
  case round =>
    obtain ⟨k, hk, rfl, hown, hb⟩ := hrel
    by_cases hlt : k < W.length
    · have hu1 : WorldV T wr (.slice a W.length cap) W := hu0.keep (KeepS.below hb)
      obtain ⟨uk, hck, hbk, hrk⟩ := hu1.at hlt
      have hWk := hW.2 _ (List.getElem_mem hlt)
      have HT := hid (take_snoc hlt)
      have hlen : (W.take k).length ≤ k := by simp; omega
      generalize W.take k = Wk at *
      generalize W[k] = rows at *
      have hrk0 := hrk
      obtain ⟨ak, ck, rfl, hokk, hcapk, hmaxk⟩ := hrk.form
      clear hrk
      have hrows := hWk.1
      obtain ⟨wo, rfl⟩ : ∃ wo : World, wo = wr := ⟨_, rfl⟩
      go_wp2
      go_loopw [5, 6] (fun x i w2 => ∃ j : Nat, j ≤ rows.length ∧ i = .int .i64 j ∧ RowsF (wo.heap.size ≤ ·) w2 x (rows.take j) ∧ Below wo.heap.size wo w2) (fun _ i _ => rows.length - (intOf i).toNat)
      case atStart => exact ⟨0, by omega, rfl, OwnF.nil _ _ _ _, Below.refl _ _⟩
      case round =>
        obtain ⟨j, hj, rfl, hown2, hb2⟩ := hrel
        have hsz2 := hb2.size
        have hck2 : wr.cell? ⟨slb a, slo a + k, none⟩ = some (.slice ak rows.length ck) := cell_later hb2 hck
        have hbk2 : slb a < wr.heap.size := by omega
        by_cases hjr : j < rows.length
        · have hrk2 : RowsV T wr (.slice ak rows.length ck) rows := hrk0.keep (KeepS.below hb2)
          obtain ⟨ur, hcr, hbr, hrr⟩ := hrk2.at hjr
          have hrj := hWk.2 _ (List.getElem_mem hjr)
          have HT2 := hid (take_snoc hjr)
          have hlen2 : (rows.take j).length ≤ j := by simp; omega
          generalize rows.take j = rj at *
          generalize rows[j] = r at *
          have hrr0 := hrr
          obtain ⟨ar, cr, rfl, hokr, hcapr, hmaxr⟩ := hrr.form
          clear hrr
          have hI : IntsF (wr.heap.size ≤ ·) (wr.alloc (.cells #[] 3)) (.slice (some ⟨wr.heap.size, 0, none⟩) 0 0) [] :=
            ⟨World.ownsRow_made wr #[] 0 (Nat.zero_le _) (Nat.zero_le _) (by simp), fun b hb => by simp [Value.ownBlock] at hb; omega⟩
          have hrr1 : IntsV T (wr.alloc (.cells #[] 3)) (.slice ar r.length cr) r := hrr0.keep (KeepS.below ((Below.refl _ _).alloc (Nat.le_refl _) _))
          go_wp2_with (at_builtin; refine wpList_appI rfl _ _ rfl Try.app22 rfl hI (Below.refl _ _) rfl hrr1 (by simp; omega) ?_)
          intro v1 w1 hI1 ht1
          have hI2 : IntsF (wr.heap.size ≤ ·) w1 v1 r := by
            have := steady_intsF.mono hI1 (fun b _ hb => grow_from (by simp) b hb)
            simpa using this
          have hb3 : Below wr.heap.size wr w1 := ((Below.refl _ _).alloc (Nat.le_refl _) _).trans (ht1.below (by simp) (fun b hb => by simp [Value.ownBlock] at hb; omega))
          clear hI hI1 hrr1 ht1
          have hsl := hI2.sl
          obtain ⟨av, cv, rfl, -, -, -⟩ := hsl.form
          clear hsl
          go_wp2_with (at_builtin; refine wpList_appF1 steady_intsF rfl _ _ rfl Try.app63 rfl hown2 hb3 rfl r hI2 rfl (by omega) ?_)
          intro v2 w3 hown3 ht3
          have hown4 : RowsF (wo.heap.size ≤ ·) w3 v2 (rj ++ [r]) := steady_rowsF.mono hown3 (fun b _ hb => grow_from (by omega) b hb)
          have hb4 : Below wo.heap.size wo w3 := (hb2.trans (hb3.mono hb2.size)).trans (ht3.below (by have := hb3.size; omega) (fun b hb => hown2.1 b hb.symm))
          rw [HT2.out] at hown4
          clear hown2 hown3 ht3 hb3 hI2 hrk2 hcr hrr0
          go_wp2
          go_roundw
          case rel => exact ⟨j + 1, by omega, by go_num, hown4, hb4⟩
          case measure => simp [intOf]; omega
        · obtain rfl : j = rows.length := by omega
          rw [List.take_length] at hown2
          have hb5 := hb.trans (hb2.mono hb.size)
          have hsl := hown2.sl
          obtain ⟨av, cv, rfl, -, -, -⟩ := hsl.form
          clear hsl
          go_wp2_with (at_builtin; refine wpList_appF1 steady_rowsF rfl _ _ rfl Try.app25 rfl hown hb2 rfl rows hown2 rfl (by omega) ?_)
          intro v2 w3 hown3 ht3
          have hown4 : WorldF (w.heap.size ≤ ·) w3 v2 (Wk ++ [rows]) := steady_worldF.mono hown3 (fun b _ hb' => grow_from hb.size b hb')
          have hb4 : Below w.heap.size w w3 := hb5.trans (ht3.below (by have := hb5.size; omega) (fun b hb => hown.1 b hb.symm))
          rw [HT.out] at hown4
          clear hown hown2 hown3 ht3 hrk0 hck2
          go_wp2
          go_roundw
          case rel => exact ⟨k + 1, by omega, by go_num, hown4, hb4⟩
          case measure => simp [intOf]; omega
    · obtain rfl : k = W.length := by omega
      rw [List.take_length] at hown
      go_wp2
      go_ret
      exact ⟨_, rfl, hown, hb⟩

end Go.Proofs.Yteepdnamkcgndaa

namespace Go.Proofs.Yteepdnamkcgndaa
open Go.RowKit

/-- The records of a kind have 1 to 10 values, and as many as the first one. -/
def RowOk (rows : List (List Int)) (r : List Int) : Prop := 1 ≤ r.length ∧ r.length ≤ 10 ∧ r.length = (rows.headD []).length
def total (W : List (List (List Int))) : Nat := (W.map List.length).sum
/-- A world is well shaped. -/
def ShapedW (W : List (List (List Int))) : Prop := (∀ rows ∈ W, ∀ r ∈ rows, RowOk rows r) ∧ W.length ≤ 6 ∧ total W ≤ 512
instance (rows : List (List Int)) (r : List Int) : Decidable (RowOk rows r) := by unfold RowOk; exact inferInstance
instance (W : List (List (List Int))) : Decidable (ShapedW W) := by unfold ShapedW; exact inferInstance

theorem total_succ {W : List (List (List Int))} {k : Nat} (h : k < W.length) : total (W.take (k + 1)) = total (W.take k) + W[k].length := by
  unfold total
  rw [← take_snoc h, List.map_append, List.sum_append]
  simp

theorem forall_take_succ {α : Type} {xs : List α} {P : α → Prop} {k : Nat} (h : k < xs.length) (h1 : ∀ x ∈ xs.take k, P x) (h2 : P xs[k]) : ∀ x ∈ xs.take (k + 1), P x := by
  rw [← take_snoc h]
  intro x hx
  rcases List.mem_append.1 hx with hx | hx
  · exact h1 x hx
  · rw [List.mem_singleton.1 hx]; exact h2

theorem total_le {W : List (List (List Int))} (h : ∀ rows ∈ W, rows.length ≤ 100000) : total W ≤ 100000 * W.length := by
  unfold total
  induction W with
  | nil => simp
  | cons r W ih =>
    have := ih (fun x hx => h x (List.mem_cons_of_mem _ hx))
    have := h r (List.mem_cons_self ..)
    simp
    omega

theorem headD_eq {α : Type} {xs : List α} (d : α) (h : 0 < xs.length) : xs.headD d = xs[0] := by
  cases xs with
  | nil => simp at h
  | cons x xs => rfl

set_option maxHeartbeats 1000000 in
theorem shapedR_any (W : List (List (List Int))) (hW : Small W) (u : Value) (T : Nat → Prop) (w : World) (hu : WorldV T w u W) :
    Calls Try.prog 19 #[u] w fun e w' => e = .returned (.bool (decide (ShapedW W))) ∧ ∃ n, w' = w.drewN n := by
  have hu0 := hu
  obtain ⟨a, cap, rfl, hok, hcap, hmax⟩ := hu.form
  clear hu
  have hn := hW.1
  go_enter Try.func19, Try.ntmps19
  go_wp2
  go_loopw [3, 4] (fun c i wr => ∃ k t : Nat, k ≤ W.length ∧ i = .int .i64 k ∧ c = .int .i64 t ∧ t ≤ 100000 * k ∧ Hid (t = total (W.take k)) ∧ Hid (∀ rows ∈ W.take k, ∀ r ∈ rows, RowOk rows r) ∧ ∃ m, wr = w.drewN m) (fun _ i _ => W.length - (intOf i).toNat)
  case atStart => exact ⟨0, 0, by omega, rfl, rfl, by omega, hid (by simp [total]), hid (by simp), 0, rfl⟩
  case round =>
    obtain ⟨k, t, hk, rfl, rfl, htk, ht, hall, m, rfl⟩ := hrel
    by_cases hlt : k < W.length
    · obtain ⟨uk, hck, hbk, hrk⟩ := hu0.at hlt
      have hWk := hW.2 _ (List.getElem_mem hlt)
      have HT := hid (total_succ hlt)
      have HA : Hid (∀ (p : ∀ r ∈ W[k], RowOk W[k] r), ∀ rows ∈ W.take (k + 1), ∀ r ∈ rows, RowOk rows r) := hid (fun p => forall_take_succ hlt hall.out p)
      have HM := hid (List.getElem_mem hlt)
      generalize W[k] = rows at *
      have hrk0 := hrk
      obtain ⟨ak, ck, rfl, hokk, hcapk, hmaxk⟩ := hrk.form
      clear hrk
      have hrows := hWk.1
      go_wp2
      go_loopw [3, 5] (fun c i w2 => ∃ j : Nat, j ≤ rows.length ∧ i = .int .i64 j ∧ c = .int .i64 ((t : Int) + j) ∧ Hid (∀ r ∈ rows.take j, RowOk rows r) ∧ ∃ m, w2 = w.drewN m) (fun _ i _ => rows.length - (intOf i).toNat)
      case atStart => exact ⟨0, by omega, rfl, by simp, hid (by simp), m, rfl⟩
      case round =>
        obtain ⟨j, hj, rfl, rfl, hall2, m2, rfl⟩ := hrel
        by_cases hjr : j < rows.length
        · obtain ⟨ur, hcr, hbr, hrr⟩ := hrk0.at hjr
          obtain ⟨u0, hc0, hb0, hr0⟩ := hrk0.at (show 0 < rows.length by omega)
          have HH := hid (headD_eq ([] : List Int) (show 0 < rows.length by omega))
          have HA2 : Hid (∀ (p : RowOk rows rows[j]), ∀ r ∈ rows.take (j + 1), RowOk rows r) := hid (fun p => forall_take_succ hjr hall2.out p)
          have HN : Hid (¬ RowOk rows rows[j] → ¬ ShapedW W) := hid (fun p q => p (q.1 rows HM.out _ (List.getElem_mem hjr)))
          generalize rows[j] = r at *
          generalize rows[0] = r0 at *
          obtain ⟨ar, cr, rfl, -, -, -⟩ := hrr.form
          obtain ⟨a0, c0, rfl, -, -, -⟩ := hr0.form
          clear hrr hr0
          rw [Nat.add_zero] at hc0
          have hk0 : (0 : Int) ≤ k := by omega
          have hk1 : (k : Int) < W.length := by omega
          have hj0 : (0 : Int) ≤ j := by omega
          have hj1 : (j : Int) < rows.length := by omega
          have hz1 : 0 < rows.length := by omega
          by_cases h1 : r.length < 1
          · have g1 : (r.length : Int) < 1 := by omega
            have d1 : decide ((r.length : Int) < 1) = true := by simpa using g1
            have HF : Hid (¬ ShapedW W) := hid (HN.out (fun q => by have := q.1; omega))
            clear HN HA2 HA HT HH HM
            go_wp2
            go_quiet (fail)
            go_wp2
            go_ret
            exact ⟨ret_bool (decide_eq_false HF.out).symm, by rw [World.drewN_drewN]; exact ⟨_, rfl⟩⟩
          · have g1 : ¬ ((r.length : Int) < 1) := by omega
            have g1' : 1 ≤ (r.length : Int) := by omega
            have d1 : decide ((r.length : Int) < 1) = false := by simpa using g1
            by_cases h2 : 10 < r.length
            · have g2 : (10 : Int) < r.length := by omega
              have d2 : decide ((10 : Int) < r.length) = true := by simpa using g2
              have HF : Hid (¬ ShapedW W) := hid (HN.out (fun q => by have := q.2.1; omega))
              clear HN HA2 HA HT HH HM h1 h2 g1
              go_wp2
              go_quiet (fail)
              go_wp2
              go_ret
              exact ⟨ret_bool (decide_eq_false HF.out).symm, by rw [World.drewN_drewN]; exact ⟨_, rfl⟩⟩
            · have g2 : (r.length : Int) ≤ 10 := by omega
              have d2 : decide ((10 : Int) < r.length) = false := by simpa using g2
              by_cases h3 : r.length = r0.length
              · have d3 : ((r.length : Int) != (r0.length : Int)) = false := bneF (by omega)
                have HG := hid (HA2.out ⟨by omega, by omega, by rw [HH.out]; exact h3⟩)
                clear HN HA2 HA HT HH HM h1 h2 g1 h3
                go_wp2
                go_quiet (fail)
                go_wp2
                go_roundw
                case rel => exact ⟨j + 1, by omega, by go_num, by go_num, HG, _, rfl⟩
                case measure => simp [intOf]; omega
              · have d3 : ((r.length : Int) != (r0.length : Int)) = true := bneT (by omega)
                have HF : Hid (¬ ShapedW W) := hid (HN.out (fun q => by have := q.2.2; rw [HH.out] at this; exact h3 this))
                clear HN HA2 HA HT HH HM h1 h2 g1 h3
                go_wp2
                go_quiet (fail)
                go_wp2
                go_ret
                exact ⟨ret_bool (decide_eq_false HF.out).symm, by rw [World.drewN_drewN]; exact ⟨_, rfl⟩⟩
        · obtain rfl : j = rows.length := by omega
          rw [List.take_length] at hall2
          have HG := hid (HA.out hall2.out)
          have HT2 : Hid (t + rows.length = total (W.take (k + 1))) := hid (by rw [HT.out, ht.out])
          clear HA HT HM
          go_wp2
          go_roundw
          case rel => exact ⟨k + 1, t + rows.length, by omega, by go_num, by go_num, by omega, HT2, HG, _, rfl⟩
          case measure => simp [intOf]; omega
    · obtain rfl : k = W.length := by omega
      have hall1 := hall.out
      have ht1 := ht.out
      rw [List.take_length] at hall1 ht1
      have HF : Hid (decide (ShapedW W) = (decide ((W.length : Int) ≤ 6) && decide ((t : Int) ≤ 512))) := hid (by
        rw [← Bool.decide_and]
        refine decide_eq_decide.2 ⟨fun q => ⟨by have := q.2.1; omega, by have := q.2.2; omega⟩, fun q => ⟨hall1, by have := q.1; omega, by have := q.2; omega⟩⟩)
      clear hall ht hall1 ht1
      by_cases h1 : (W.length : Int) ≤ 6
      · go_wp2
        go_ret
        exact ⟨ret_bool (by rw [HF.out, decide_eq_true h1]; rfl), _, rfl⟩
      · go_wp2
        go_ret
        exact ⟨ret_bool (by rw [HF.out, decide_eq_false (by omega)]; rfl), _, rfl⟩

end Go.Proofs.Yteepdnamkcgndaa

namespace Go.Proofs.Yteepdnamkcgndaa
open Go.RowKit

section
variable {P : Program} {ops : Array Oper} {md : Region.Mode} {C : World → Prop}

/-- Nothing but the way on. -/
def QN (K : Act → World → Prop) : Exit → Act → World → Prop
  | .normal, a, w => K a w
  | _, _, _ => False

theorem letsOut_QN {K : Act → World → Prop} : ¬ LetsOut (QN K) := by
  rintro ⟨a, w, h⟩
  exact h

/-- Operation i is carried out; it leaves a world of the class. -/
def hOp (P : Program) (ops : Array Oper) (C : World → Prop) (i : Nat) (K : Act → World → Prop) (a : Act) (w : World) : Prop :=
  wpOp P ops (QN fun _ _ => False) i (fun a' w' => C w' ∧ K a' w') a w

theorem hOp_mono {i : Nat} {a : Act} {w : World} {K K' : Act → World → Prop} (h : ∀ a w, C w → K a w → K' a w) (hh : hOp P ops C i K a w) : hOp P ops C i K' a w :=
  wpOp_mono (fun a w hk => ⟨hk.1, h a w hk.1 hk.2⟩) hh

theorem wp_exit {o : Oper} {a : Act} {w : World} {K : Act → World → Prop} {Q Q' : Exit → Act → World → Prop} (hp : ∀ c a w, Q (.panic c) a w → Q' (.panic c) a w) (ho : LetsOut Q → LetsOut Q')
    (h : o.wp P a w K Q) : o.wp P a w K Q' := by
  unfold Oper.wp at *
  generalize (execOp a.eval o).run P w = r at *
  cases r with
  | ok n w' =>
    cases n <;> simp only [Oper.upon] at h ⊢
    case enter f args =>
      refine Calls.mono h fun e w'' he => ?_
      cases e with
      | returned u => exact he
      | panicked c => exact hp _ _ _ he
      | outgrown => exact ho he
    all_goals exact h
  | halt x w' =>
    cases x <;> simp only [Oper.upon] at h ⊢
    case panic u => exact hp _ _ _ h

theorem wpOp_exit {i : Nat} {a : Act} {w : World} {K : Act → World → Prop} {Q Q' : Exit → Act → World → Prop} (hp : ∀ c a w, Q (.panic c) a w → Q' (.panic c) a w) (ho : LetsOut Q → LetsOut Q')
    (h : wpOp P ops Q i K a w) : wpOp P ops Q' i K a w := by
  unfold wpOp at *
  split
  · rename_i hi; simp only [hi] at h; exact h
  · rename_i o hi
    simp only [hi] at h
    split
    · rename_i hw
      simp only [hw, if_true] at h
      rcases h with h | ⟨h1, h2⟩
      · exact .inl (wp_exit hp ho h)
      · exact .inr ⟨h1, ho h2⟩
    · rename_i hw
      simp only [hw] at h
      exact h

/-- In every world of the class the operation yields v, and turns nothing. -/
def YieldsC (P : Program) (ops : Array Oper) (C : World → Prop) (o : Oper) (v : Value) (a : Act) : Prop :=
  (Region.wanted o (yielded ops a.tmps) = true ∧ ∀ w, C w → (execOp a.eval o).run P w = .ok (.value v) w) ∨
  (Region.wanted o (yielded ops a.tmps) = false ∧ v = undef)

theorem YieldsC.wpOp {i : Nat} {o : Oper} {v : Value} {a : Act} (hi : ops[i]? = some o) (hy : YieldsC P ops C o v a) {K : Act → World → Prop} {Q : Exit → Act → World → Prop} {w : World} (hC : C w) (h : K (a.put o.dst v) w) :
    wpOp P ops Q i K a w := by
  unfold Go.wpOp
  simp only [hi]
  rcases hy with ⟨hw, hv⟩ | ⟨hw, rfl⟩
  · simp only [hw, if_true, Oper.wp, hv w hC, Oper.upon]; exact .inl h
  · simp only [hw, Bool.false_eq_true, if_false]; exact h

theorem YieldsC.of_same {o : Oper} {v : Value} {a a' : Act} (hy : YieldsC P ops C o v a) (he : execOp a'.eval o = execOp a.eval o)
    (hw : Region.wanted o (yielded ops a'.tmps) = Region.wanted o (yielded ops a.tmps)) : YieldsC P ops C o v a' := by
  unfold YieldsC at *
  rw [he, hw]
  exact hy

theorem hOp_put {j : Nat} {oi oj : Oper} {v : Value} (hj : ops[j]? = some oj) (hap : oi.apart ops oj = true)
    (hsi : ∀ cs b, oi.op ≠ .select cs b) (hsj : ∀ cs b, oj.op ≠ .select cs b) {K : Act → World → Prop} {a : Act} {w : World}
    (hy : YieldsC P ops C oi v a) (h : hOp P ops C j K (a.put oi.dst v) w) :
    hOp P ops C j (fun a' w' => YieldsC P ops C oi v a' ∧ K (a'.put oi.dst v) w') a w := by
  obtain ⟨h1, h2, h3⟩ := Oper.apart_spec hap
  have keep : ∀ (a : Act), YieldsC P ops C oi v a → ∀ u, YieldsC P ops C oi v (a.put oj.dst u) := fun a hy u =>
    hy.of_same (execOp_put oi hsi a oj.dst u h3) (wanted_put oi a oj.dst u h3)
  have keepD : ∀ d, YieldsC P ops C oi v { a with defers := d :: a.defers } := fun d => hy.of_same rfl rfl
  unfold hOp wpOp at *
  simp only [hj] at *
  rw [wanted_put oj a oi.dst v h1] at h
  split
  · rename_i hw
    simp only [hw, if_true] at h
    rcases h with h | ⟨_, hlets⟩
    case inr => exact absurd hlets letsOut_QN
    refine .inl ?_
    unfold Oper.wp at *
    rw [execOp_put oj hsj a oi.dst v h1] at h
    generalize (execOp a.eval oj).run P w = r at *
    cases r with
    | ok n w' =>
      cases n <;> simp only [Oper.upon] at h ⊢
      case value u => exact ⟨h.1, keep a hy u, by rw [← Act.put_comm a v u h2]; exact h.2⟩
      case skip => exact ⟨h.1, keep a hy _, by rw [← Act.put_comm a v undef h2]; exact h.2⟩
      case defer d =>
        refine ⟨h.1, keep _ (keepD d) _, ?_⟩
        rw [← Act.put_comm _ v undef h2, ← Act.put_defers]
        exact h.2
      case enter f args =>
        refine Calls.mono h fun e w'' he => ?_
        cases e with
        | returned u => exact ⟨he.1, keep a hy u, by rw [← Act.put_comm a v u h2]; exact he.2⟩
        | panicked c => exact he
        | outgrown => exact he
      case row row args => exact Rows.mono h fun u w'' he => ⟨he.1, keep a hy u, by rw [← Act.put_comm a v u h2]; exact he.2⟩
    | halt x w' =>
      cases x <;> simp only [Oper.upon] at h ⊢
      case panic u => exact h
  · rename_i hw
    simp only [hw] at h
    exact ⟨h.1, keep a hy _, by rw [← Act.put_comm a v undef h2]; exact h.2⟩

/-- Whatever order of the first n operations; then L. -/
def wpAnyH (P : Program) (md : Region.Mode) (ops : Array Oper) (C : World → Prop) (n : Nat) (L : Array Bool → Act → World → Prop) : Nat → Array Bool → Act → World → Prop
  | 0, listed, a, w => L listed a w
  | f + 1, listed, a, w =>
    Region.ready md ops listed ≠ [] ∧ ∀ i ∈ Region.ready md ops listed, i < n ∧ hOp P ops C i (wpAnyH P md ops C n L f (listed.setIfInBounds i true)) a w

theorem wpAny_of_headH {n g : Nat} {L : Array Bool → Act → World → Prop} {Q' : Exit → Act → World → Prop} (hL : ∀ listed a w, L listed a w → wpAny P md ops Q' g listed a w) :
    ∀ (f : Nat) (listed : Array Bool) (a : Act) (w : World), wpAnyH P md ops C n L f listed a w → wpAny P md ops Q' (f + g) listed a w
  | 0, listed, a, w, h => by rw [Nat.zero_add]; exact hL _ _ _ h
  | f + 1, listed, a, w, h => by
    rw [show f + 1 + g = (f + g) + 1 by omega]
    exact ⟨fun h0 => absurd h0 h.1, fun i hi => wpOp_exit (fun _ _ _ hf => absurd hf (by simp [QN])) (fun hl => absurd hl letsOut_QN) (wpOp_mono (fun a' w' h' => wpAny_of_headH hL f _ a' w' h'.2) (h.2 i hi).2)⟩

theorem wpAnyH_first {n i : Nat} {oi : Oper} {v : Value} {L : Array Bool → Act → World → Prop} (hi : ops[i]? = some oi) (hsel : ∀ (j : Nat) (o : Oper) cs b, ops[j]? = some o → o.op ≠ .select cs b)
    (hs : Region.sinkB md ops n = true) (hc : Region.chainB md ops n = true) (hn : n < ops.size) (hin : i < n)
    (hdone : ∀ listed a w, L listed a w → ∀ j ∈ Region.ready md ops listed, n ≤ j) :
    ∀ (f : Nat) (listed : Array Bool) (a : Act) (w : World), C w → HeadInv md ops n listed →
      (∀ j oj, ops[j]? = some oj → j ≠ i → listed.getD j true = false → (∀ e ∈ oj.after, Region.binds md e = true → e.on ≠ i) → oi.apart ops oj = true) →
      i ∈ Region.ready md ops listed → YieldsC P ops C oi v a →
      wpAnyH P md ops C n L f (listed.setIfInBounds i true) (a.put oi.dst v) w → wpAnyH P md ops C n L (f + 1) listed a w := by
  intro f
  induction f with
  | zero =>
    intro listed a w hCw inv _ hr hy H
    have hun := (mem_ready.1 hr).1
    refine ⟨fun h => (by rw [h] at hr; cases hr), fun j hj => ?_⟩
    have hjn : j < n := by
      rcases Nat.lt_or_ge j n with h | h
      · exact h
      · exact absurd hj (tail_waits hs hc hn inv _ i rfl hin hun j h)
    refine ⟨hjn, ?_⟩
    by_cases hji : j = i
    · subst hji; exact hy.wpOp hi hCw ⟨hCw, H⟩
    · have := hdone _ _ _ H j (ready_mono hj hji)
      omega
  | succ f ih =>
    intro listed a w hCw inv hfree hr hy H
    have hun := (mem_ready.1 hr).1
    refine ⟨fun h => (by rw [h] at hr; cases hr), fun j hj => ?_⟩
    have hjn : j < n := by
      rcases Nat.lt_or_ge j n with h | h
      · exact h
      · exact absurd hj (tail_waits hs hc hn inv _ i rfl hin hun j h)
    refine ⟨hjn, ?_⟩
    by_cases hji : j = i
    · subst hji; exact hy.wpOp hi hCw ⟨hCw, H⟩
    · have h1 := (H.2 j (ready_mono hj hji)).2
      obtain ⟨hjun, oj, hoj, hall⟩ := mem_ready.1 hj
      have hnot : ∀ e ∈ oj.after, Region.binds md e = true → e.on ≠ i := fun e he hb heq => by
        have h1 := hall e he hb
        rw [heq, getD_both hun] at h1
        cases h1
      have h2 := hOp_put hoj (hfree j oj hoj hji hjun hnot) (fun cs b => hsel i oi cs b hi) (fun cs b => hsel j oj cs b hoj) hy h1
      have hfree' : ∀ k ok, ops[k]? = some ok → k ≠ i → (listed.setIfInBounds j true).getD k true = false →
          (∀ e ∈ ok.after, Region.binds md e = true → e.on ≠ i) → oi.apart ops ok = true := fun k ok hk hki hun hno => by
        refine hfree k ok hk hki ?_ hno
        by_cases hjk : j = k
        · subst hjk; exact hjun
        · rw [getD_set_ne true hjk] at hun; exact hun
      refine hOp_mono (fun a' w' hCw' h3 => ih (listed.setIfInBounds j true) a' w' hCw' (inv.set hj hjn) hfree' (ready_mono hr (Ne.symm hji)) h3.1 ?_) h2
      rw [Array.setIfInBounds_comm _ _ hji]
      exact h3.2

/-- Operations that call no Go function. -/
def quietOp : Op → Bool
  | .move _ | .assign _ | .pick .. | .load .. | .binOp .. | .unOp .. | .build .. | .fieldAddr .. | .field .. | .indexAddr .. | .index .. | .slice .. | .extract .. | .convert .. => true
  | .call { callee := .builtin .len, .. } | .call { callee := .builtin .cap, .. } | .call { callee := .builtin .min, .. } | .call { callee := .builtin .max, .. } => true
  | _ => false

theorem noEnter_v {s : Sem Value} {w w' : World} {nx : Next} (hn : ∀ v, nx ≠ .value v) : (do pure (Next.value (← s)) : Sem Next).run P w ≠ .ok nx w' := by
  rw [Sem.run_bind]
  cases s.run P w with
  | ok a w1 => intro e; cases e; exact hn _ rfl
  | halt h w1 => intro e; cases e

theorem noEnter_if {s : Sem Bool} {x y : Value} {w w' : World} {nx : Next} (hn : ∀ v, nx ≠ .value v) : (do pure (Next.value (if ← s then x else y)) : Sem Next).run P w ≠ .ok nx w' := by
  rw [Sem.run_bind]
  cases s.run P w with
  | ok a w1 => intro e; cases e; exact hn _ rfl
  | halt h w1 => intro e; cases e

theorem quietOp_noEnter {o : Oper} (h : quietOp o.op = true) {ρ : Operand → Value} {w w' : World} {nx : Next} (hn : ∀ v, nx ≠ .value v) : (execOp ρ o).run P w ≠ .ok nx w' := by
  unfold execOp
  generalize o.op = op at *
  unfold quietOp at h
  split at h
  all_goals first
    | exact noEnter_v hn
    | exact noEnter_if hn
    | (intro e; cases e; exact hn _ rfl)
    | (simp only [resolve, invoke, builtin]; exact noEnter_v hn)
    | (exact absurd h (by simp))

/-- Of the frame at the end, once every operation of the list has been carried out or passed over. -/
theorem wpAnyH_take {n i : Nat} {oi : Oper} {v : Value} {L : Array Bool → Act → World → Prop} {f : Nat} {listed : Array Bool} {a : Act} {w : World} (hi : ops[i]? = some oi)
    (hsel : Region.noSelect ops = true) (hs : Region.sinkB md ops n = true) (hc : Region.chainB md ops n = true) (hn : n < ops.size) (hin : i < n)
    (hdone : ∀ listed a w, L listed a w → ∀ j ∈ Region.ready md ops listed, n ≤ j) (hCw : C w) (inv : HeadInv md ops n listed) (hf : Region.free md ops listed i = true) (hr : (Region.ready md ops listed).contains i = true)
    (hy : YieldsC P ops C oi v a) (h : wpAnyH P md ops C n L f (listed.setIfInBounds i true) (a.put oi.dst v) w) : wpAnyH P md ops C n L (f + 1) listed a w :=
  wpAnyH_first hi (Region.noSelect_spec hsel) hs hc hn hin hdone f listed a w hCw inv (Region.free_spec hi hf) (by simpa using hr) hy h

/-- The operations of a chain, each alone; then the rest. -/
def wpChain (P : Program) (ops : Array Oper) (C : World → Prop) (R : Act → World → Prop) : List Oper → Act → World → Prop
  | [], a, w => R a w
  | o :: l, a, w => wpList P ops (QN fun a' w' => C w' ∧ wpChain P ops C R l a' w') [o] a w

/-- Operations k, k + 1, ..: the first ones only read, and are taken first; the others of the first n come one behind the other. -/
def Region.headB (md : Region.Mode) (ops : Array Oper) (n : Nat) : (f q k : Nat) → Array Bool → Bool
  | 0, _, k, listed => k == n && Region.seqB md ops (ops.size - n) n listed
  | f + 1, 0, k, listed => decide (Region.ready md ops listed = [k]) && decide (k < n) && Region.headB md ops n f 0 (k + 1) (listed.setIfInBounds k true)
  | f + 1, q + 1, k, listed => (Region.ready md ops listed).contains k && Region.free md ops listed k && decide (k < n) && ((ops[k]?).map (fun o => quietOp o.op)).getD false && Region.headB md ops n f q (k + 1) (listed.setIfInBounds k true)

/-- The Bool of the law: m operations that only read, then c of a chain, then those that wait for all. -/
def Region.chainTailB (md : Region.Mode) (ops : Array Oper) (m c : Nat) : Bool :=
  Region.noSelect ops && decide (m + c < ops.size) && Region.sinkB md ops (m + c) && Region.chainB md ops (m + c) && Region.headB md ops (m + c) (m + c) m 0 (Array.replicate ops.size false)

theorem seqB_ge {n g k : Nat} {listed : Array Bool} (h : Region.seqB md ops g k listed = true) (hk : n ≤ k) : ∀ j ∈ Region.ready md ops listed, n ≤ j := by
  intro j hj
  have := seqB_ready h j hj
  omega

theorem wpOp_of_list {k : Nat} {o : Oper} {a : Act} {w : World} {K : Act → World → Prop} (hk : ops[k]? = some o) (h : wpList P ops (QN fun a' w' => C w' ∧ K a' w') [o] a w) : hOp P ops C k K a w := by
  unfold hOp wpOp
  simp only [hk]
  unfold wpList at h
  split
  · rename_i hw
    rw [if_pos hw] at h
    rcases h with h | ⟨_, h2⟩
    · refine .inl (wp_exit (Q := QN fun a' w' => C w' ∧ K a' w') (fun _ _ _ hf => hf) (fun hl => absurd hl letsOut_QN) ?_)
      exact Oper.wp_mono (fun a' w' h' => h') h
    · exact absurd h2 letsOut_QN
  · rename_i hw
    rw [if_neg hw] at h
    exact h

theorem wpAnyH_walk {n : Nat} {Lq : Act → World → Prop} (hsel : Region.noSelect ops = true) (hs : Region.sinkB md ops n = true) (hc : Region.chainB md ops n = true) (hn : n < ops.size) {w : World} (hC : C w) :
    ∀ (q c k : Nat) (listed : Array Bool) (a : Act), HeadInv md ops n listed → k + q + c = n → Region.headB md ops n (q + c) q k listed = true →
    wpQuiet P ops C (fun a' => wpChain P ops C Lq ((ops.toList.drop (k + q)).take c) a' w) ((ops.toList.drop k).take q) a →
    wpAnyH P md ops C n (fun listed' a' w' => Region.seqB md ops (ops.size - n) n listed' = true ∧ Lq a' w') (q + c) listed a w
  | q + 1, c, k, listed, a, inv, hk, hB, h => by
    rw [show q + 1 + c = (q + c) + 1 by omega] at hB
    simp only [Region.headB, Bool.and_eq_true, decide_eq_true_eq] at hB
    obtain ⟨⟨⟨⟨hr, hf⟩, hkn⟩, hq⟩, hB⟩ := hB
    have hks : k < ops.toList.length := by simp; omega
    have h0 : ops[k]? = some (ops.toList[k]'hks) := by simp
    generalize ops.toList[k]'hks = o at h0
    have hd : ops.toList.drop k = o :: ops.toList.drop (k + 1) := by
      rw [List.drop_eq_getElem_cons hks]
      congr 1
      have : ops[k]? = some (ops.toList[k]'hks) := by simp
      exact Option.some.inj (this.symm.trans h0)
    rw [hd, List.take_succ_cons] at h
    have hqo : quietOp o.op = true := by rw [h0] at hq; simpa using hq
    have e1 : k + (q + 1) = k + 1 + q := by omega
    rw [e1] at h
    rw [show q + 1 + c = (q + c) + 1 by omega]
    unfold wpQuiet at h
    split at h
    · rename_i hw
      obtain ⟨v, h1, h2⟩ := h
      have hy : YieldsC P ops C o v a := .inl ⟨hw, fun w1 hC1 => by
        have g := h1 w1 hC1
        unfold Oper.quietAt at g
        generalize hr1 : (execOp a.eval o).run P w1 = r at g ⊢
        cases r with
        | ok nx w2 =>
          cases nx with
          | value u => obtain ⟨e1, e2⟩ := g; rw [e1, e2]
          | _ => exact absurd hr1 (quietOp_noEnter hqo (by intro v; simp))
        | halt x w2 => exact g.elim⟩
      exact wpAnyH_take h0 hsel hs hc hn hkn (fun listed' a' w' hL => seqB_ge hL.1 (Nat.le_refl _)) hC inv hf hr hy
        (wpAnyH_walk hsel hs hc hn hC q c (k + 1) _ _ (inv.set (by simpa using hr) hkn) (by omega) hB h2)
    · rename_i hw
      exact wpAnyH_take h0 hsel hs hc hn hkn (fun listed' a' w' hL => seqB_ge hL.1 (Nat.le_refl _)) hC inv hf hr (.inr ⟨by simpa using hw, rfl⟩)
        (wpAnyH_walk hsel hs hc hn hC q c (k + 1) _ _ (inv.set (by simpa using hr) hkn) (by omega) hB h)
  | 0, c + 1, k, listed, a, inv, hk, hB, h => by
    rw [show 0 + (c + 1) = c + 1 by omega] at hB
    simp only [Region.headB, Bool.and_eq_true, decide_eq_true_eq] at hB
    obtain ⟨⟨hr, hkn⟩, hB⟩ := hB
    have hks : k < ops.toList.length := by simp; omega
    have h0 : ops[k]? = some (ops.toList[k]'hks) := by simp
    have hd : ops.toList.drop k = ops.toList[k]'hks :: ops.toList.drop (k + 1) := List.drop_eq_getElem_cons hks
    generalize ops.toList[k]'hks = o at h0 hd
    rw [List.take_zero] at h
    have h' : wpChain P ops C Lq ((ops.toList.drop k).take (c + 1)) a w := h
    rw [hd, List.take_succ_cons] at h'
    rw [show 0 + (c + 1) = (0 + c) + 1 by omega]
    refine ⟨by rw [hr]; simp, fun i hi => ?_⟩
    rw [hr] at hi
    obtain rfl : i = k := by simpa using hi
    refine ⟨hkn, hOp_mono (fun a' w' hC' h3 => ?_) (wpOp_of_list h0 h')⟩
    exact wpAnyH_walk hsel hs hc hn hC' 0 c (i + 1) _ _ (inv.set (by rw [hr]; simp) hkn) (by omega) (by rw [Nat.zero_add]; exact hB) (by rw [List.take_zero]; exact h3)
  | 0, 0, k, listed, a, inv, hk, hB, h => by
    simp only [Region.headB, Bool.and_eq_true, beq_iff_eq] at hB
    rw [List.take_zero] at h
    exact ⟨hB.2, h⟩

/-- **The law.** m operations that only read, in every world of C; c operations, one behind the other, each leaving a world of C; then the rest, which waits for all. -/
theorem wp_region_chain {id : Nat} {Q : Exit → Act → World → Prop} {a : Act} {w : World} {l : List Oper} (m c : Nat) (C : World → Prop) (hm : P.follows .mixedOrders = true) (hB : Region.chainTailB .any l.toArray m c = true) (hC : C (w.drewN 1))
    (h : wpQuiet P l.toArray C (fun a' => wpChain P l.toArray C (fun a' w' => wpList P l.toArray Q (l.drop (m + c)) a' w') ((l.drop m).take c) a' (w.drewN 1)) (l.take m) a) : (Code.region id l.toArray true).wp P Q a w := by
  simp only [Region.chainTailB, Bool.and_eq_true, decide_eq_true_eq] at hB
  obtain ⟨⟨⟨⟨hsel, hn⟩, hs⟩, hc⟩, hlex⟩ := hB
  have inv0 : HeadInv .any l.toArray (m + c) (Array.replicate l.toArray.size false) :=
    ⟨by simp, fun j oj _ hl => (by rw [getD_replicate_false] at hl; cases hl), fun t _ ht => getD_in (by simpa using ht) (getD_replicate_false _ _)⟩
  have H := wpAnyH_walk (md := .any) (Lq := fun a' w' => wpList P l.toArray Q (l.drop (m + c)) a' w') hsel hs hc hn hC m c 0 _ a inv0 (by omega) hlex (by simpa using h)
  refine wp_region_any hm ?_
  have hdl : (l.drop (m + c)).length = l.toArray.size - (m + c) := by simp
  have := wpAny_of_headH (Q' := Q) (g := l.toArray.size - (m + c)) (fun listed a' w' hL => by
    have := wpAny_of_seq (md := .any) (Q' := Q) (l.drop (m + c)) (m + c) listed a' w' (fun j => by simp [List.getElem?_drop]) (by rw [hdl]; exact hL.1) hL.2
    rwa [hdl] at this) _ _ _ _ H
  rw [show m + c + (l.toArray.size - (m + c)) = l.toArray.size by omega] at this
  exact this

end

theorem below_drewN {B : Nat} {a w : World} (h : Below B a w) (n : Nat) : Below B a (w.drewN n) := ⟨h.os, h.tape, h.output, h.size, h.block⟩
theorem qn_mk {K : Act → World → Prop} {a : Act} {w : World} (h : K a w) : QN K .normal a w := h

/-- The worlds that have grown out of w. -/
def Grew (w : World) : Type := { W : World // Below w.heap.size w W }
theorem Grew.cell {w : World} (x : Grew w) (b o : Nat) (h : b < w.heap.size) : x.1.cell? ⟨b, o, none⟩ = w.cell? ⟨b, o, none⟩ := x.2.cell (p := ⟨b, o, none⟩) h
theorem Grew.cellN {w : World} {n : Nat} (x : Grew (w.drewN n)) (b o : Nat) (h : b < w.heap.size) : x.1.cell? ⟨b, o, none⟩ = w.cell? ⟨b, o, none⟩ := x.2.cell (p := ⟨b, o, none⟩) h
instance (w : World) : Nonempty (Grew w) := ⟨⟨w, Below.refl _ _⟩⟩
/-- The class of these worlds. -/
def InGrew (w : World) : World → Prop := fun W => ∃ x : Grew w, W = x.1
theorem InGrew.of {w W : World} (h : Below w.heap.size w W) : InGrew w W := ⟨⟨W, h⟩, rfl⟩

theorem InGrew.alloc1 (w : World) (n : Nat) (o : Obj) : InGrew (w.drewN n) ((w.drewN (n + 1)).alloc o) :=
  .of ⟨rfl, rfl, rfl, by simp, fun k hk => Below.heap_alloc (w.drewN (n + 1)) o k hk⟩

/-- The law at the worlds that have grown out of w. -/
theorem wp_region_grew {P : Program} {id : Nat} {Q : Exit → Act → World → Prop} {a : Act} {w : World} {l : List Oper} (m c : Nat) (hm : P.follows .mixedOrders = true) (hB : Region.chainTailB .any l.toArray m c = true)
    (h : wpQuiet P l.toArray (fun W => ∃ x : Grew w, W = x.1) (fun a' => wpChain P l.toArray (InGrew w) (fun a' w' => wpList P l.toArray Q (l.drop (m + c)) a' w') ((l.drop m).take c) a' (w.drewN 1)) (l.take m) a) : (Code.region id l.toArray true).wp P Q a w :=
  wp_region_chain m c (InGrew w) hm hB (.of ⟨rfl, rfl, rfl, Nat.le_refl _, fun _ _ => rfl⟩) h

/-- A region that draws its order, whose first n operations only read, and whose others have one order: the reading is walked in the order of the text. -/
theorem wpStill_of_quiet {P : Program} {ops : Array Oper} {w : World} {Q : Act → Prop} : ∀ (l : List Oper) (a : Act), wpQuiet P ops (fun w' => w' = w) Q l a → wpStill P ops w Q l a
  | [], _, h => h
  | o :: l, a, h => by
    unfold wpQuiet at h
    unfold wpStill
    split
    · rename_i hw
      rw [if_pos hw] at h
      obtain ⟨v, h1, h2⟩ := h
      have h3 := h1 w rfl
      have h4 := wpStill_of_quiet l _ h2
      unfold Oper.quietAt at h3
      unfold Oper.still
      generalize (execOp a.eval o).run P w = r at *
      cases r with
      | ok n w' =>
        cases n <;> simp only [Oper.quietUpon] at h3 <;> simp only [Oper.stillUpon]
        case value u => obtain ⟨e1, e2⟩ := h3; subst e2; exact ⟨e1, h4⟩
        case skip => obtain ⟨e1, e2⟩ := h3; subst e2; exact ⟨e1, h4⟩
        case enter f args => obtain ⟨e1, hc⟩ := h3; exact ⟨e1, v, hc, h4⟩
      | halt x w' => simp only [Oper.quietUpon] at h3
    · rename_i hw
      rw [if_neg hw] at h
      exact wpStill_of_quiet l _ h

theorem wp_region_quiet_tail {P : Program} {id : Nat} {Q : Exit → Act → World → Prop} {a : Act} {w : World} {l : List Oper} (n : Nat) (hm : P.follows .mixedOrders = true) (hB : Region.lexTailB .any l.toArray n = true)
    (h : wpQuiet P l.toArray (fun w' => w' = w.drewN 1) (fun a' => wpList P l.toArray Q (l.drop n) a' (w.drewN 1)) (l.take n) a) : (Code.region id l.toArray true).wp P Q a w :=
  wp_region_still_tail n hm hB (wpStill_of_quiet _ _ h)

end Go.Proofs.Yteepdnamkcgndaa

namespace Go.Proofs.Yteepdnamkcgndaa
open Go.RowKit

/-- A change. -/
structure Chg where
  kind : Int
  index : Int
  field : Int
  old : Int
  new : Int
  values : List Int
  deriving DecidableEq

/-- The cells of a change; its list of values is u. -/
def Chg.cells (c : Chg) (u : Value) : List Value := [.int .i64 c.kind, .int .i64 c.index, .int .i64 c.field, .int .i64 c.old, .int .i64 c.new, u]

/-- v is a slice of changes. -/
def ChV (S : Nat → Prop) (w : World) (v : Value) (cs : List Chg) : Prop :=
  ∃ a cap, v = .slice a cs.length cap ∧ Slok a cs.length ∧ cs.length ≤ cap ∧ cap ≤ maxLen ∧ (0 < cs.length → S (slb a)) ∧
    ∀ j (h : j < cs.length), ∃ u, (∀ i x, (cs[j].cells u)[i]? = some x → w.cell? ⟨slb a, slo a + j * 6 + i, none⟩ = some x) ∧ IntsV S w u cs[j].values

theorem ChV.keep {S : Nat → Prop} {w w' : World} {v : Value} {cs : List Chg} (h : ChV S w v cs) (hk : KeepS S w w') : ChV S w' v cs := by
  obtain ⟨a, cap, rfl, h1, h2, h3, h4, h5⟩ := h
  refine ⟨a, cap, rfl, h1, h2, h3, h4, fun j hj => ?_⟩
  obtain ⟨u, hu, hr⟩ := h5 j hj
  refine ⟨u, fun i x hx => ?_, hr.keep hk⟩
  have := hu i x hx
  rw [World.cell?_of_block (w := w) (a := ⟨slb a, slo a + j * 6 + i, none⟩) (hk _ (h4 (by omega)) (World.block_lt_of_cell? w ⟨slb a, slo a + j * 6 + i, none⟩ this))]
  exact this

theorem ChV.mono {S S' : Nat → Prop} {w : World} {v : Value} {cs : List Chg} (h : ChV S w v cs) (hS : ∀ b, b < w.heap.size → S b → S' b) : ChV S' w v cs := by
  obtain ⟨a, cap, rfl, h1, h2, h3, h4, h5⟩ := h
  refine ⟨a, cap, rfl, h1, h2, h3, fun h0 => ?_, fun j hj => ?_⟩
  · obtain ⟨u, hu, _⟩ := h5 0 h0
    exact hS _ (World.block_lt_of_cell? w ⟨slb a, slo a + 0 * 6 + 0, none⟩ (hu 0 _ rfl)) (h4 h0)
  · obtain ⟨u, hu, hr⟩ := h5 j hj
    exact ⟨u, hu, hr.mono hS⟩

theorem ChV.form {S : Nat → Prop} {w : World} {v : Value} {cs : List Chg} (h : ChV S w v cs) : ∃ a cap, v = .slice a cs.length cap ∧ Slok a cs.length ∧ cs.length ≤ cap ∧ cap ≤ 9223372036854775807 := by
  obtain ⟨a, cap, hv, h1, h2, h3, _⟩ := h
  exact ⟨a, cap, hv, h1, h2, by unfold maxLen at h3; omega⟩

/-- A change of a slice: its six cells, and its values. -/
theorem ChV.at {S : Nat → Prop} {w : World} {a : Option Addr} {n cap : Nat} {cs : List Chg} (h : ChV S w (.slice a n cap) cs) {j : Nat} (hj : j < cs.length) :
    slb a < w.heap.size ∧ S (slb a) ∧ w.cell? ⟨slb a, slo a + j * 6, none⟩ = some (.int .i64 cs[j].kind) ∧ w.cell? ⟨slb a, slo a + j * 6 + 1, none⟩ = some (.int .i64 cs[j].index) ∧ w.cell? ⟨slb a, slo a + j * 6 + 2, none⟩ = some (.int .i64 cs[j].field) ∧
      w.cell? ⟨slb a, slo a + j * 6 + 3, none⟩ = some (.int .i64 cs[j].old) ∧ w.cell? ⟨slb a, slo a + j * 6 + 4, none⟩ = some (.int .i64 cs[j].new) ∧ ∃ u, w.cell? ⟨slb a, slo a + j * 6 + 5, none⟩ = some u ∧ IntsV S w u cs[j].values := by
  obtain ⟨a', cap', hv, h1, h2, h3, h4, h5⟩ := h
  cases hv
  obtain ⟨u, hu, hr⟩ := h5 j hj
  exact ⟨World.block_lt_of_cell? w ⟨slb a, slo a + j * 6 + 0, none⟩ (hu 0 _ rfl), h4 (by omega), hu 0 _ rfl, hu 1 _ rfl, hu 2 _ rfl, hu 3 _ rfl, hu 4 _ rfl, u, hu 5 _ rfl, hr⟩

theorem ChV.nil (S : Nat → Prop) (w : World) : ChV S w (.slice none 0 0) [] :=
  ⟨none, 0, rfl, fun h => absurd h (by simp), Nat.le_refl _, Nat.zero_le _, fun h => absurd h (by simp), fun j h => absurd h (by simp)⟩

def flatC (cs : List Chg) (us : List Value) : List Value := (List.zipWith Chg.cells cs us).flatten

theorem flatC_len : ∀ (cs : List Chg) (us : List Value), us.length = cs.length → (flatC cs us).length = cs.length * 6
  | [], [], _ => rfl
  | c :: cs, u :: us, h => by
    have ih := flatC_len cs us (by simpa using h)
    unfold flatC at ih ⊢
    rw [List.zipWith_cons_cons, List.flatten_cons, List.length_append, ih, List.length_cons]
    show 6 + _ = _
    omega
  | [], _ :: _, h => by simp at h
  | _ :: _, [], h => by simp at h

theorem flatC_at : ∀ (cs : List Chg) (us : List Value) (j : Nat) (h1 : j < cs.length) (h2 : j < us.length) (i : Nat), i < 6 → (flatC cs us)[j * 6 + i]? = (cs[j].cells us[j])[i]?
  | [], _, _, h, _, _, _ => absurd h (by simp)
  | _ :: _, [], _, _, h, _, _ => absurd h (by simp)
  | c :: cs, u :: us, 0, _, _, i, hi => by
    unfold flatC
    rw [List.zipWith_cons_cons, List.flatten_cons, List.getElem?_append_left (by show 0 * 6 + i < 6; omega)]
    simp
  | c :: cs, u :: us, j + 1, h1, h2, i, hi => by
    have ih := flatC_at cs us j (by simpa using h1) (by simpa using h2) i hi
    unfold flatC at ih ⊢
    rw [List.zipWith_cons_cons, List.flatten_cons, List.getElem?_append_right (by show 6 ≤ _; omega)]
    have : (j + 1) * 6 + i - (c.cells u).length = j * 6 + i := by show (j + 1) * 6 + i - 6 = _; omega
    rw [this, ih]
    rfl

theorem flatC_append (cs cs' : List Chg) (us us' : List Value) (h : us.length = cs.length) : flatC (cs ++ cs') (us ++ us') = flatC cs us ++ flatC cs' us' := by
  unfold flatC
  rw [List.zipWith_append h.symm, List.flatten_append]

/-- A row of changes of the call's own (from block B on); their values lie in blocks of S that are not its own. -/
def OwnC (S : Nat → Prop) (B : Nat) (e : TypeId) (w : World) (v : Value) (cs : List Chg) : Prop :=
  ∃ us, w.ownsRow B e 6 v cs.length (flatC cs us) ∧ us.length = cs.length ∧ ∀ j (h1 : j < us.length) (h2 : j < cs.length), IntsV (fun b => S b ∧ some b ≠ v.ownBlock) w us[j] cs[j].values

theorem OwnC.nil (S : Nat → Prop) (B : Nat) (e : TypeId) (w : World) : OwnC S B e w (.slice none 0 0) [] :=
  ⟨[], World.ownsRow_nil _ _ _ _, rfl, fun j h => absurd h (by simp)⟩

theorem ownsRow_keepBase {w w' : World} {base : Nat} {e : TypeId} {size : Nat} {v : Value} {n : Nat} {us : List Value} (h : w.ownsRow base e size v n us) (hk : KeepS (base ≤ ·) w w') : w'.ownsRow base e size v n us :=
  ownsRow_keep (S := (base ≤ ·)) h (fun b hb => (h.lt b hb).1) hk

/-- It stays where its blocks stay. -/
theorem OwnC.keep {S : Nat → Prop} {B : Nat} {e : TypeId} {w w' : World} {v : Value} {cs : List Chg} (h : OwnC S B e w v cs) (hk : KeepS (fun b => S b ∨ B ≤ b) w w') : OwnC S B e w' v cs := by
  obtain ⟨us, h1, h2, h3⟩ := h
  exact ⟨us, ownsRow_keepBase h1 (fun b hb hlt => hk b (.inr hb) hlt), h2, fun j g1 g2 => IntsV.keep (h3 j g1 g2) (fun b hb hlt => hk b (.inl hb.1) hlt)⟩
theorem OwnC.below {S : Nat → Prop} {B : Nat} {e : TypeId} {w w' : World} {v : Value} {cs : List Chg} (h : OwnC S B e w v cs) (hk : Below w.heap.size w w') : OwnC S B e w' v cs := h.keep (KeepS.below hk)

theorem OwnC.lt {S : Nat → Prop} {B : Nat} {e : TypeId} {w : World} {v : Value} {cs : List Chg} (h : OwnC S B e w v cs) : ∀ b, some b = v.ownBlock → B ≤ b ∧ b < w.heap.size := by
  obtain ⟨us, h1, _⟩ := h
  exact fun b hb => h1.lt b hb.symm

/-- It reads as a slice of changes. -/
theorem OwnC.sl {S : Nat → Prop} {B : Nat} {e : TypeId} {w : World} {v : Value} {cs : List Chg} (h : OwnC S B e w v cs) : ChV (fun b => S b ∨ B ≤ b) w v cs := by
  obtain ⟨us, ⟨h1, h2⟩, h3, h4⟩ := h
  rcases h2 with ⟨rfl, h0⟩ | ⟨g, cap, cur, rfl, hb, hg, hn, hc, hs, ht⟩
  · obtain rfl : cs = [] := List.eq_nil_of_length_eq_zero h0
    exact ChV.nil _ w
  · refine ⟨some ⟨g, 0, none⟩, cap, rfl, fun _ => ⟨g, 0, rfl⟩, hn, hc, fun _ => .inr hb, fun j hj => ⟨us[j]'(by omega), fun i x hx => ?_, (h4 j (by omega) hj).mono (fun b _ hb => .inl hb.1)⟩⟩
    have hi : i < 6 := by
      have := (List.getElem?_eq_some_iff.1 hx).1
      exact this
    rw [slb_some, slo_some, Nat.zero_add, cell_of_row w g _ cur e (0, 0) hg, ← hx, ← flatC_at cs us j hj (by omega) i hi, ← ht, List.getElem?_take, if_pos (by omega)]
    simp

section
variable {P : Program} {t e : TypeId} {bytes : Nat} {w : World} {ops : Array Oper} {rest : List Oper} {o : Oper} {a : Act} {Q : Exit → Act → World → Prop}

/-- 'append(s, x...)' of changes. -/
theorem wpList_appC (hgd : o.guard = none) (s x : Operand)
    (ho : o.op = .call { callee := .builtin .append, args := #[s, x], argTypes := #[t, t] }) (hT : AppT P t e 6 bytes)
    {S : Nat → Prop} {B : Nat} {v : Value} {cs : List Chg} (hs : a.eval s = v) (hown : OwnC S B e w v cs)
    {ao : Option Addr} {m c : Nat} (hx : a.eval x = .slice ao m c) (hok : Slok ao m) (ds : List Chg) (us' : List Value) (hl : us'.length = ds.length) (hm : ds.length = m)
    (hnews : ∀ j u, (flatC ds us')[j]? = some u → w.cell? ⟨slb ao, slo ao + j, none⟩ = some u) (h1 : ∀ u ∈ us', u.oneCell' = true)
    (hu : ∀ j (h1 : j < us'.length) (h2 : j < ds.length), IntsV (fun b => S b ∧ some b ≠ v.ownBlock) w us'[j] ds[j].values)
    (hsmall : cs.length + m ≤ 1000000000) (hbase : B ≤ w.heap.size)
    (h : ∀ v' w', OwnC S B e w' v' (cs ++ ds) → Turns (fun b => some b = v.ownBlock) w w' → wpList P ops Q rest (a.put o.dst v') w') :
    wpList P ops Q (o :: rest) a w := by
  obtain ⟨us, f1, f2, f3⟩ := hown
  refine wpList_app hgd s x ho hT hs f1 ao m c hx hok (flatC ds us') (by rw [flatC_len ds us' hl, hm]) hnews ?_ hsmall hbase (fun v' w' g1 g2 g3 => h v' w' ⟨us ++ us', ?_, ?_, fun j k1 k2 => ?_⟩ (Turns.of_grown g2 fun b hb' => hb'.symm))
  · intro u hu'
    unfold flatC at hu'
    obtain ⟨l, hl1, hl2⟩ := List.mem_flatten.1 hu'
    obtain ⟨i, hi, rfl⟩ := List.getElem_of_mem hl1
    rw [List.getElem_zipWith] at hl2
    simp only [Chg.cells, List.mem_cons, List.not_mem_nil, or_false] at hl2
    rcases hl2 with h | h | h | h | h | h <;> rw [h]
    all_goals first | rfl | exact h1 _ (List.getElem_mem _)
  · rw [flatC_append cs ds us us' f2, List.length_append, hm]; exact g1
  · simp [f2, hl]
  · have other : ∀ {u y}, IntsV (fun b => S b ∧ some b ≠ v.ownBlock) w u y → IntsV (fun b => S b ∧ some b ≠ v'.ownBlock) w' u y := by
      intro u y hr
      have r1 := IntsV.mono (S' := fun b => (S b ∧ some b ≠ v.ownBlock) ∧ b < w.heap.size) hr (fun b hlt hb' => ⟨hb', hlt⟩)
      have r2 := IntsV.keep (w' := w') r1 (fun b hb' _ => g2.block b hb'.2 hb'.1.2)
      refine IntsV.mono r2 (fun b _ hb' => ⟨hb'.1.1, ?_⟩)
      rcases g3 with g3 | g3
      · rw [g3]; exact hb'.1.2
      · rw [g3]; intro e'; have := Option.some.inj e'; omega
    by_cases hj : j < us.length
    · rw [List.getElem_append_left hj, List.getElem_append_left (by omega)]
      exact other (f3 j hj (by omega))
    · have k1' : j < us.length + us'.length := by simpa using k1
      have k2' : j < cs.length + ds.length := by simpa using k2
      rw [List.getElem_append_right (by omega), List.getElem_append_right (by omega)]
      have e1 : j - us.length = j - cs.length := by omega
      have hr := hu (j - us.length) (by omega) (by omega)
      simp only [e1] at hr ⊢
      exact other hr

/-- 'append(s, Change{..})'. -/
theorem wpList_appC1 (hgd : o.guard = none) (s x : Operand)
    (ho : o.op = .call { callee := .builtin .append, args := #[s, x], argTypes := #[t, t] }) (hT : AppT P t e 6 bytes)
    {S : Nat → Prop} {B : Nat} {v : Value} {cs : List Chg} (hs : a.eval s = v) (hown : OwnC S B e w v cs)
    {e' : TypeId} (hx : a.eval x = .slice (some ⟨w.heap.size, 0, none⟩) 1 1) (c : Chg) (u : Value) {cells : Array Value} (hcells : cells = (c.cells u).toArray) (h1 : u.oneCell' = true)
    (hu : IntsV (fun b => S b ∧ some b ≠ v.ownBlock) w u c.values)
    (hsmall : cs.length + 1 ≤ 1000000000) (hbase : B ≤ w.heap.size)
    (h : ∀ v' w', OwnC S B e w' v' (cs ++ [c]) → Turns (fun b => some b = v.ownBlock) w w' → wpList P ops Q rest (a.put o.dst v') w') :
    wpList P ops Q (o :: rest) a (w.alloc (.cells cells e')) := by
  subst hcells
  have ha : Below w.heap.size w (w.alloc (.cells (c.cells u).toArray e')) := (Below.refl _ _).alloc (Nat.le_refl _) _
  have hf : flatC [c] [u] = c.cells u := by simp [flatC]
  refine wpList_appC hgd s x ho hT hs (hown.below ha) hx (fun _ => ⟨_, _, rfl⟩) [c] [u] rfl rfl (by rw [hf]; exact news_alloc w (c.cells u).toArray e') (by simpa using h1) ?_ hsmall (by simp; omega)
    (fun v' w' g1 g2 => h v' w' g1 ((Turns.of_below ha).trans ⟨g2.os, g2.tape, g2.output, g2.size, g2.block⟩))
  intro j g1 g2
  obtain rfl : j = 0 := by simp at g1; omega
  exact hu.keep (KeepS.below ha)
end

theorem Try.app34 : AppT Try.prog 27 54 6 64 := appT_mk (z := .agg #[.int .i64 0, .int .i64 0, .int .i64 0, .int .i64 0, .int .i64 0, .slice none 0 0]) (by kernel_rfl) (by kernel_rfl) rfl (by omega) (by omega)
theorem Try.app30 : AppT Try.prog 34 59 6 64 := appT_mk (z := .agg #[.int .i64 0, .int .i64 0, .int .i64 0, .int .i64 0, .int .i64 0, .slice none 0 0]) (by kernel_rfl) (by kernel_rfl) rfl (by omega) (by omega)

/-- What an append of a slice of changes asks of it. -/
theorem ChV.news {S : Nat → Prop} {w : World} {ao : Option Addr} {m c : Nat} {ds : List Chg} (h : ChV S w (.slice ao m c) ds) :
    m = ds.length ∧ Slok ao m ∧ ∃ us : List Value, us.length = ds.length ∧ (∀ j u, (flatC ds us)[j]? = some u → w.cell? ⟨slb ao, slo ao + j, none⟩ = some u) ∧ (∀ u ∈ us, u.oneCell' = true) ∧
      ∀ j (h1 : j < us.length) (h2 : j < ds.length), IntsV S w us[j] ds[j].values := by
  obtain ⟨a, cap, hv, h1, h2, h3, h4, h5⟩ := h
  cases hv
  let us : List Value := (List.range ds.length).map (fun j => (w.cell? ⟨slb ao, slo ao + j * 6 + 5, none⟩).getD undef)
  have hus : us.length = ds.length := by simp [us]
  have hat : ∀ j (h1 : j < us.length) (h2 : j < ds.length), IntsV S w us[j] ds[j].values ∧ ∀ i x, (ds[j].cells us[j])[i]? = some x → w.cell? ⟨slb ao, slo ao + j * 6 + i, none⟩ = some x := by
    intro j g1 g2
    obtain ⟨u, hu, hr⟩ := h5 j g2
    have e1 : us[j] = u := by simp [us, hu 5 u rfl]
    rw [e1]
    exact ⟨hr, hu⟩
  refine ⟨rfl, h1, us, hus, fun j u hu => ?_, fun u hu => ?_, fun j g1 g2 => (hat j g1 g2).1⟩
  · have hj : j < ds.length * 6 := by
      have := (List.getElem?_eq_some_iff.1 hu).1
      rw [flatC_len ds us hus] at this
      exact this
    have e : j = j / 6 * 6 + j % 6 := by omega
    rw [e] at hu ⊢
    rw [flatC_at ds us (j / 6) (by omega) (by omega) (j % 6) (by omega)] at hu
    rw [← Nat.add_assoc]
    exact (hat (j / 6) (by omega) (by omega)).2 _ _ hu
  · obtain ⟨j, hj, rfl⟩ := List.getElem_of_mem hu
    obtain ⟨a, cap, e1, _⟩ := (hat j hj (by omega)).1
    rw [e1]
    rfl

end Go.Proofs.Yteepdnamkcgndaa

namespace Go.Proofs.Yteepdnamkcgndaa
open Go.RowKit

set_option maxHeartbeats 1000000 in
theorem plain_any (cs : List Chg) (hc : cs.length ≤ 100000) (u : Value) (S : Nat → Prop) (w : World) (hu : ChV S w u cs) :
    Calls Try.prog 14 #[u] w fun e w' => ∃ x, e = .returned x ∧ ChV AnyB w' x cs ∧ Below w.heap.size w w' := by
  have hu0 : ChV (· < w.heap.size) w u cs := hu.mono (fun b hb _ => hb)
  obtain ⟨a, cap, rfl, hok, hcap, hmax⟩ := hu.form
  clear hu
  go_enter Try.func14, Try.ntmps14
  go_wp2
  go_loopw [3, 4] (fun x i wr => ∃ k : Nat, k ≤ cs.length ∧ i = .int .i64 k ∧ OwnC (· < w.heap.size) w.heap.size 54 wr x (cs.take k) ∧ Below w.heap.size w wr) (fun _ i _ => cs.length - (intOf i).toNat)
  case atStart => exact ⟨0, by omega, rfl, OwnC.nil _ _ _ _, Below.refl _ _⟩
  case round =>
    obtain ⟨k, hk, rfl, hown, hb⟩ := hrel
    by_cases hlt : k < cs.length
    · have hu1 : ChV (· < w.heap.size) wr (.slice a cs.length cap) cs := hu0.keep (KeepS.below hb)
      obtain ⟨hbk, -, c0, c1, c2, c3, c4, ul, c5, hul⟩ := hu1.at hlt
      have HT := hid (take_snoc hlt)
      have hlen : (cs.take k).length ≤ k := by simp; omega
      generalize cs.take k = ck at *
      generalize cs[k] = c at *
      obtain ⟨k0, i0, f0, o0, n0, vs⟩ := c
      simp only at c0 c1 c2 c3 c4 hul
      obtain ⟨al, cl, rfl, -, -, -⟩ := hul.form
      have hk0 : (0 : Int) ≤ k := by omega
      have hk1 : (k : Int) < cs.length := by omega
      go_wp2
      have hg := Grew.cell (w := wr)
      refine wp_region_grew 32 1 (by kernel_rfl) (by kernel_rfl) ?_
      simp only [List.take_succ_cons, List.take_zero, List.drop_succ_cons, List.drop_zero, Nat.reduceAdd]
      repeat (go_big_quiet_step (fail))
      refine wpQuiet_nil ?_
      unfold wpChain
      go_wp2
      refine qn_mk ⟨InGrew.of ((below_drewN (Below.refl _ _) 1).alloc (Nat.le_refl _) _), ?_⟩
      unfold wpChain
      have hulB : IntsV (fun b => b < w.heap.size ∧ some b ≠ u3.ownBlock) (wr.drewN 1) (.slice al vs.length cl) vs :=
        IntsV.mono (IntsV.keep hul (KeepS.below (below_drewN (Below.refl _ _) 1))) (fun b _ hb' => ⟨hb', fun e => by have := (hown.lt b e).1; omega⟩)
      have hown1 : OwnC (· < w.heap.size) w.heap.size 54 (wr.drewN 1) u3 ck := hown.below (below_drewN (Below.refl _ _) 1)
      go_wp2_with (at_builtin; refine wpList_appC1 rfl _ _ rfl Try.app34 rfl hown1 rfl ⟨k0, i0, f0, o0, n0, vs⟩ (.slice al vs.length cl) rfl rfl hulB (by omega) (by simp; have := hb.size; omega) ?_)
      intro v' w1 hown2 ht
      rw [HT.out] at hown2
      have hb2 : Below w.heap.size w w1 := (below_drewN hb 1).trans (ht.below (by simp; exact hb.size) (fun b hb' => (hown.lt b hb').1))
      clear hown hown1 hul hulB ht hu1 c0 c1 c2 c3 c4 c5 hg hb
      go_wp2
      go_roundw
      case rel => exact ⟨k + 1, by omega, by go_num, hown2, hb2⟩
      case measure => simp [intOf]; omega
    · obtain rfl : k = cs.length := by omega
      rw [List.take_length] at hown
      have hres := ChV.mono (S' := AnyB) hown.sl (fun _ _ _ => trivial)
      clear hown
      go_wp2
      go_ret
      exact ⟨_, rfl, hres, hb⟩

end Go.Proofs.Yteepdnamkcgndaa

namespace Go.Proofs.Yteepdnamkcgndaa
open Go.RowKit

set_option maxHeartbeats 1000000 in
theorem own_any (cs : List Chg) (hc : cs.length ≤ 100000) (u : Value) (S : Nat → Prop) (w : World) (hu : ChV S w u cs) :
    Calls Try.prog 11 #[u] w fun e w' => ∃ x, e = .returned x ∧ ChV AnyB w' x cs ∧ Below w.heap.size w w' := by
  have hu0 : ChV (· < w.heap.size) w u cs := hu.mono (fun b hb _ => hb)
  obtain ⟨a, cap, rfl, hok, hcap, hmax⟩ := hu.form
  clear hu
  go_enter Try.func11, Try.ntmps11
  go_wp2
  go_loopw [3, 4] (fun x i wr => ∃ k : Nat, k ≤ cs.length ∧ i = .int .i64 k ∧ OwnC (· < w.heap.size) w.heap.size 59 wr x (cs.take k) ∧ Below w.heap.size w wr) (fun _ i _ => cs.length - (intOf i).toNat)
  case atStart => exact ⟨0, by omega, rfl, OwnC.nil _ _ _ _, Below.refl _ _⟩
  case round =>
    obtain ⟨k, hk, rfl, hown, hb⟩ := hrel
    by_cases hlt : k < cs.length
    · have hu1 : ChV (· < w.heap.size) wr (.slice a cs.length cap) cs := hu0.keep (KeepS.below hb)
      obtain ⟨hbk, -, c0, c1, c2, c3, c4, ul, c5, hul⟩ := hu1.at hlt
      have HT := hid (take_snoc hlt)
      have hlen : (cs.take k).length ≤ k := by simp; omega
      generalize cs.take k = ck at *
      generalize cs[k] = c at *
      obtain ⟨k0, i0, f0, o0, n0, vs⟩ := c
      simp only at c0 c1 c2 c3 c4 hul
      obtain ⟨al, cl, rfl, -, -, -⟩ := hul.form
      have hk0 : (0 : Int) ≤ k := by omega
      have hk1 : (k : Int) < cs.length := by omega
      go_wp2
      have hg := Grew.cell (w := wr)
      refine wp_region_grew 32 1 (by kernel_rfl) (by kernel_rfl) ?_
      simp only [List.take_succ_cons, List.take_zero, List.drop_succ_cons, List.drop_zero, Nat.reduceAdd]
      repeat (go_big_quiet_step (fail))
      refine wpQuiet_nil ?_
      unfold wpChain
      go_wp2
      refine qn_mk ⟨InGrew.of ((below_drewN (Below.refl _ _) 1).alloc (Nat.le_refl _) _), ?_⟩
      unfold wpChain
      have hulB : IntsV (fun b => b < w.heap.size ∧ some b ≠ u3.ownBlock) (wr.drewN 1) (.slice al vs.length cl) vs :=
        IntsV.mono (IntsV.keep hul (KeepS.below (below_drewN (Below.refl _ _) 1))) (fun b _ hb' => ⟨hb', fun e => by have := (hown.lt b e).1; omega⟩)
      have hown1 : OwnC (· < w.heap.size) w.heap.size 59 (wr.drewN 1) u3 ck := hown.below (below_drewN (Below.refl _ _) 1)
      go_wp2_with (at_builtin; refine wpList_appC1 rfl _ _ rfl Try.app30 rfl hown1 rfl ⟨k0, i0, f0, o0, n0, vs⟩ (.slice al vs.length cl) rfl rfl hulB (by omega) (by simp; have := hb.size; omega) ?_)
      intro v' w1 hown2 ht
      rw [HT.out] at hown2
      have hb2 : Below w.heap.size w w1 := (below_drewN hb 1).trans (ht.below (by simp; exact hb.size) (fun b hb' => (hown.lt b hb').1))
      clear hown hown1 hul hulB ht hu1 c0 c1 c2 c3 c4 c5 hg hb
      go_wp2
      go_roundw
      case rel => exact ⟨k + 1, by omega, by go_num, hown2, hb2⟩
      case measure => simp [intOf]; omega
    · obtain rfl : k = cs.length := by omega
      rw [List.take_length] at hown
      have hres := ChV.mono (S' := AnyB) hown.sl (fun _ _ _ => trivial)
      clear hown
      go_wp2
      go_ret
      exact ⟨_, rfl, hres, hb⟩

end Go.Proofs.Yteepdnamkcgndaa

namespace Go.Proofs.Yteepdnamkcgndaa
open Go.RowKit

/-- A change as a value. -/
abbrev Chg.val (c : Chg) (u : Value) : Value := .agg #[.int .i64 c.kind, .int .i64 c.index, .int .i64 c.field, .int .i64 c.old, .int .i64 c.new, u]

set_option maxHeartbeats 1000000 in
theorem sameC_any (c d : Chg) (u v : Value) (S T : Nat → Prop) (w : World) (hu : IntsV S w u c.values) (hv : IntsV T w v d.values) :
    Calls Try.prog 30 #[c.val u, d.val v] w fun e w' => e = .returned (.bool (decide (c = d))) ∧ Below w.heap.size w w' := by
  obtain ⟨k, i, f, o, n, xs⟩ := c
  obtain ⟨k', i', f', o', n', ys⟩ := d
  simp only at hu hv
  have hu0 := hu
  have hv0 := hv
  obtain ⟨a, cap, rfl, -, -, -⟩ := hu.form
  obtain ⟨a', cap', rfl, -, -, -⟩ := hv.form
  clear hu hv
  have hA : Below w.heap.size w ((w.alloc (.cells #[.int .i64 k, .int .i64 i, .int .i64 f, .int .i64 o, .int .i64 n, .slice a xs.length cap] 54)).alloc (.cells #[.int .i64 k', .int .i64 i', .int .i64 f', .int .i64 o', .int .i64 n', .slice a' ys.length cap'] 54)) :=
    ((Below.refl _ _).alloc (Nat.le_refl _) _).alloc (by simp) _
  by_cases h1 : k = k'
  · by_cases h2 : i = i'
    · by_cases h3 : f = f'
      · by_cases h4 : o = o'
        · by_cases h5 : n = n'
          · subst h1 h2 h3 h4 h5
            have hs := sameInts_any xs ys _ _ S T _ (IntsV.keep hu0 (KeepS.below hA)) (IntsV.keep hv0 (KeepS.below hA))
            have HD : Hid (decide ((⟨k, i, f, o, n, xs⟩ : Chg) = ⟨k, i, f, o, n, ys⟩) = decide (xs = ys)) := hid (by simp)
            have HS := hid hs
            have HA := hid hA
            clear hs hA
            go_enter Try.func30, Try.ntmps30
            go_wp2_with (go_at_call 55; refine HS.out.mono ?_; rintro e w' ⟨rfl, nn, rfl⟩)
            go_ret
            exact ⟨ret_bool HD.out.symm, below_drewN HA.out _⟩
          · have HD := hid (decide_eq_false (p := (⟨k, i, f, o, n, xs⟩ : Chg) = ⟨k', i', f', o', n', ys⟩) (by intro h; injection h; contradiction))
            have g5 : (n == n') = false := beqF h5
            subst h1 h2 h3 h4
            have HA := hid hA
            clear hA h5
            go_enter Try.func30, Try.ntmps30
            go_wp2
            go_ret
            exact ⟨ret_bool HD.out.symm, HA.out⟩
        · have HD := hid (decide_eq_false (p := (⟨k, i, f, o, n, xs⟩ : Chg) = ⟨k', i', f', o', n', ys⟩) (by intro h; injection h; contradiction))
          have g4 : (o == o') = false := beqF h4
          subst h1 h2 h3
          have HA := hid hA
          clear hA h4
          go_enter Try.func30, Try.ntmps30
          go_wp2
          go_ret
          exact ⟨ret_bool HD.out.symm, HA.out⟩
      · have HD := hid (decide_eq_false (p := (⟨k, i, f, o, n, xs⟩ : Chg) = ⟨k', i', f', o', n', ys⟩) (by intro h; injection h; contradiction))
        have g3 : (f == f') = false := beqF h3
        subst h1 h2
        have HA := hid hA
        clear hA h3
        go_enter Try.func30, Try.ntmps30
        go_wp2
        go_ret
        exact ⟨ret_bool HD.out.symm, HA.out⟩
    · have HD := hid (decide_eq_false (p := (⟨k, i, f, o, n, xs⟩ : Chg) = ⟨k', i', f', o', n', ys⟩) (by intro h; injection h; contradiction))
      have g2 : (i == i') = false := beqF h2
      subst h1
      have HA := hid hA
      clear hA h2
      go_enter Try.func30, Try.ntmps30
      go_wp2
      go_ret
      exact ⟨ret_bool HD.out.symm, HA.out⟩
  · have HD := hid (decide_eq_false (p := (⟨k, i, f, o, n, xs⟩ : Chg) = ⟨k', i', f', o', n', ys⟩) (by intro h; injection h; contradiction))
    have g1 : (k == k') = false := beqF h1
    have HA := hid hA
    clear hA h1
    go_enter Try.func30, Try.ntmps30
    go_wp2
    go_ret
    exact ⟨ret_bool HD.out.symm, HA.out⟩

end Go.Proofs.Yteepdnamkcgndaa

namespace Go.Proofs.Yteepdnamkcgndaa
open Go.RowKit

theorem same_prefix' {α : Type} {xs ys : List α} {k : Nat} (hl : xs.length = ys.length) (hk : k = xs.length) (h : xs.take k = ys.take k) : xs = ys := by
  have e1 : xs.take xs.length = xs := List.take_length
  have e2 : ys.take ys.length = ys := List.take_length
  rw [hk] at h
  rw [← e1, h, hl, e2]
theorem take_eq_succ' {α : Type} {xs ys : List α} {k : Nat} (hx : k < xs.length) (hy : k < ys.length) (h : xs.take k = ys.take k) (e : xs[k] = ys[k]) : xs.take (k + 1) = ys.take (k + 1) := by
  rw [List.take_succ_eq_append_getElem hx, List.take_succ_eq_append_getElem hy, h, e]

set_option maxHeartbeats 1000000 in
theorem sameAll_any (cs ds : List Chg) (u v : Value) (S T : Nat → Prop) (w : World) (hu : ChV S w u cs) (hv : ChV T w v ds) :
    Calls Try.prog 13 #[u, v] w fun e w' => e = .returned (.bool (decide (cs = ds))) ∧ Below w.heap.size w w' := by
  have hu0 := hu
  have hv0 := hv
  obtain ⟨a, cap, rfl, hok, hcap, hmax⟩ := hu.form
  obtain ⟨a', cap', rfl, hok', hcap', hmax'⟩ := hv.form
  clear hu hv
  by_cases hl : cs.length = ds.length
  · have hl2 : ((cs.length : Int) != (ds.length : Int)) = false := by simp [hl]
    have hl3 : cs.length ≤ ds.length := by omega
    have HL := hid hl
    clear hl
    go_enter Try.func13, Try.ntmps13
    go_wp2
    go_loopw [5] (fun i wr => ∃ k : Nat, k ≤ cs.length ∧ i = .int .i64 k ∧ Hid (cs.take k = ds.take k) ∧ Below w.heap.size w wr) (fun i _ => cs.length - (intOf i).toNat)
    case atStart => exact ⟨0, Nat.zero_le _, rfl, hid rfl, Below.refl _ _⟩
    case round =>
      obtain ⟨k, hk, rfl, hpre, hb⟩ := hrel
      by_cases hlt : k < cs.length
      · have hlt' : k < ds.length := by omega
        have hu1 : ChV S wr (.slice a cs.length cap) cs := hu0.keep (KeepS.below hb)
        have hv1 : ChV T wr (.slice a' ds.length cap') ds := hv0.keep (KeepS.below hb)
        obtain ⟨hbk, -, c0, c1, c2, c3, c4, ul, c5, hul⟩ := hu1.at hlt
        obtain ⟨hbk', -, d0, d1, d2, d3, d4, vl, d5, hvl⟩ := hv1.at hlt'
        have HE : Hid (cs[k] = ds[k] → cs.take (k + 1) = ds.take (k + 1)) := hid (take_eq_succ' hlt hlt' hpre.out)
        have HN : Hid (cs[k] ≠ ds[k] → ¬ cs = ds) := hid (fun h e => h (by subst e; rfl))
        generalize cs[k] = c at *
        generalize ds[k] = d at *
        have hk0 : (0 : Int) ≤ k := by omega
        have hk1 : (k : Int) < cs.length := by omega
        have hk2 : (k : Int) < ds.length := by omega
        have hb1 : Below wr.heap.size wr (wr.drewN 1) := below_drewN (Below.refl _ _) 1
        have HS := hid (sameC_any c d ul vl S T (wr.drewN 1) (IntsV.keep hul (KeepS.below hb1)) (IntsV.keep hvl (KeepS.below hb1)))
        obtain ⟨al, cl, rfl, -, -, -⟩ := hul.form
        obtain ⟨al', cl', rfl, -, -, -⟩ := hvl.form
        clear hul hvl hb1
        by_cases hcd : c = d
        · have HT := hid (HE.out hcd)
          have HD := hid (decide_eq_true hcd)
          clear hcd HE HN
          go_wp2
          refine wp_region_quiet_tail 8 (by kernel_rfl) (by kernel_rfl) ?_
          simp only [List.take_succ_cons, List.take_zero, List.drop_succ_cons, List.drop_zero]
          repeat (go_big_quiet_step (fail))
          refine wpQuiet_nil ?_
          go_wp2_with fail
          refine HS.out.mono ?_
          rintro e w' ⟨rfl, hb2⟩
          rw [HD.out]
          have hb3 : Below w.heap.size w w' := (below_drewN hb 1).trans (hb2.mono (by simp; exact hb.size))
          clear hb2 hb hu1 hv1 c0 c1 c2 c3 c4 c5 d0 d1 d2 d3 d4 d5
          go_wp2
          go_roundw
          case rel => exact ⟨k + 1, by omega, by go_num, HT, hb3⟩
          case measure => simp [intOf]; omega
        · have HT := hid (HN.out hcd)
          have HD := hid (decide_eq_false hcd)
          clear hcd HE HN
          go_wp2
          refine wp_region_quiet_tail 8 (by kernel_rfl) (by kernel_rfl) ?_
          simp only [List.take_succ_cons, List.take_zero, List.drop_succ_cons, List.drop_zero]
          repeat (go_big_quiet_step (fail))
          refine wpQuiet_nil ?_
          go_wp2_with fail
          refine HS.out.mono ?_
          rintro e w' ⟨rfl, hb2⟩
          rw [HD.out]
          have hb3 : Below w.heap.size w w' := (below_drewN hb 1).trans (hb2.mono (by simp; exact hb.size))
          clear hb2 hb hu1 hv1 c0 c1 c2 c3 c4 c5 d0 d1 d2 d3 d4 d5
          go_wp2
          go_ret
          exact ⟨ret_bool (decide_eq_false HT.out).symm, hb3⟩
      · have HT := hid (same_prefix' HL.out (by omega) hpre.out)
        go_wp2
        go_ret
        exact ⟨ret_bool (decide_eq_true HT.out).symm, hb⟩
  · have hl2 : ((cs.length : Int) != (ds.length : Int)) = true := bneT (by omega)
    have HD := hid (decide_eq_false (p := cs = ds) (fun e => hl (by rw [e])))
    clear hl
    go_enter Try.func13, Try.ntmps13
    go_wp2
    go_ret
    exact ⟨ret_bool HD.out.symm, Below.refl _ _⟩

end Go.Proofs.Yteepdnamkcgndaa

namespace Go.Proofs.Yteepdnamkcgndaa
open Go.RowKit

theorem ex_drewN {w : World} {a b : Nat} : ∃ n, (w.drewN a).drewN b = w.drewN n := ⟨a + b, World.drewN_drewN _ _ _⟩

set_option maxHeartbeats 1000000 in
theorem sameWorld_any (V W : List (List (List Int))) (u v : Value) (S T : Nat → Prop) (w : World) (hu : WorldV S w u V) (hv : WorldV T w v W) :
    Calls Try.prog 33 #[u, v] w fun e w' => e = .returned (.bool (decide (V = W))) ∧ Below w.heap.size w w' := by
  have hu0 := hu
  have hv0 := hv
  obtain ⟨a, cap, rfl, hok, hcap, hmax⟩ := hu.form
  obtain ⟨a', cap', rfl, hok', hcap', hmax'⟩ := hv.form
  clear hu hv
  by_cases hl : V.length = W.length
  · have hl2 : ((V.length : Int) != (W.length : Int)) = false := by simp [hl]
    have hl3 : V.length ≤ W.length := by omega
    have HL := hid hl
    clear hl
    go_enter Try.func33, Try.ntmps33
    go_wp2
    go_loopw [5] (fun i wr => ∃ k : Nat, k ≤ V.length ∧ i = .int .i64 k ∧ Hid (V.take k = W.take k) ∧ Below w.heap.size w wr) (fun i _ => V.length - (intOf i).toNat)
    case atStart => exact ⟨0, Nat.zero_le _, rfl, hid rfl, Below.refl _ _⟩
    case round =>
      obtain ⟨k, hk, rfl, hpre, hb⟩ := hrel
      by_cases hlt : k < V.length
      · have hlt' : k < W.length := by omega
        have hu1 : WorldV S wr (.slice a V.length cap) V := hu0.keep (KeepS.below hb)
        have hv1 : WorldV T wr (.slice a' W.length cap') W := hv0.keep (KeepS.below hb)
        obtain ⟨uk, hck, hbk, hrk⟩ := hu1.at hlt
        obtain ⟨vk, hdk, hbk', hsk⟩ := hv1.at hlt'
        have HE : Hid (V[k] = W[k] → V.take (k + 1) = W.take (k + 1)) := hid (take_eq_succ' hlt hlt' hpre.out)
        have HN : Hid (V[k] ≠ W[k] → ¬ V = W) := hid (fun h e => h (by subst e; rfl))
        generalize V[k] = rows at *
        generalize W[k] = sows at *
        have hrk0 := hrk
        have hsk0 := hsk
        obtain ⟨ak, ck, rfl, hokk, hcapk, hmaxk⟩ := hrk.form
        obtain ⟨bk, dk, rfl, hokk', hcapk', hmaxk'⟩ := hsk.form
        clear hrk hsk
        have hk0 : (0 : Int) ≤ k := by omega
        have hk1 : (k : Int) < V.length := by omega
        have hk2 : (k : Int) < W.length := by omega
        by_cases hr : rows.length = sows.length
        · have g1 : ((rows.length : Int) != (sows.length : Int)) = false := bneF (by omega)
          have hr3 : rows.length ≤ sows.length := by omega
          have HR := hid hr
          clear hr
          obtain ⟨wo, rfl⟩ : ∃ wo : World, wo = wr := ⟨_, rfl⟩
          go_wp2
          go_quiet (fail)
          go_wp2
          go_loopw [6] (fun i wr => ∃ j : Nat, j ≤ rows.length ∧ i = .int .i64 j ∧ Hid (rows.take j = sows.take j) ∧ Below wo.heap.size wo wr) (fun i _ => rows.length - (intOf i).toNat)
          case atStart => exact ⟨0, Nat.zero_le _, rfl, hid rfl, below_drewN (Below.refl _ _) _⟩
          case round =>
            obtain ⟨j, hj, rfl, hpre2, hb2⟩ := hrel
            have hu2 : RowsV S wr (.slice ak rows.length ck) rows := hrk0.keep (KeepS.below hb2)
            have hv2 : RowsV T wr (.slice bk sows.length dk) sows := hsk0.keep (KeepS.below hb2)
            have hck2 := cell_later hb2 hck
            have hdk2 := cell_later hb2 hdk
            by_cases hjr : j < rows.length
            · have hjr' : j < sows.length := by omega
              obtain ⟨ur, hcr, hbr, hrr⟩ := hu2.at hjr
              obtain ⟨vr, hdr, hbr', hsr⟩ := hv2.at hjr'
              have HE2 : Hid (rows[j] = sows[j] → rows.take (j + 1) = sows.take (j + 1)) := hid (take_eq_succ' hjr hjr' hpre2.out)
              have HN2 : Hid (rows[j] ≠ sows[j] → ¬ rows = sows) := hid (fun h e => h (by subst e; rfl))
              generalize rows[j] = r at *
              generalize sows[j] = s at *
              have hrr0 := hrr
              have hsr0 := hsr
              obtain ⟨ar, cr, rfl, -, -, -⟩ := hrr.form
              obtain ⟨br, dr, rfl, -, -, -⟩ := hsr.form
              clear hrr hsr
              have hj0 : (0 : Int) ≤ j := by omega
              have hj1 : (j : Int) < rows.length := by omega
              have hj2 : (j : Int) < sows.length := by omega
              have HS : ∀ nq, Hid (Calls Try.prog 55 #[.slice ar r.length cr, .slice br s.length dr] (wr.drewN nq) fun e w'' => e = .returned (.bool (decide (r = s))) ∧ ∃ m, w'' = wr.drewN m) := fun nq =>
                hid (Calls.quiet_of (sameInts_any r s _ _ S T (wr.drewN nq) (IntsV.keep hrr0 (KeepS.below (below_drewN (Below.refl _ _) _))) (IntsV.keep hsr0 (KeepS.below (below_drewN (Below.refl _ _) _)))))
              by_cases hrs : r = s
              · have HT := hid (HE2.out hrs)
                have HD := hid (decide_eq_true hrs)
                rw [HD.out] at HS
                clear HE2 HN2 hrr0 hsr0 hrs HD
                go_wp2
                go_quiet (exact (HS _).out)
                go_wp2
                go_roundw
                case rel => exact ⟨j + 1, by omega, by go_num, HT, below_drewN hb2 _⟩
                case measure => simp [intOf]; omega
              · have HT := hid (HN.out (HN2.out hrs))
                have HD := hid (decide_eq_false hrs)
                rw [HD.out] at HS
                clear HE2 HN2 hrr0 hsr0 hrs HD
                go_wp2
                go_quiet (exact (HS _).out)
                go_wp2
                go_ret
                exact ⟨ret_bool (decide_eq_false HT.out).symm, below_drewN (hb.trans (hb2.mono hb.size)) _⟩
            · have HT := hid (HE.out (same_prefix' HR.out (by omega) hpre2.out))
              clear HE HN
              go_wp2
              go_roundw
              case rel => exact ⟨k + 1, by omega, by go_num, HT, hb.trans (hb2.mono hb.size)⟩
              case measure => simp [intOf]; omega
        · have g1 : ((rows.length : Int) != (sows.length : Int)) = true := bneT (by omega)
          have HT := hid (HN.out (fun e => hr (by rw [e])))
          clear HE HN hr
          go_wp2
          go_quiet (fail)
          go_wp2
          go_ret
          exact ⟨ret_bool (decide_eq_false HT.out).symm, below_drewN hb _⟩
      · have HT := hid (same_prefix' HL.out (by omega) hpre.out)
        go_wp2
        go_ret
        exact ⟨ret_bool (decide_eq_true HT.out).symm, hb⟩
  · have hl2 : ((V.length : Int) != (W.length : Int)) = true := bneT (by omega)
    have HD := hid (decide_eq_false (p := V = W) (fun e => hl (by rw [e])))
    clear hl
    go_enter Try.func33, Try.ntmps33
    go_wp2
    go_ret
    exact ⟨ret_bool HD.out.symm, Below.refl _ _⟩

end Go.Proofs.Yteepdnamkcgndaa
