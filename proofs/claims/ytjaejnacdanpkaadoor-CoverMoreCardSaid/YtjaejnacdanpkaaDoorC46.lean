/- rising of the reference: whether indices strictly increase and are indices of forbidden combinations. -/
import Derived.Test.YtjaejnacdanpkaaDoorB31
import Derived.Test.YtjaejnacdanpkaaDoorC16
namespace Go.Proofs.YtjaejnacdanpkaaDoor
open Go.RowKit

set_option maxRecDepth 100000 in
set_option maxHeartbeats 2000000 in
theorem rising_any (m : Nat) (l : List Int) (sv tv lv : Value) (hsv : ∃ a n k, sv = .slice a n k) (htv : ∃ t, tv = .int .i64 t) (fa : Option Addr) (fc : Nat) (S : Nat → Prop) (w : World) (hl : IntsV S w lv l) :
    Calls Tryd.prog 50 #[.agg #[sv, .slice fa m fc, tv], lv] w fun e w' => e = .returned (.bool (risF m (-1) l)) ∧ Below w.heap.size w w' := by
  obtain ⟨sa, sl, sc, rfl⟩ := hsv
  obtain ⟨t, rfl⟩ := htv
  have hb0 : Below w.heap.size w (w.alloc (.cells #[.slice sa sl sc, .slice fa m fc, .int .i64 t] 25)) := (Below.refl _ _).alloc (Nat.le_refl _) _
  have bx1 : (w.alloc (.cells #[.slice sa sl sc, .slice fa m fc, .int .i64 t] 25)).cell? ⟨w.heap.size, 1, none⟩ = some (.slice fa m fc) := by rw [cell_of_row _ _ 1 _ _ (0, 0) (World.alloc_heap_new w _)]; rfl
  have hl0 := IntsV.keep hl (KeepS.below hb0)
  obtain ⟨a, cap, rfl, hok, hcap, hmax⟩ := hl.form
  have HL := hid hl0
  have HB := hid hb0
  clear hl hl0 hb0
  go_enter Tryd.func50, Tryd.ntmps50
  go_wp2
  generalize hW : w.alloc (.cells #[.slice sa sl sc, .slice fa m fc, .int .i64 t] 25) = W at *
  clear hW
  go_loopw [5] (fun i wr => ∃ (k : Nat) (p : Int), k ≤ l.length ∧ i = .int .i64 k ∧ -1 ≤ p ∧ Hid (k = 0 → p = -1) ∧ Hid (∀ (h0 : 0 < k) (h : k - 1 < l.length), l[k - 1] = p) ∧ Hid (risF m (-1) l = risF m p (l.drop k)) ∧ ∃ n, wr = W.drewN n) (fun i _ => l.length - (intOf i).toNat)
  case atStart => exact ⟨0, -1, by omega, rfl, by omega, hid (fun _ => rfl), hid (fun h => absurd h (by omega)), hid rfl, 0, rfl⟩
  case round =>
    obtain ⟨k, p, hk, rfl, hp1, HK0, HK1, HS, n, rfl⟩ := hrel
    by_cases hlt : k < l.length
    · obtain ⟨u, hc, hbk, rfl⟩ := HL.out.at hlt
      have HD : Hid (risF m (-1) l = (decide (p < l[k]) && (decide (l[k] < m) && risF m l[k] (l.drop (k + 1))))) := hid (by
        rw [HS.out, List.drop_eq_getElem_cons hlt]; rfl)
      obtain ⟨x, hx⟩ : ∃ x, l[k] = x := ⟨_, rfl⟩
      have HX2 := hid (fun (h : k + 1 - 1 < l.length) => (show l[k + 1 - 1] = x from by simpa using hx))
      rw [hx] at HD hc
      clear hx HS
      have hk0 : (0 : Int) ≤ k := by omega
      have hk1 : (k : Int) < l.length := by omega
      have d0 : decide ((k : Int) < l.length) = true := decide_eq_true hk1
      have d0' : decide (k < l.length) = true := decide_eq_true hlt
      have fin : ∀ b, risF m (-1) l = b → Hid (risF m (-1) l = b) := fun b h => hid h
      by_cases h1 : x < 0
      · have HR := fin false (by rw [HD.out, decide_eq_false (by omega)]; rfl)
        have d1 : decide (x < 0) = true := decide_eq_true h1
        clear fin HD HX2 HK0 HK1
        go_wp2
        go_quiet (fail)
        go_wp2
        go_ret
        exact ⟨ret_bool HR.out.symm, by first | exact below_drewN HB.out _ | exact below_drewN (below_drewN HB.out _) _⟩
      · have d1 : decide (x < 0) = false := decide_eq_false h1
        by_cases h2 : (m : Int) ≤ x
        · have HR := fin false (by rw [HD.out, decide_eq_false (show ¬ x < (m : Int) by omega)]; simp)
          have d2 : decide ((m : Int) ≤ x) = true := decide_eq_true h2
          clear fin HD HX2 HK0 HK1
          go_wp2
          go_quiet (fail)
          go_wp2
          go_ret
          exact ⟨ret_bool HR.out.symm, by first | exact below_drewN HB.out _ | exact below_drewN (below_drewN HB.out _) _⟩
        · have d2 : decide ((m : Int) ≤ x) = false := decide_eq_false h2
          by_cases h3 : 0 < k
          · have hk3 : (0 : Int) < k := by omega
            have d3 : decide ((0 : Int) < k) = true := decide_eq_true hk3
            have d3' : decide (0 < k) = true := decide_eq_true h3
            have hkl : k - 1 < l.length := by omega
            obtain ⟨u', hc', hbk', hu'⟩ := HL.out.at hkl
            rw [HK1.out h3 hkl] at hu'
            subst hu'
            have htn : ((k : Int) - 1).toNat = k - 1 := by omega
            have hix : ∀ X, (Instr.indexAt 22 (.slice a l.length cap) (.int .i64 ((k : Int) - 1))).run Tryd.prog X = .ok (.pointer (some ⟨slb a, slo a + (k - 1), none⟩)) X := fun X => by
              have h := run_indexAt_var (P := Tryd.prog) X 22 a l.length cap .i64 ((k : Int) - 1) (by kernel_rfl) hok (by omega) (by omega)
              have hs1 : (sizeOf (Tryd.prog.elem 22)).run Tryd.prog X = .ok 1 X := rfl
              rw [h, hs1, htn]
              simp [Result.andThen]
            by_cases h4 : x ≤ p
            · have HR := fin false (by rw [HD.out, decide_eq_false (by omega)]; rfl)
              have d4 : decide (x ≤ p) = true := decide_eq_true h4
              clear fin HD HX2 HK0 HK1
              go_wp2
              go_quiet (fail)
              go_wp2
              go_ret
              exact ⟨ret_bool HR.out.symm, by first | exact below_drewN HB.out _ | exact below_drewN (below_drewN HB.out _) _⟩
            · have d4 : decide (x ≤ p) = false := decide_eq_false h4
              have HN : Hid (risF m (-1) l = risF m x (l.drop (k + 1))) := hid (by rw [HD.out, decide_eq_true (by omega), decide_eq_true (by omega)]; rfl)
              clear fin HD HK0 HK1
              go_wp2
              go_quiet (fail)
              go_wp2
              go_roundw
              case rel => exact ⟨k + 1, x, by omega, by go_num, by omega, hid (fun h => absurd h (by omega)), hid (fun _ h => HX2.out h), HN, _, rfl⟩
              case measure => simp [intOf]; omega
          · have d3 : decide ((0 : Int) < k) = false := decide_eq_false (by omega)
            have d3' : decide (0 < k) = false := decide_eq_false h3
            have hpm := HK0.out (by omega)
            have HN : Hid (risF m (-1) l = risF m x (l.drop (k + 1))) := hid (by rw [HD.out, decide_eq_true (by omega), decide_eq_true (by omega)]; rfl)
            clear fin HD HK0 HK1 h3 hpm
            go_wp2
            go_quiet (fail)
            go_wp2
            go_roundw
            case rel => exact ⟨k + 1, x, by omega, by go_num, by omega, hid (fun h => absurd h (by omega)), hid (fun _ h => HX2.out h), HN, _, rfl⟩
            case measure => simp [intOf]; omega
    · obtain rfl : k = l.length := by omega
      have d0 : decide ((l.length : Int) < l.length) = false := decide_eq_false (by omega)
      have d0' : decide (l.length < l.length) = false := decide_eq_false hlt
      have HR : Hid (risF m (-1) l = true) := hid (by rw [HS.out, List.drop_length]; rfl)
      clear HK0 HK1 HS
      go_wp2
      go_ret
      exact ⟨ret_bool HR.out.symm, by first | exact below_drewN HB.out _ | exact below_drewN (below_drewN HB.out _) _⟩

end Go.Proofs.YtjaejnacdanpkaaDoor
