/- apply of the program: what it returns. -/
import Derived.Test.YtagnjhhbbjbhcaaPApply4
import Derived.Test.YtagnjhhbbjbhcaaPApply5
import Derived.Test.YtagnjhhbbjbhcaaPApply6
namespace Go.Proofs.Ytagnjhhbbjbhcaa
open Go.RowKit

theorem apply1_any (V : List (List (List Int))) (hE : EvenW V) (hV : V.length ≤ 6) (hR : ∀ rows ∈ V, rows.length ≤ 100000) (c : Chg) (hc : c.values.length ≤ 100000) (ad : Option Addr) (cap : Nat) (S T' : Nat → Prop) (w : World) (aa : Option Addr) (ca : Nat)
    (hw : WorldF S w (.slice aa V.length ca) V) (hu : IntsV T' w (.slice ad c.values.length cap) c.values) :
    Calls Try.prog 40 #[.slice aa V.length ca, c.val (.slice ad c.values.length cap)] w fun e w' => e = .returned (.int .i64 (fitsE V c)) ∧ Turns S w w' ∧ (fitsE V c = 0 → WorldF (Grow S w.heap.size) w' (.slice aa V.length ca) (doC V c)) := by
  obtain ⟨aa', ca', ea, hoka, hcapa, hmaxa⟩ := hw.sl.form
  cases ea
  obtain ⟨ax, cx, ex, hokx, hcapx, hmaxx⟩ := hu.form
  cases ex
  have err : ∀ {n : Int}, n ≠ 0 → fitsE V c = n → (Calls Try.prog 40 #[.slice aa V.length ca, c.val (.slice ad c.values.length cap)] w fun e w' => e = .returned (.int .i64 n) ∧ Below w.heap.size w w') →
      (Calls Try.prog 40 #[.slice aa V.length ca, c.val (.slice ad c.values.length cap)] w fun e w' => e = .returned (.int .i64 (fitsE V c)) ∧ Turns S w w' ∧ (fitsE V c = 0 → WorldF (Grow S w.heap.size) w' (.slice aa V.length ca) (doC V c))) := by
    intro n hn hf h
    rw [hf]
    exact h.mono fun e w' ⟨h1, h2⟩ => ⟨h1, Turns.of_below h2, fun h => absurd h hn⟩
  by_cases hfm : FormedC c
  · obtain ⟨k, i, f, o, nw, xs⟩ := c
    simp only [Chg.val] at err hu hc hokx hcapx ⊢
    by_cases hkn : 0 ≤ k ∧ k < (V.length : Int)
    · obtain ⟨kn, rfl⟩ := Int.eq_ofNat_of_zero_le hkn.1
      have hk : kn < V.length := by omega
      have hrows : rowsC V ⟨kn, i, f, o, nw, xs⟩ = V[kn] := by unfold rowsC; simp only [Int.toNat_natCast]; exact getD_eq hk
      have hmem : V[kn] ∈ V := List.getElem_mem hk
      have hrl := hR _ hmem
      have hkc : KnownC V ⟨kn, i, f, o, nw, xs⟩ := hkn
      obtain ⟨ak, ck, hck, hbk, hokk, hmk, hmax2, hrV⟩ := kind_at hw.sl hk
      have hrow0 : 0 < V[kn].length → ∃ a0 c0, w.cell? ⟨slb ak, slo ak, none⟩ = some (.slice a0 (V[kn].headD []).length c0) ∧ slb ak < w.heap.size ∧ (V[kn].headD []).length ≤ 9223372036854775807 := by
        intro h0
        obtain ⟨a0, c0, h1, h2, _, h3, h4, _⟩ := row_at hrV h0
        refine ⟨a0, c0, ?_, h2, ?_⟩
        · rw [headD_eq [] h0]; simpa using h1
        · rw [headD_eq [] h0]; omega
      by_cases hfn : f < 0
      · have hf12 : f = -1 ∨ f = -2 := by have h := hfm; unfold FormedC at h; simp only at h; rw [if_neg (by omega)] at h; have := h.1; omega
        by_cases hmis : 0 < V[kn].length ∧ xs.length ≠ (V[kn].headD []).length
        · obtain ⟨a0, c0, h1, h2, h3⟩ := hrow0 hmis.1
          refine err (n := 2) (by decide) (by unfold fitsE; rw [if_pos (.inr ⟨hfn, hkc, by rw [hrows]; exact hmis.1, by rw [hrows]; exact hmis.2⟩)]) ?_
          exact apply1_mis V.length kn hV hk i f o nw xs hfn hfm ad cap hcapx hmaxx w aa ak a0 ca ck c0 V[kn].length _ hoka hcapa hck hbk hokk hmk hmax2 hmis.1 h1 h2 h3 hmis.2
        · have hnm : ¬ (¬ FormedC ⟨kn, i, f, o, nw, xs⟩ ∨ MisC V ⟨kn, i, f, o, nw, xs⟩) := by
            rintro (h | h)
            · exact h hfm
            · have h1 := h.2.2; rw [hrows] at h1; exact hmis h1
          have hmm : V[kn].length = 0 ∨ xs.length = (V[kn].headD []).length := by omega
          rcases hf12 with rfl | rfl
          · by_cases hi : i = V[kn].length
            · have hz : fitsE V ⟨kn, i, -1, o, nw, xs⟩ = 0 := by unfold fitsE; rw [if_neg hnm, if_neg (fun h => h hkc), if_pos rfl, if_neg (by rw [hrows]; exact fun h => h hi)]
              have hd : doC V ⟨kn, i, -1, o, nw, xs⟩ = V.set kn (V[kn] ++ [xs]) := by unfold doC; rw [if_pos rfl, hrows]; simp
              rw [hz, hd]
              subst hi
              exact (apply1_add V S T' w aa ca hw kn hk hV o nw xs ad cap hu hc hrl hfm hmm).mono fun e w' ⟨h1, h2, h3⟩ => ⟨h1, h2, fun _ => h3⟩
            · refine err (n := 5) (by decide) (by unfold fitsE; rw [if_neg hnm, if_neg (fun h => h hkc), if_pos rfl, if_pos (by rw [hrows]; exact hi)]) ?_
              rcases Nat.eq_zero_or_pos V[kn].length with h0 | h0
              · exact apply1_add5 V.length kn hV hk i o nw xs hfm ad cap hcapx hmaxx w aa ak none ca ck 0 V[kn].length 0 hoka hcapa hck hbk hokk hmk hmax2 (.inl h0) hi
              · obtain ⟨a0, c0, h1, h2, h3⟩ := hrow0 h0
                exact apply1_add5 V.length kn hV hk i o nw xs hfm ad cap hcapx hmaxx w aa ak a0 ca ck c0 V[kn].length _ hoka hcapa hck hbk hokk hmk hmax2 (.inr ⟨h0, h1, h2, h3, by omega⟩) hi
          · by_cases hi : V[kn].length = 0 ∨ i ≠ (V[kn].length : Int) - 1
            · refine err (n := 5) (by decide) (by unfold fitsE; rw [if_neg hnm, if_neg (fun h => h hkc), if_neg (show ¬ (-2 : Int) = -1 by decide), if_pos rfl, if_pos (by rw [hrows]; exact hi)]) ?_
              rcases Nat.eq_zero_or_pos V[kn].length with h0 | h0
              · exact apply1_take5 V.length kn hV hk i o nw xs hfm ad cap hcapx hmaxx w aa ak none ca ck 0 V[kn].length 0 hoka hcapa hck hbk hokk hmk hmax2 (.inl h0)
              · obtain ⟨a0, c0, h1, h2, h3⟩ := hrow0 h0
                exact apply1_take5 V.length kn hV hk i o nw xs hfm ad cap hcapx hmaxx w aa ak a0 ca ck c0 V[kn].length _ hoka hcapa hck hbk hokk hmk hmax2 (.inr ⟨h0, h1, h2, h3, by omega, by omega⟩)
            · obtain ⟨p, hp⟩ : ∃ p, V[kn].length = p + 1 := ⟨V[kn].length - 1, by omega⟩
              obtain rfl : i = (p : Int) := by omega
              obtain ⟨a0, c0, h1, h2, h3⟩ := hrow0 (by omega)
              by_cases hl : V[kn].getD p [] = xs
              · have hz : fitsE V ⟨kn, p, -2, o, nw, xs⟩ = 0 := by
                  unfold fitsE; rw [if_neg hnm, if_neg (fun h => h hkc), if_neg (show ¬ (-2 : Int) = -1 by decide), if_pos rfl, if_neg (by rw [hrows]; exact hi), if_neg (by rw [hrows]; simp only [Int.toNat_natCast]; exact fun h => h hl)]
                have hd : doC V ⟨kn, p, -2, o, nw, xs⟩ = V.set kn (V[kn].take p) := by unfold doC; rw [if_neg (show ¬ (-2 : Int) = -1 by decide), if_pos rfl, hrows]; simp
                rw [hz, hd]
                exact (apply1_take V S T' w aa ca hw kn hk hV o nw xs ad cap hu hc hrl p hp hfm (by omega) hl).mono fun e w' ⟨h1, h2, h3⟩ => ⟨h1, h2, fun _ => h3⟩
              · refine err (n := 16) (by decide) ?_ ?_
                · unfold fitsE; rw [if_neg hnm, if_neg (fun h => h hkc), if_neg (show ¬ (-2 : Int) = -1 by decide), if_pos rfl, if_neg (by rw [hrows]; exact hi), if_pos (by rw [hrows]; simp only [Int.toNat_natCast]; exact hl)]
                · obtain ⟨ap, cp, k1, k2, k3, k4, k5, k6⟩ := row_at hrV (show p < V[kn].length by omega)
                  exact apply1_take16 V.length kn hV hk p o nw xs hfm ad cap hcapx hmaxx w aa ak a0 ca ck c0 V[kn].length _ hoka hcapa hck hbk hokk hmk hmax2 hp ⟨h1, h2, h3, by omega⟩ S T' _ ap cp k1 k6 hu (by rw [← getD_eq (d := []) (show p < V[kn].length by omega)]; exact hl)
      · have hf1 : f ≠ -1 := by omega
        have hf2 : f ≠ -2 := by omega
        have hnm : ¬ (¬ FormedC ⟨kn, i, f, o, nw, xs⟩ ∨ MisC V ⟨kn, i, f, o, nw, xs⟩) := by
          rintro (h | h)
          · exact h hfm
          · exact hfn h.1
        obtain ⟨fn, rfl⟩ := Int.eq_ofNat_of_zero_le (show 0 ≤ f by omega)
        by_cases hi : i < 0 ∨ (V[kn].length : Int) ≤ i ∨ ((V[kn].headD []).length : Int) ≤ fn
        · refine err (n := 5) (by decide) (by unfold fitsE; rw [if_neg hnm, if_neg (fun h => h hkc), if_neg hf1, if_neg hf2, if_pos (by rw [hrows]; exact hi)]) ?_
          by_cases hi0 : i < 0
          · exact apply1_set5 V.length kn hV hk i fn o nw xs hfm ad cap hcapx hmaxx w aa ak none ca ck 0 V[kn].length 0 hoka hcapa hck hbk hokk hmk hmax2 (by omega) (.inl hi0)
          · by_cases hi1 : (V[kn].length : Int) ≤ i
            · exact apply1_set5 V.length kn hV hk i fn o nw xs hfm ad cap hcapx hmaxx w aa ak none ca ck 0 V[kn].length 0 hoka hcapa hck hbk hokk hmk hmax2 (by omega) (.inr (.inl ⟨by omega, hi1⟩))
            · obtain ⟨a0, c0, h1, h2, h3⟩ := hrow0 (by omega)
              exact apply1_set5 V.length kn hV hk i fn o nw xs hfm ad cap hcapx hmaxx w aa ak a0 ca ck c0 V[kn].length _ hoka hcapa hck hbk hokk hmk hmax2 (by omega) (.inr (.inr ⟨by omega, by omega, h1, h2, h3, by omega⟩))
        · obtain ⟨p, rfl⟩ := Int.eq_ofNat_of_zero_le (show 0 ≤ i by omega)
          have hp : p < V[kn].length := by omega
          have hev := hE _ hmem _ (List.getElem_mem hp)
          have hfp : fn < (V[kn][p]).length := by omega
          obtain ⟨a0, c0, h1, h2, h3⟩ := hrow0 (by omega)
          by_cases hold : (V[kn].getD p []).getD fn 0 = o
          · have hz : fitsE V ⟨kn, p, fn, o, nw, xs⟩ = 0 := by
              unfold fitsE; rw [if_neg hnm, if_neg (fun h => h hkc), if_neg hf1, if_neg hf2, if_neg (by rw [hrows]; exact hi), if_neg (by rw [hrows]; simp only [Int.toNat_natCast]; exact fun h => h hold)]
            have hd : doC V ⟨kn, p, fn, o, nw, xs⟩ = V.set kn (V[kn].set p ((V[kn].getD p []).set fn nw)) := by
              unfold doC; rw [if_neg hf1, if_neg hf2, hrows]; simp only [Int.toNat_natCast]
            rw [hz, hd]
            exact (apply1_set V S w aa ca hw kn hk hV o nw xs ad cap hcapx hmaxx hrl p fn hp hfm (by omega) (by rw [getD_eq hp]; exact hfp) (by rw [getD_eq hp]; omega) hold).mono fun e w' ⟨h1, h2, h3⟩ => ⟨h1, h2, fun _ => h3⟩
          · refine err (n := 16) (by decide) ?_ ?_
            · unfold fitsE; rw [if_neg hnm, if_neg (fun h => h hkc), if_neg hf1, if_neg hf2, if_neg (by rw [hrows]; exact hi), if_pos (by rw [hrows]; simp only [Int.toNat_natCast]; exact hold)]
            · obtain ⟨ap, cp, k1, k2, k3, k4, k5, k6⟩ := row_at hrV hp
              obtain ⟨uv, j1, j2, j3⟩ := k6.at hfp
              rw [j3] at j1
              exact apply1_set16 V.length kn hV hk p fn o nw xs hfm ad cap hcapx hmaxx w aa ak a0 ca ck c0 V[kn].length _ hoka hcapa hck hbk hokk hmk hmax2 hp ⟨h1, h2, h3, by omega⟩ ap cp _ k1 k3 hfp j2 _ j1 (by rw [getD_eq hp, getD_eq hfp] at hold; exact hold)
    · refine err (n := 5) (by decide) ?_ (apply1_unk V.length k i f o nw hkn xs hfm ad cap w aa ca)
      have hnk : ¬ KnownC V ⟨k, i, f, o, nw, xs⟩ := hkn
      have hnm : ¬ (¬ FormedC ⟨k, i, f, o, nw, xs⟩ ∨ MisC V ⟨k, i, f, o, nw, xs⟩) := by
        rintro (h | h)
        · exact h hfm
        · exact hnk h.2.1
      unfold fitsE
      rw [if_neg hnm, if_pos hnk]
  · exact err (by decide) (by unfold fitsE; rw [if_pos (.inl hfm)]) (apply1_bad V c ad cap S T' w aa ca hV hfm)

end Go.Proofs.Ytagnjhhbbjbhcaa
