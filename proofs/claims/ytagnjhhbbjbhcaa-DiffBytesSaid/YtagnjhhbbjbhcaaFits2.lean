/- Fits of the reference: every change. -/
import Derived.Test.YtagnjhhbbjbhcaaFits
namespace Go.Proofs.Ytagnjhhbbjbhcaa
open Go.RowKit

set_option maxHeartbeats 1000000 in
theorem rfits_bad (c : Chg) (hfm : ¬ FormedC c) (ad : Option Addr) (cap n : Nat) (w : World) (aa : Option Addr) (ca : Nat) :
    Calls Try.prog 42 #[.slice aa n ca, c.val (.slice ad c.values.length cap)] w fun e w' => e = .returned (.int .i64 2) ∧ Below w.heap.size w w' := by
  have hF := rformed_any c ad cap
  rw [decide_eq_false hfm] at hF
  have HF := hid hF
  clear hF hfm
  obtain ⟨k, i, f, o, nw, xs⟩ := c
  simp only [Chg.val] at HF ⊢
  go_enter Try.func42, Try.ntmps42
  go_wp2_with fail
  refine (HF.out _).mono ?_
  rintro e w2 ⟨rfl, hb2⟩
  have hb02 : Below w.heap.size w w2 := ((Below.refl _ _).alloc (Nat.le_refl _) _).trans (hb2.mono (by simp))
  clear hb2 HF
  go_wp2
  go_ret
  exact ⟨rfl, hb02⟩

set_option maxHeartbeats 2000000 in
theorem rfits_unk (n : Nat) (_hn : n ≤ 6) (k i f o nw : Int) (hk : ¬ (0 ≤ k ∧ k < n)) (xs : List Int) (hfm : FormedC ⟨k, i, f, o, nw, xs⟩) (ad : Option Addr) (cap : Nat) (w : World) (aa : Option Addr) (ca : Nat) :
    Calls Try.prog 42 #[.slice aa n ca, .agg #[.int .i64 k, .int .i64 i, .int .i64 f, .int .i64 o, .int .i64 nw, .slice ad xs.length cap]] w fun e w' => e = .returned (.int .i64 5) ∧ Below w.heap.size w w' := by
  have hF := rformed_any ⟨k, i, f, o, nw, xs⟩ ad cap
  rw [decide_eq_true hfm] at hF
  have HF := hid hF
  clear hF hfm
  simp only [Chg.val] at HF
  by_cases h0 : k < 0
  · have d1 : decide (k < 0) = true := decide_eq_true h0
    clear hk
    go_enter Try.func42, Try.ntmps42
    go_wp2_with fail
    refine (HF.out _).mono ?_
    rintro e w2 ⟨rfl, hb2⟩
    have hb02 : Below w.heap.size w w2 := ((Below.refl _ _).alloc (Nat.le_refl _) _).trans (hb2.mono (by simp))
    have hbx := (hb2.block w.heap.size (by simp)).trans (World.alloc_heap_new _ _)
    have hszx := (Array.getElem?_eq_some_iff.1 hbx).1
    have b0 : w2.cell? ⟨w.heap.size, 0, none⟩ = some (.int .i64 k) := by simp [World.cell?, hbx]
    clear hbx hb2 HF
    go_wp2
    go_ret
    exact ⟨rfl, hb02⟩
  · obtain ⟨q, rfl⟩ := Int.eq_ofNat_of_zero_le (show 0 ≤ k by omega)
    have d1 : decide ((q : Int) < 0) = false := decide_eq_false h0
    have d2 : decide ((n : Int) ≤ (q : Int)) = true := decide_eq_true (by omega)
    have d2' : decide (n ≤ q) = true := decide_eq_true (by omega)
    clear hk
    go_enter Try.func42, Try.ntmps42
    go_wp2_with fail
    refine (HF.out _).mono ?_
    rintro e w2 ⟨rfl, hb2⟩
    have hb02 : Below w.heap.size w w2 := ((Below.refl _ _).alloc (Nat.le_refl _) _).trans (hb2.mono (by simp))
    have hbx := (hb2.block w.heap.size (by simp)).trans (World.alloc_heap_new _ _)
    have hszx := (Array.getElem?_eq_some_iff.1 hbx).1
    have b0 : w2.cell? ⟨w.heap.size, 0, none⟩ = some (.int .i64 (q : Int)) := by simp [World.cell?, hbx]
    clear hbx hb2 HF
    go_wp2
    go_ret
    exact ⟨rfl, hb02⟩

theorem fitsE_known {V : List (List (List Int))} {kn : Nat} (hk : kn < V.length) {i f o nw : Int} {xs : List Int} (hfm : FormedC ⟨kn, i, f, o, nw, xs⟩) : fitsE V ⟨kn, i, f, o, nw, xs⟩ = fitsG V[kn] i f o xs := by
  have hrows : rowsC V ⟨kn, i, f, o, nw, xs⟩ = V[kn] := by unfold rowsC; simp only [Int.toNat_natCast]; exact getD_eq hk
  have hkc : KnownC V ⟨kn, i, f, o, nw, xs⟩ := by unfold KnownC; simp only; omega
  unfold fitsE fitsG
  have e : (¬ FormedC ⟨kn, i, f, o, nw, xs⟩ ∨ MisC V ⟨kn, i, f, o, nw, xs⟩) ↔ (f < 0 ∧ 0 < V[kn].length ∧ xs.length ≠ (V[kn].headD []).length) := by
    unfold MisC
    rw [hrows]
    constructor
    · rintro (h | h)
      · exact absurd hfm h
      · exact ⟨h.1, h.2.2⟩
    · exact fun h => .inr ⟨h.1, hkc, h.2⟩
  by_cases h1 : f < 0 ∧ 0 < V[kn].length ∧ xs.length ≠ (V[kn].headD []).length
  · rw [if_pos (e.2 h1), if_pos h1]
  · rw [if_neg (fun h => h1 (e.1 h)), if_neg h1, if_neg (fun h => h hkc), hrows]

theorem rfits_any (V : List (List (List Int))) (hE : EvenW V) (hV : V.length ≤ 6) (hR : ∀ rows ∈ V, rows.length ≤ 100000) (c : Chg) (hc : c.values.length ≤ 100000) (ad : Option Addr) (cap : Nat) (S T' : Nat → Prop) (w : World) (aa : Option Addr) (ca : Nat)
    (hw : WorldV S w (.slice aa V.length ca) V) (hu : IntsV T' w (.slice ad c.values.length cap) c.values) :
    Calls Try.prog 42 #[.slice aa V.length ca, c.val (.slice ad c.values.length cap)] w fun e w' => e = .returned (.int .i64 (fitsE V c)) ∧ Below w.heap.size w w' := by
  obtain ⟨aa', ca', ea, hoka, hcapa, hmaxa⟩ := hw.form
  cases ea
  by_cases hfm : FormedC c
  · obtain ⟨k, i, f, o, nw, xs⟩ := c
    simp only [Chg.val] at hu hc ⊢
    by_cases hkn : 0 ≤ k ∧ k < (V.length : Int)
    · obtain ⟨kn, rfl⟩ := Int.eq_ofNat_of_zero_le hkn.1
      have hk : kn < V.length := by omega
      have hmem : V[kn] ∈ V := List.getElem_mem hk
      obtain ⟨ak, ck, hck, hbk, hokk, hmk, hmax2, hrV⟩ := kind_at hw hk
      rw [fitsE_known hk hfm]
      have hneg : f < 0 → f = -1 ∨ f = -2 := by
        intro hf
        have h := hfm
        unfold FormedC at h
        simp only at h
        rw [if_neg (by omega)] at h
        omega
      by_cases hf : f < 0
      · rcases hneg hf with rfl | rfl
        · exact rfits_add V.length kn hV hk V[kn] (hR _ hmem) (fun r hr => hE _ hmem r hr) w S T' aa ak ca ck hoka hcapa hmaxa hck hbk hrV xs hc ad cap hu i o nw hfm
        · exact rfits_take V.length kn hV hk V[kn] (hR _ hmem) (fun r hr => hE _ hmem r hr) w S T' aa ak ca ck hoka hcapa hmaxa hck hbk hrV xs hc ad cap hu i o nw hfm
      · obtain ⟨fn, rfl⟩ := Int.eq_ofNat_of_zero_le (show 0 ≤ f by omega)
        exact rfits_set V.length kn hV hk V[kn] (hR _ hmem) (fun r hr => hE _ hmem r hr) w S T' aa ak ca ck hoka hcapa hmaxa hck hbk hrV xs hc ad cap hu fn i o nw hfm
    · have hnk : ¬ KnownC V ⟨k, i, f, o, nw, xs⟩ := hkn
      have hz : fitsE V ⟨k, i, f, o, nw, xs⟩ = 5 := by
        unfold fitsE
        rw [if_neg (by
          rintro (h | h)
          · exact h hfm
          · exact hnk h.2.1), if_pos hnk]
      rw [hz]
      exact rfits_unk V.length hV k i f o nw hkn xs hfm ad cap w aa ca
  · have hz : fitsE V c = 2 := by unfold fitsE; rw [if_pos (.inl hfm)]
    rw [hz]
    exact rfits_bad c hfm ad cap V.length w aa ca

/-- A change that fits: what it is, and what it does. -/
theorem fits_ok {V : List (List (List Int))} {c : Chg} (h : fitsE V c = 0) : FormedC c ∧ ∃ kn : Nat, ∃ hk : kn < V.length, c.kind = kn ∧
    ((c.field = -1 ∧ c.index = V[kn].length ∧ doC V c = V.set kn (V[kn] ++ [c.values])) ∨
      (∃ p : Nat, c.field = -2 ∧ V[kn].length = p + 1 ∧ c.index = p ∧ doC V c = V.set kn (V[kn].take p)) ∨
      (∃ fn p : Nat, c.field = fn ∧ c.index = p ∧ p < V[kn].length ∧ fn < (V[kn].headD []).length ∧ doC V c = V.set kn (V[kn].set p ((V[kn].getD p []).set fn c.new)))) := by
  obtain ⟨k, i, f, o, nw, xs⟩ := c
  have hfm : FormedC ⟨k, i, f, o, nw, xs⟩ := by
    by_cases h1 : FormedC ⟨k, i, f, o, nw, xs⟩
    · exact h1
    · unfold fitsE at h; rw [if_pos (.inl h1)] at h; exact absurd h (by decide)
  have hkc : KnownC V ⟨k, i, f, o, nw, xs⟩ := by
    by_cases h1 : KnownC V ⟨k, i, f, o, nw, xs⟩
    · exact h1
    · unfold fitsE at h
      by_cases h2 : ¬ FormedC ⟨k, i, f, o, nw, xs⟩ ∨ MisC V ⟨k, i, f, o, nw, xs⟩
      · rw [if_pos h2] at h; exact absurd h (by decide)
      · rw [if_neg h2, if_pos h1] at h; exact absurd h (by decide)
  obtain ⟨k0, k1⟩ := hkc
  simp only at k0 k1
  obtain ⟨kn, rfl⟩ := Int.eq_ofNat_of_zero_le k0
  have hk : kn < V.length := by omega
  refine ⟨hfm, kn, hk, rfl, ?_⟩
  rw [fitsE_known hk hfm] at h
  have hrows : rowsC V ⟨kn, i, f, o, nw, xs⟩ = V[kn] := by unfold rowsC; simp only [Int.toNat_natCast]; exact getD_eq hk
  unfold doC
  rw [hrows]
  unfold fitsG at h
  simp only [Int.toNat_natCast]
  split at h
  · exact absurd h (by decide)
  split at h
  · rename_i hf
    split at h
    · exact absurd h (by decide)
    · rename_i hi
      exact .inl ⟨hf, by omega, by rw [if_pos hf]⟩
  · rename_i hf1
    split at h
    · rename_i hf2
      split at h
      · exact absurd h (by decide)
      · rename_i hi
        refine .inr (.inl ⟨V[kn].length - 1, hf2, by omega, by omega, ?_⟩)
        rw [if_neg hf1, if_pos hf2]
        congr 2
        omega
    · rename_i hf2
      split at h
      · exact absurd h (by decide)
      · rename_i hi
        have hf : 0 ≤ f := by
          have hfm' := hfm
          unfold FormedC at hfm'
          simp only at hfm'
          by_cases h0 : 0 ≤ f
          · exact h0
          · rw [if_neg h0] at hfm'; omega
        obtain ⟨fn, rfl⟩ := Int.eq_ofNat_of_zero_le hf
        obtain ⟨p, rfl⟩ := Int.eq_ofNat_of_zero_le (show 0 ≤ i by omega)
        refine .inr (.inr ⟨fn, p, rfl, rfl, by omega, by omega, ?_⟩)
        rw [if_neg hf1, if_neg hf2]
        rfl

end Go.Proofs.Ytagnjhhbbjbhcaa
