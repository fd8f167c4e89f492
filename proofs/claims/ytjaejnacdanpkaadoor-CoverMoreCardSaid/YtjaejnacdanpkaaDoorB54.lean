/- Spoilt of the reference: rows with something changed. Spoilt of the reference: the walk. -/
import Derived.Test.YtjaejnacdanpkaaDoorC51
import Derived.Test.YtjaejnacdanpkaaDoorB12
namespace Go.Proofs.YtjaejnacdanpkaaDoor
open Go.RowKit

attribute [local go_sem] Oper.semAt_some

theorem around_q (n most : Int) (w : World) (h1 : -9223372036854775808 ≤ n) (h2 : n ≤ 9223372036854775807) (h3 : 1 ≤ most) (h4 : most ≤ 1000000) :
    Calls Tryd.prog 31 #[.int .i64 n, .int .i64 most] w fun e w' => e = .returned (.int .i64 (around n most)) ∧ w' = w :=
  (around_any n most w h1 h2 h3 h4).mono fun _ _ h => ⟨h.1, h.2.symm⟩

theorem OwnS.empty (B : Nat) (E : Nat → Prop) (w : World) (hB : B ≤ w.heap.size) : OwnS B E (w.alloc (.cells #[] 22)) (.slice (some ⟨w.heap.size, 0, none⟩) 0 0) [] :=
  ⟨[], ⟨rfl, .inr ⟨w.heap.size, 0, #[], rfl, hB, heap_new _ _ rfl, Nat.le_refl _, Nat.zero_le _, rfl, rfl⟩⟩, rfl, fun j h => absurd h (by simp)⟩
theorem OwnS.form {B : Nat} {E : Nat → Prop} {w : World} {v : Value} {xs : List (List Int)} (h : OwnS B E w v xs) (h0 : 0 < xs.length) :
    ∃ g cap, v = .slice (some ⟨g, 0, none⟩) xs.length cap ∧ xs.length ≤ cap ∧ cap ≤ maxLen ∧ B ≤ g ∧ g < w.heap.size ∧ ∃ us : List Value, us.length = xs.length ∧ ∀ j (h1 : j < us.length) (h2 : j < xs.length), w.cell? ⟨g, j, none⟩ = some us[j] ∧ w.frozen? ⟨g, j, none⟩ = false ∧ IntsV E w us[j] xs[j] := by
  obtain ⟨us, h1, h2, h3⟩ := h
  obtain ⟨g, cap, rfl, h4, h5, h6, h7⟩ := ownsRow_form h1 h0
  have := h1.lt g rfl
  exact ⟨g, cap, rfl, h4, h5, this.1, this.2, us, h2, fun j g1 g2 => ⟨(h7 j g1).1, (h7 j g1).2, h3 j g1 g2⟩⟩
theorem OwnS.part {B : Nat} {E : Nat → Prop} {w : World} {g n cap : Nat} {xs : List (List Int)} (h : OwnS B E w (.slice (some ⟨g, 0, none⟩) n cap) xs) {k : Nat} (hk : k ≤ xs.length) :
    OwnS B E w (.slice (some ⟨g, 0, none⟩) k cap) (xs.take k) := by
  obtain ⟨us, ⟨h1, h2⟩, h3, h4⟩ := h
  rcases h2 with ⟨h2, _⟩ | ⟨g', cap', cur, hv, hb, hg, hn, hc, hs, ht⟩
  · cases h2
  · cases hv
    have hl : (xs.take k).length = k := by rw [List.length_take]; omega
    refine ⟨us.take k, ⟨by rw [hl, List.length_take]; omega, .inr ⟨g, cap, cur, by rw [hl], hb, hg, by omega, hc, hs, ?_⟩⟩, by rw [hl, List.length_take]; omega, fun j g1 g2 => ?_⟩
    · rw [hl, ← ht, List.take_take]
      congr 1
      omega
    · rw [List.length_take] at g1
      rw [List.getElem_take, List.getElem_take]
      exact h4 j (by omega) (by omega)
theorem OwnS.set {B : Nat} {E : Nat → Prop} {w : World} {g n cap : Nat} {xs : List (List Int)} (h : OwnS B E w (.slice (some ⟨g, 0, none⟩) n cap) xs) (hE : ∀ b, b < w.heap.size → E b → b ≠ g) (k : Nat) {u : Value} {y : List Int} (hu : IntsV E w u y) :
    OwnS B E (w.setCell ⟨g, k, none⟩ u) (.slice (some ⟨g, 0, none⟩) n cap) (xs.set k y) := by
  obtain ⟨us, h1, h3, h4⟩ := h
  have keep : ∀ {u y}, IntsV E w u y → IntsV E (w.setCell ⟨g, k, none⟩ u) u y := fun h => by
    have := IntsV.mono (S' := fun b => E b ∧ b < w.heap.size) h (fun b hb hE => ⟨hE, hb⟩)
    exact IntsV.mono (IntsV.keep this (fun b hb _ => Below.heap_setCell _ _ _ _ (hE b hb.2 hb.1))) (fun b _ hb => hb.1)
  have keep2 : ∀ {u' y'}, IntsV E w u' y' → IntsV E (w.setCell ⟨g, k, none⟩ u) u' y' := fun h => by
    have := IntsV.mono (S' := fun b => E b ∧ b < w.heap.size) h (fun b hb hE => ⟨hE, hb⟩)
    exact IntsV.mono (IntsV.keep this (fun b hb _ => Below.heap_setCell _ _ _ _ (hE b hb.2 hb.1))) (fun b _ hb => hb.1)
  have hn : n = xs.length := by
    rcases h1.2 with ⟨h2, _⟩ | ⟨g', cap', cur, hv, _⟩
    · cases h2
    · cases hv; rfl
  subst hn
  refine ⟨us.set k u, by rw [List.length_set]; exact ownsRow_set h1 k u, by simp [h3], fun j g1 g2 => ?_⟩
  rw [List.getElem_set, List.getElem_set]
  split
  · exact keep hu
  · exact keep2 (h4 j (by simpa using g1) (by simpa using g2))

/-- 'append(v, x...)'. -/
theorem wpList_appSn {P : Program} {t : TypeId} {bytes : Nat} {w : World} {ops : Array Oper} {rest : List Oper} {o : Oper} {a : Act} {Q : Exit → Act → World → Prop} (hgd : o.guard = none) (s x : Operand)
    (ho : o.op = .call { callee := .builtin .append, args := #[s, x], argTypes := #[t, t] }) (hT : AppT P t 22 1 bytes)
    {B : Nat} {E : Nat → Prop} {v : Value} {xs : List (List Int)} (hs : a.eval s = v) (hown : OwnS B E w v xs) (hE : ∀ b, b < w.heap.size → E b → ¬ OB v b)
    {ao : Option Addr} {m c : Nat} (hx : a.eval x = .slice ao m c) {S : Nat → Prop} {ys : List (List Int)} (hy : SlV (IntsV E) S w (.slice ao m c) ys)
    (hsmall : xs.length + m ≤ 1000000000) (hB : B ≤ w.heap.size)
    (h : ∀ v' w', OwnS B E w' v' (xs ++ ys) → Turns (OB v) w w' → (∀ b, OB v' b → OB v b ∨ w.heap.size ≤ b) → wpList P ops Q rest (a.put o.dst v') w') :
    wpList P ops Q (o :: rest) a w := by
  obtain ⟨us, h2, h3, h4⟩ := hown
  obtain ⟨rfl, hok, ns, l1, l2, l3⟩ := SlV.news hy
  refine wpList_app hgd s x ho hT hs h2 _ ys.length c hx hok ns (by simpa using l1) l2 (fun u hu => ?_) hsmall hB (fun v' w' g1 g2 g3 => ?_)
  · obtain ⟨i, hi, rfl⟩ := List.getElem_of_mem hu
    obtain ⟨a', c', e, -⟩ := (l3 i hi (by omega)).form
    rw [e]; rfl
  have hT := Turns.of_grown (S := OB v) g2 fun b hb' => hb'.symm
  refine h v' w' ⟨us ++ ns, by simpa using g1, by simp [h3, l1], fun j k1 k2 => ?_⟩ hT (fun b hb => ?_)
  · have keep : ∀ {u y}, IntsV E w u y → IntsV E w' u y := fun h => by
      have := IntsV.mono (S' := fun b => E b ∧ b < w.heap.size) h (fun b hb hE => ⟨hE, hb⟩)
      exact IntsV.mono (IntsV.keep this (hT.keep (fun b hb => hE b hb.2 hb.1))) (fun b _ hb => hb.1)
    by_cases hj : j < us.length
    · rw [List.getElem_append_left hj, List.getElem_append_left (by omega)]
      exact keep (h4 j hj (by omega))
    · rw [List.length_append] at k1
      rw [List.getElem_append_right (by omega), List.getElem_append_right (by omega)]
      have := l3 (j - us.length) (by omega) (by omega)
      simp only [h3] at this ⊢
      exact keep this
  · unfold OB at hb ⊢
    rcases g3 with g3 | g3
    · exact .inl (hb.trans g3)
    · rw [g3] at hb
      have := Option.some.inj hb
      right
      omega

/-- A number is written in a block of cells: what reads as numbers still does. -/
theorem IntsV.ruin {w : World} {v : Value} {xs : List Int} (h : IntsV AnyB w v xs) {g : Nat} {cur : Array Value} {t : TypeId} (hg : w.heap[g]? = some (.cells cur t (0, 0))) (i : Nat) (x : Int) :
    ∃ xs', IntsV AnyB (w.setCell ⟨g, i, none⟩ (.int .i64 x)) v xs' ∧ xs'.length = xs.length := by
  obtain ⟨a, cap, rfl, h1, h2, h3, h4, h5⟩ := h
  have hc : ∀ j, ∃ z : Int, j < xs.length → (w.setCell ⟨g, i, none⟩ (.int .i64 x)).cell? ⟨slb a, slo a + j, none⟩ = some (.int .i64 z) := fun j => by
    by_cases hj : j < xs.length
    · obtain ⟨u, hu, rfl⟩ := h5 j hj
      by_cases hb : slb a = g
      · rw [hb, cell_of_row w g _ cur t (0, 0) hg] at hu
        rw [hb, cell_of_row _ g _ _ t (0, 0) (heap_setCell_same w g i cur t _ hg), Array.getElem?_setIfInBounds]
        have hlt := (Array.getElem?_eq_some_iff.1 hu).1
        by_cases he : i = slo a + j
        · rw [if_pos he, if_pos (by omega)]; exact ⟨x, fun _ => rfl⟩
        · rw [if_neg he]; exact ⟨_, fun _ => hu⟩
      · exact ⟨_, fun _ => (World.cell?_of_block (w := w) (a := ⟨slb a, slo a + j, none⟩) (Below.heap_setCell _ _ _ _ hb)).trans hu⟩
    · exact ⟨0, fun h => absurd h hj⟩
  obtain ⟨f, hf⟩ := Classical.axiomOfChoice hc
  refine ⟨(List.range xs.length).map f, ⟨a, cap, by simp, by simpa using h1, by simpa using h2, h3, fun _ => trivial, fun j hj => ?_⟩, by simp⟩
  have hj' : j < xs.length := by simpa using hj
  exact ⟨_, hf j hj', by simp⟩
theorem RowsV.ruin {w : World} {a : Option Addr} {n c : Nat} {xs : List (List Int)} (h : RowsV AnyB w (.slice a n c) xs) {g : Nat} {cur : Array Value} {t : TypeId} (hg : w.heap[g]? = some (.cells cur t (0, 0))) (hne : 0 < xs.length → slb a ≠ g) (i : Nat) (x : Int) :
    ∃ xs', RowsV AnyB (w.setCell ⟨g, i, none⟩ (.int .i64 x)) (.slice a n c) xs' ∧ xs'.length = xs.length := by
  obtain ⟨a', cap, e, h1, h2, h3, h4, h5⟩ := h
  cases e
  have hc : ∀ j, ∃ z : Value × List Int, j < xs.length → (w.setCell ⟨g, i, none⟩ (.int .i64 x)).cell? ⟨slb a, slo a + j, none⟩ = some z.1 ∧ IntsV AnyB (w.setCell ⟨g, i, none⟩ (.int .i64 x)) z.1 z.2 := fun j => by
    by_cases hj : j < xs.length
    · obtain ⟨u, hu, hr⟩ := h5 j hj
      obtain ⟨xs', hr', -⟩ := IntsV.ruin hr hg i x
      exact ⟨(u, xs'), fun _ => ⟨(World.cell?_of_block (w := w) (a := ⟨slb a, slo a + j, none⟩) (Below.heap_setCell _ _ _ _ (hne (by omega)))).trans hu, hr'⟩⟩
    · exact ⟨(undef, []), fun h => absurd h hj⟩
  obtain ⟨f, hf⟩ := Classical.axiomOfChoice hc
  refine ⟨(List.range xs.length).map fun j => (f j).2, ⟨a, c, by simp, by simpa using h1, by simpa using h2, h3, fun _ => trivial, fun j hj => ?_⟩, by simp⟩
  have hj' : j < xs.length := by simpa using hj
  exact ⟨_, (hf j hj').1, by simpa using (hf j hj').2⟩

theorem row_one {w : World} (x : Int) : RowsV AnyB ((w.alloc (.cells #[.int .i64 x] 3)).alloc (.cells #[.slice (some ⟨w.heap.size, 0, none⟩) 1 1] 22)) (.slice (some ⟨w.heap.size + 1, 0, none⟩) 1 1) [[x]] := by
  refine ⟨some ⟨w.heap.size + 1, 0, none⟩, 1, rfl, fun _ => ⟨_, _, rfl⟩, Nat.le_refl _, by unfold maxLen; omega, fun _ => trivial, fun j hj => ?_⟩
  obtain rfl : j = 0 := by simpa using hj
  refine ⟨_, by simp only [slb_some, slo_some]; exact (one_cell (heap_new _ _ (by simp))).1, some ⟨w.heap.size, 0, none⟩, 1, rfl, fun _ => ⟨_, _, rfl⟩, Nat.le_refl _, by unfold maxLen; omega, fun _ => trivial, fun i hi => ?_⟩
  obtain rfl : i = 0 := by simpa using hi
  exact ⟨_, by simp only [slb_some, slo_some]; exact (one_cell (heap_step _ (heap_new _ _ rfl))).1, rfl⟩

end Go.Proofs.YtjaejnacdanpkaaDoor

namespace Go.Proofs.YtjaejnacdanpkaaDoor
open Go.RowKit

attribute [local go_sem] Oper.semAt_some

theorem tdiv_in {n d : Int} (h1 : -9223372036854775808 ≤ n) (h2 : n ≤ 9223372036854775807) (hd : 1 ≤ d) : -9223372036854775808 ≤ n.tdiv d ∧ n.tdiv d ≤ 9223372036854775807 := by
  by_cases hn : 0 ≤ n
  · rw [Int.tdiv_eq_ediv_of_nonneg hn]
    have := Int.ediv_nonneg hn (show 0 ≤ d by omega)
    have := Int.ediv_le_self d hn
    omega
  · have e : n.tdiv d = -((-n) / d) := by
      rw [← Int.tdiv_eq_ediv_of_nonneg (show 0 ≤ -n by omega), Int.neg_tdiv, Int.neg_neg]
    rw [e]
    have := Int.ediv_nonneg (show 0 ≤ -n by omega) (show 0 ≤ d by omega)
    have := Int.ediv_le_self d (show 0 ≤ -n by omega)
    omega
set_option maxRecDepth 100000 in
theorem slice_to (g n co k : Nat) (hk : k < co) (X : World) : (Instr.slice 23 (.slice (some ⟨g, 0, none⟩) n co) none (some (.int .i64 k)) none).run Tryd.prog X = .ok (.slice (some ⟨g, 0, none⟩) k co) X := by
  rw [run_slice_h X 23 (some ⟨g, 0, none⟩) n co (by kernel_rfl) .i64 _ (by omega) (by omega)]
  have hs1 : (sizeOf (Tryd.prog.elem 23)).run Tryd.prog X = .ok 1 X := rfl
  rw [hs1]
  have : ¬ co = 0 := by omega
  simp [Result.andThen, sliced, this, Addr.add]
set_option maxRecDepth 100000 in
theorem slice_from (a : Option Addr) (n cap k : Nat) (hk : k < n) (X : World) : (Instr.slice 23 (.slice a n cap) (some (.int .i64 ((k : Int) + 1))) none none).run Tryd.prog X = .ok (sliced a (k + 1) n cap 1) X := by
  rw [run_slice_l X 23 a n cap (by kernel_rfl) .i64 _ (by omega) (by omega)]
  have hs1 : (sizeOf (Tryd.prog.elem 23)).run Tryd.prog X = .ok 1 X := rfl
  rw [hs1]
  have : ((k : Int) + 1).toNat = k + 1 := by omega
  simp [Result.andThen, this]

/-- Rows of any kind, not too many. -/
def RowsS (w : World) (x : Value) : Prop := ∃ l' : List (List Int), l'.length ≤ 200000 ∧ RowsV AnyB w x l'

set_option maxRecDepth 100000 in
set_option maxHeartbeats 4000000 in
theorem spoilt_any (l : List (List Int)) (hl : l.length ≤ 100000) (hle : ∀ r ∈ l, r.length ≤ 100000) (p1 p2 p3 : Int) (a1 : -9223372036854775808 ≤ p1) (a2 : p1 ≤ 9223372036854775807) (b1 : -9223372036854775808 ≤ p2) (b2 : p2 ≤ 9223372036854775807) (c1 : -9223372036854775808 ≤ p3) (c2 : p3 ≤ 9223372036854775807)
    (v : Value) (S : Nat → Prop) (w : World) (hv : RowsV S w v l) :
    Calls Tryd.prog 17 #[v, .int .i64 p1, .int .i64 p2, .int .i64 p3] w fun e w' => ∃ x, e = .returned x ∧ RowsS w' x ∧ Below w.heap.size w w' := by
  have HV := hid (RowsV.mono (S' := (· < w.heap.size)) hv (fun b hb _ => hb))
  obtain ⟨a, cap, rfl, hok, hcap, hmax⟩ := hv.form
  clear hv
  by_cases h0 : l.length = 0
  · have hd : ((l.length : Int) == 0) = true := beqT (by omega)
    clear h0
    go_enter Tryd.func17, Tryd.ntmps17
    go_wp2_with fail
    refine (around_any p3 4 _ c1 c2 (by omega) (by omega)).mono ?_
    rintro e w' ⟨rfl, rfl⟩
    have hz := around_lt p3 4 (by omega)
    generalize around p3 4 = z at *
    have HR := hid (row_one (w := w) (z - 1))
    go_wp2
    go_ret
    exact ⟨_, rfl, ⟨_, by simp, HR.out⟩, ((Below.refl _ _).alloc (Nat.le_refl _) _).alloc (by simp) _⟩
  · have hd : ((l.length : Int) == 0) = false := beqF (by omega)
    have hn0 : 0 < l.length := by omega
    clear h0
    go_enter Tryd.func17, Tryd.ntmps17
    go_wp2_with fail
    refine (around_any p1 l.length _ a1 a2 (by omega) (by omega)).mono ?_
    rintro e w' ⟨rfl, rfl⟩
    have hk := around_lt p1 l.length (by omega)
    generalize around p1 l.length = kz at *
    obtain ⟨k, rfl⟩ := Int.eq_ofNat_of_zero_le hk.1
    have hkl : k < l.length := by omega
    clear hk
    have ha1 : Below w.heap.size w (w.alloc (.cells #[] 22)) := (Below.refl _ _).alloc (Nat.le_refl _) _
    have ho1 := OwnS.empty w.heap.size (· < w.heap.size) w (Nat.le_refl _)
    have hv1 := HV.out.keep (KeepS.below ha1)
    have hE1 : ∀ b, b < (w.alloc (.cells #[] 22)).heap.size → b < w.heap.size → ¬ OB (.slice (some ⟨w.heap.size, 0, none⟩) 0 0) b := fun b _ hb h => by
      have : b = w.heap.size := Option.some.inj h
      omega
    go_wp2_with (at_builtin; go_must (refine wpList_appSn rfl _ _ rfl Tryd.app63 rfl ho1 hE1 rfl hv1 (by simp; omega) (by simp) ?_))
    intro vo w1 ho2 ht1 hn1
    replace ho2 : OwnS w.heap.size (· < w.heap.size) w1 vo l := ho2
    have hb1 : Below w.heap.size w w1 := ha1.trans ((ht1.below (by simp) (fun b h => by
      have : b = w.heap.size := Option.some.inj h
      omega)))
    obtain ⟨g, co, rfl, hco, hcm, hBg, hgl, us, hus, hcell⟩ := ho2.form hn0
    have hE2 : ∀ b, b < w1.heap.size → b < w.heap.size → ¬ OB (.slice (some ⟨g, 0, none⟩) l.length co) b := fun b _ hb h => by
      have : b = g := Option.some.inj h
      omega
    have HO := hid ho2
    have hv2 := HV.out.keep (KeepS.of_below hb1 (fun b hb => hb))
    have hgk := (hcell k (by omega) hkl).1
    have hgf := (hcell k (by omega) hkl).2.1
    have hco9 : co ≤ 9223372036854775807 := by unfold maxLen at hcm; omega
    have hrl := hle _ (List.getElem_mem hkl)
    obtain ⟨u, hcu, hbu, hu⟩ := hv2.at hkl
    obtain ⟨ae, ce, rfl, -, -, -⟩ := hu.form
    have HV2 := hid hv2
    have hk0 : (0 : Int) ≤ k := by omega
    have hk1 : (k : Int) < l.length := by omega
    obtain ⟨uk, huk⟩ : ∃ uk, uk = us[k]'(by omega) := ⟨_, rfl⟩
    rw [← huk] at hgk
    clear ho1 ho2 ht1 hn1 ha1 hv1 hE1 hcell hv2 huk
    generalize l[k] = r at *
    go_wp2_with fail
    refine (around_any p2 4 _ b1 b2 (by omega) (by omega)).mono ?_
    rintro e w' ⟨rfl, rfl⟩
    have hh := around_lt p2 4 (by omega)
    generalize around p2 4 = hv at *
    have hcase : hv = 0 ∨ hv = 1 ∨ hv = 2 ∨ hv = 3 := by omega
    rcases hcase with rfl | rfl | rfl | rfl
    · have hs1 := slice_to g l.length co k (by omega)
      have hs2 := slice_from a l.length cap k hkl
      have hp := SlV.part HV2.out (show k + 1 ≤ l.length by omega) (Nat.le_refl _)
      have hpo := HO.out.part (k := k) (by omega)
      obtain ⟨sa, sc, he⟩ : ∃ sa sc, sliced a (k + 1) l.length cap 1 = .slice sa (l.length - (k + 1)) sc := by unfold sliced; exact ⟨_, _, rfl⟩
      rw [he] at hp hs2
      clear he
      go_wp2
      refine wp_region_quiet_tail 7 (by kernel_rfl) (by kernel_rfl) ?_
      simp only [List.take_succ_cons, List.take_zero, List.drop_succ_cons, List.drop_zero]
      repeat (go_big_quiet_step (fail))
      refine wpQuiet_nil ?_
      have hp2 : SlV (IntsV (· < w.heap.size)) (· < w.heap.size) (w1.drewN 1) (.slice sa (l.length - (k + 1)) sc) ((l.take l.length).drop (k + 1)) := RowsV.keep hp (fun _ _ _ => rfl)
      have hpo2 : OwnS w.heap.size (· < w.heap.size) (w1.drewN 1) (.slice (some ⟨g, 0, none⟩) k co) (l.take k) := hpo.kept (fun _ _ _ => rfl)
      go_wp2_with (at_builtin; go_must (refine wpList_appSn rfl _ _ rfl Tryd.app63 rfl hpo2 hE2 rfl hp2 (by rw [List.length_take]; omega) hb1.size ?_))
      intro v8 w8 ho8 ht8 hn8
      have hb8 : Below w.heap.size w w8 := (below_drewN hb1 1).trans (ht8.below hb1.size (fun b h => by
        have : b = g := Option.some.inj h
        omega))
      have HR := hid (ho8.sl (S := AnyB) (fun _ _ => trivial) (fun _ _ _ => trivial))
      clear ho8 ht8 hn8 hp hp2 hpo hpo2 hs1 hs2
      go_wp2
      go_ret
      exact ⟨_, rfl, ⟨_, by simp; omega, HR.out⟩, hb8⟩
    · go_wp2_with (at_builtin; go_must (refine wpList_appS1 rfl _ _ rfl Tryd.app63 rfl HO.out hE2 rfl r hu rfl (by omega) hb1.size ?_))
      intro v8 w8 ho8 ht8 hn8
      have hb8 : Below w.heap.size w w8 := hb1.trans (ht8.below hb1.size (fun b h => by
        have : b = g := Option.some.inj h
        omega))
      have HR := hid (ho8.sl (S := AnyB) (fun _ _ => trivial) (fun _ _ _ => trivial))
      clear ho8 ht8 hn8
      go_wp2
      go_ret
      exact ⟨_, rfl, ⟨_, by simp; omega, HR.out⟩, hb8⟩
    · have HTake := hid (fun (x : Held (fun W => Below w1.heap.size w1 W)) => take_any r hrl (.slice ae r.length ce) (· < w.heap.size) x.1 (hu.keep (KeepS.below x.2)))
      have c0 : ∀ Y : Held (fun W => Below w1.heap.size w1 W), Y.1.cell? ⟨slb a, slo a + k, none⟩ = some (.slice ae r.length ce) := fun Y => by rw [Y.2.cell (p := ⟨slb a, slo a + k, none⟩) hbu, hcu]
      go_wp2
      refine wp_region_held 13 [(true, 0), (true, 1), (true, 2), (true, 3), (true, 4), (true, 5), (true, 6), (true, 7), (true, 8), (true, 9), (true, 10), (false, 11), (true, 12)] (fun W => Below w1.heap.size w1 W) (by kernel_rfl) (by kernel_rfl) (below_drewN (Below.refl _ _) 1) ?_
      intro hne
      refine wpSteps_pre 11 (by decide) ?_
      simp only [List.take_succ_cons, List.take_zero]
      repeat (go_big_quiet_step (fail))
      refine wpQuiet_nil ?_
      refine wpSteps_one rfl ?_
      clear c0
      go_wp2_with fail
      refine (HTake.out ⟨_, below_drewN (Below.refl _ _) 1⟩).mono ?_
      rintro e w5 ⟨x, rfl, hx, hb5⟩
      have hb15 : Below w1.heap.size w1 w5 := (below_drewN (Below.refl w1.heap.size w1) 1).trans (hb5.mono (Nat.le_refl _))
      go_wp2
      refine qn_mk ⟨InHeld.of hb15, ?_⟩
      refine wpSteps_quiet rfl ?_
      repeat (go_big_quiet_step (fail))
      refine wpQuiet_nil ?_
      refine wpSteps_done ?_
      simp only [List.drop_succ_cons, List.drop_zero]
      obtain ⟨xa, xc, rfl, hxok, hxc, hxm⟩ := hx.sl.form
      have g5 : w5.cell? ⟨g, k, none⟩ = some uk := (hb15.cell (p := ⟨g, k, none⟩) hgl).trans hgk
      have f5 : w5.frozen? ⟨g, k, none⟩ = false := (hb15.frozen (p := ⟨g, k, none⟩) hgl).trans hgf
      have HO6 := hid ((OwnS.mono (E' := (· ≠ g)) (HO.out.kept (fun b hlt _ => hb15.block b hlt)) (fun b hlt hb => by show b ≠ g; omega)).set (fun b _ hb => hb) k (hx.sl.mono (S' := (· ≠ g)) (fun b _ (hb : w1.heap.size ≤ b) => by show b ≠ g; omega)))
      have hgx : 0 < r.length → ∃ gx cur, xa = some ⟨gx, 0, none⟩ ∧ w1.heap.size ≤ gx ∧ w5.heap[gx]? = some (.cells cur 3 (0, 0)) ∧ r.length ≤ cur.size := fun h => by
        rcases hx.1.2 with ⟨_, h2⟩ | ⟨g', cap', cur, hv, hb, hg, hn, hc, hs, ht⟩
        · omega
        · cases hv
          exact ⟨g', cur, rfl, hx.2 _ rfl, hg, by simp at hs; omega⟩
      have hbw6 : Below w.heap.size w (w5.setCell ⟨g, k, none⟩ (.slice xa r.length xc)) := (hb1.trans (hb15.mono hb1.size)).setCell hBg _
      clear hx hb5 HTake hne hb15
      by_cases hr0 : 0 < r.length
      · obtain ⟨gx, cur, rfl, hgx1, hgx2, hgx3⟩ := hgx hr0
        have hgx6 : (w5.setCell ⟨g, k, none⟩ (.slice (some ⟨gx, 0, none⟩) r.length xc)).heap[gx]? = some (.cells cur 3 (0, 0)) := (Below.heap_setCell _ _ _ _ (by show gx ≠ g; omega)).trans hgx2
        have hri : (0 : Int) < r.length := by omega
        have hq8 := tdiv_in c1 c2 (show (1 : Int) ≤ 8 by omega)
        obtain ⟨q8, hq8e⟩ : ∃ q8, p3.tdiv 8 = q8 := ⟨_, rfl⟩
        rw [hq8e] at hq8
        have d6 : (w5.setCell ⟨g, k, none⟩ (.slice (some ⟨gx, 0, none⟩) r.length xc)).cell? ⟨g, k, none⟩ = some (.slice (some ⟨gx, 0, none⟩) r.length xc) := World.cell?_setCell_same _ _ _ g5
        go_wp2
        generalize w5.setCell ⟨g, k, none⟩ (.slice (some ⟨gx, 0, none⟩) r.length xc) = W6 at *
        refine wp_region_quiet_tail 16 (by kernel_rfl) (by kernel_rfl) ?_
        simp only [List.take_succ_cons, List.take_zero, List.drop_succ_cons, List.drop_zero]
        have HQ1 := hid (around_q p3 r.length (W6.drewN 1) c1 c2 (by omega) (by omega))
        have HQ2 := hid (around_q q8 5 (W6.drewN 1) hq8.1 hq8.2 (by omega) (by omega))
        have hz := around_lt p3 r.length (by omega)
        generalize around p3 r.length = z1 at *
        have hz2 := around_lt q8 5 (by omega)
        generalize around q8 5 = z2 at *
        iterate 11 (go_big_quiet_step (exact HQ1.out _))
        iterate 5 (go_big_quiet_step (exact HQ2.out _))
        refine wpQuiet_nil ?_
        obtain ⟨j1, rfl⟩ := Int.eq_ofNat_of_zero_le hz.1
        have hj1 : j1 < cur.size := by omega
        have e6 : W6.cell? ⟨gx, j1, none⟩ = some cur[j1] := by
          rw [cell_of_row W6 gx j1 cur 3 (0, 0) hgx6]
          exact Array.getElem?_eq_getElem hj1
        have e7 : W6.frozen? ⟨gx, j1, none⟩ = false := by simp [World.frozen?, hgx6]
        have HR : Hid (RowsS ((W6.drewN 1).setCell ⟨gx, j1, none⟩ (.int .i64 (z2 - 1))) (.slice (some ⟨g, 0, none⟩) l.length co)) := hid (by
          have h6 := HO6.out.sl (S := AnyB) (fun _ _ => trivial) (fun _ _ _ => trivial)
          have h7 : RowsV AnyB (W6.drewN 1) (.slice (some ⟨g, 0, none⟩) l.length co) (l.set k r) := RowsV.keep h6 (fun _ _ _ => rfl)
          obtain ⟨l', h8, h9⟩ := RowsV.ruin h7 (show (W6.drewN 1).heap[gx]? = _ from hgx6) (fun _ => by show g ≠ gx; omega) j1 (z2 - 1)
          exact ⟨l', by rw [h9]; simp; omega, h8⟩)
        have HB7 := hid ((below_drewN hbw6 1).setCell (p := ⟨gx, j1, none⟩) (by show w.heap.size ≤ gx; have := hb1.size; omega) (.int .i64 (z2 - 1)))
        clear HO6 d6
        go_wp2
        go_ret
        exact ⟨_, rfl, HR.out, HB7.out⟩
      · have hri : ¬ (0 : Int) < r.length := by omega
        have HR := hid (HO6.out.sl (S := AnyB) (fun _ _ => trivial) (fun _ _ _ => trivial))
        have d6 : (w5.setCell ⟨g, k, none⟩ (.slice xa r.length xc)).cell? ⟨g, k, none⟩ = some (.slice xa r.length xc) := World.cell?_setCell_same _ _ _ g5
        go_wp2
        go_ret
        exact ⟨_, rfl, ⟨_, by simp; omega, HR.out⟩, hbw6⟩
    · have HTake := hid (fun (x : Held (fun W => Below w1.heap.size w1 W)) => take_any r hrl (.slice ae r.length ce) (· < w.heap.size) x.1 (hu.keep (KeepS.below x.2)))
      have c0 : ∀ Y : Held (fun W => Below w1.heap.size w1 W), Y.1.cell? ⟨slb a, slo a + k, none⟩ = some (.slice ae r.length ce) := fun Y => by rw [Y.2.cell (p := ⟨slb a, slo a + k, none⟩) hbu, hcu]
      go_wp2
      refine wp_region_held 16 [(true, 0), (true, 1), (true, 2), (true, 3), (true, 4), (true, 5), (true, 6), (true, 7), (true, 8), (true, 9), (true, 10), (true, 12), (false, 11), (false, 13), (false, 14), (false, 15)] (fun W => Below w1.heap.size w1 W) (by kernel_rfl) (by kernel_rfl) (below_drewN (Below.refl _ _) 1) ?_
      intro hne
      refine wpSteps_pre 11 (by decide) ?_
      simp only [List.take_succ_cons, List.take_zero]
      repeat (go_big_quiet_step (fail))
      refine wpQuiet_nil ?_
      refine wpSteps_quiet rfl ?_
      repeat (go_big_quiet_step (fail))
      refine wpQuiet_nil ?_
      refine wpSteps_one rfl ?_
      clear c0
      go_wp2_with fail
      refine (HTake.out ⟨_, below_drewN (Below.refl _ _) 1⟩).mono ?_
      rintro e w5 ⟨x, rfl, hx, hb5⟩
      have hb15 : Below w1.heap.size w1 w5 := (below_drewN (Below.refl w1.heap.size w1) 1).trans (hb5.mono (Nat.le_refl _))
      go_wp2
      refine qn_mk ⟨InHeld.of hb15, ?_⟩
      refine wpSteps_one rfl ?_
      go_wp2_with fail
      refine (around_any p3 4 _ c1 c2 (by omega) (by omega)).mono ?_
      rintro e w' ⟨rfl, rfl⟩
      generalize around p3 4 = z2 at *
      go_wp2
      refine qn_mk ⟨InHeld.of hb15, ?_⟩
      refine wpSteps_one rfl ?_
      go_wp2
      have hb16 : Below w1.heap.size w1 (w5.alloc (.cells #[.int .i64 z2] 3)) := hb15.alloc hb15.size _
      refine qn_mk ⟨InHeld.of hb16, ?_⟩
      refine wpSteps_one rfl ?_
      have ha5 : Below w5.heap.size w5 (w5.alloc (.cells #[.int .i64 z2] 3)) := (Below.refl _ _).alloc (Nat.le_refl _) _
      have h1F := (int1F w5 z2).sl
      go_wp2_with (at_builtin; go_must (refine wpList_appI rfl _ _ rfl Tryd.app22 rfl hx ha5 rfl h1F (by simp; omega) ?_))
      intro v8 w8 hI8 ht8
      have hlo : ∀ b, some b = Value.ownBlock x → w1.heap.size ≤ b := fun b hb => hx.2 b hb.symm
      have hb18 : Below w1.heap.size w1 w8 := hb16.trans (ht8.below (by have := hb15.size; simp; omega) (fun b hb => hlo b hb))
      go_wp2
      refine qn_mk ⟨InHeld.of hb18, ?_⟩
      refine wpSteps_done ?_
      obtain ⟨va8, vl8, vc8, rfl⟩ : ∃ a l c, v8 = .slice a l c := by obtain ⟨a, c', h, -⟩ := hI8.sl.form; exact ⟨_, _, _, h⟩
      have g5 : w8.cell? ⟨g, k, none⟩ = some uk := (hb18.cell (p := ⟨g, k, none⟩) hgl).trans hgk
      have f5 : w8.frozen? ⟨g, k, none⟩ = false := (hb18.frozen (p := ⟨g, k, none⟩) hgl).trans hgf
      have hu8 : IntsV (· ≠ g) w8 (.slice va8 vl8 vc8) (r ++ [z2]) := hI8.sl.mono (fun b hb hb2 => by
        show b ≠ g
        rcases hb2 with hb2 | hb2
        · have : w1.heap.size ≤ b := hb2.1
          omega
        · have := hb15.size
          omega)
      have HO6 := hid ((OwnS.mono (E' := (· ≠ g)) (HO.out.kept (fun b hlt _ => hb18.block b hlt)) (fun b hlt hb => by show b ≠ g; omega)).set (fun b _ hb => hb) k hu8)
      have HR := hid (HO6.out.sl (S := AnyB) (fun _ _ => trivial) (fun _ _ _ => trivial))
      have hbw6 : Below w.heap.size w (w8.setCell ⟨g, k, none⟩ (.slice va8 vl8 vc8)) := (hb1.trans (hb18.mono hb1.size)).setCell hBg _
      clear hI8 ht8 hlo hu8 hx
      go_wp2
      go_ret
      exact ⟨_, rfl, ⟨_, by simp; omega, HR.out⟩, hbw6⟩

end Go.Proofs.YtjaejnacdanpkaaDoor
