/- Rows and Asked of the reference of layer 28. Asked of the reference of layer 28. shows of the reference of layer 28. Drawn regions by a plan that may fork. -/
import Derived.Test.YtjaejnacdanpkaaDoorB3
namespace Go.Proofs.YtjaejnacdanpkaaDoor
open Go.RowKit

theorem grew_ok {w : World} (x : Grew w) : Below w.heap.size w x.1 := x.2
theorem filter_take {α : Type} (p : α → Bool) (l : List α) (k : Nat) (h : k < l.length) : (l.take (k + 1)).filter p = (l.take k).filter p ++ (if p l[k] then [l[k]] else []) := by
  rw [← take_snoc h, List.filter_append]
  cases hp : p l[k] <;> simp [hp]
theorem filter_len {α : Type} (p : α → Bool) (l : List α) (k : Nat) : ((l.take k).filter p).length ≤ l.length := by
  have := List.length_filter_le p (l.take k)
  rw [List.length_take] at this
  omega

section
variable {α : Type} {RR : (Nat → Prop) → World → Value → α → Prop}

/-- v is a row of the call's own (from block B on) whose elements lead to blocks below B. -/
def OwnO (RR : (Nat → Prop) → World → Value → α → Prop) (B : Nat) (e : TypeId) (w : World) (v : Value) (xs : List α) : Prop :=
  ∃ us, w.ownsRow B e 1 v xs.length us ∧ us.length = xs.length ∧ ∀ j (h1 : j < us.length) (h2 : j < xs.length), RR (· < B) w us[j] xs[j]
theorem OwnO.nil (RR : (Nat → Prop) → World → Value → α → Prop) (B : Nat) (e : TypeId) (w : World) : OwnO RR B e w (.slice none 0 0) [] :=
  ⟨[], World.ownsRow_nil _ _ _ _, rfl, fun j h => absurd h (by simp)⟩
theorem OwnO.below (hR : Steady RR) {B : Nat} {e : TypeId} {w w' : World} {v : Value} {xs : List α} (h : OwnO RR B e w v xs) (hk : Below w.heap.size w w') : OwnO RR B e w' v xs := by
  obtain ⟨us, ⟨h1, h2⟩, hl, hr⟩ := h
  refine ⟨us, ⟨h1, ?_⟩, hl, fun j g1 g2 => hR.keep (hr j g1 g2) (KeepS.below hk)⟩
  rcases h2 with h2 | ⟨g, cap, cur, hv, hb, hg, r⟩
  · exact .inl h2
  · exact .inr ⟨g, cap, cur, hv, hb, by rw [hk.block g (Array.getElem?_eq_some_iff.1 hg).1]; exact hg, r⟩
theorem OwnO.sl (_hR : Steady RR) {B : Nat} {e : TypeId} {w : World} {v : Value} {xs : List α} (h : OwnO RR B e w v xs) : SlV (RR (· < B)) (B ≤ ·) w v xs := by
  obtain ⟨us, h1, h2, h3⟩ := h
  refine ownsRow_sl h1 (fun b hb => (h1.lt b hb).1) h2 (fun j g1 g2 => h3 j g1 g2)
theorem wpList_appO1 {P : Program} {t e : TypeId} {bytes : Nat} (hR : Steady RR) {w : World} {ops : Array Oper} {rest : List Oper} {o : Oper} {a : Act} {Q : Exit → Act → World → Prop} (hgd : o.guard = none) (s x : Operand)
    (ho : o.op = .call { callee := .builtin .append, args := #[s, x], argTypes := #[t, t] }) (hT : AppT P t e 1 bytes)
    {B : Nat} {v : Value} {xs : List α} (hs : a.eval s = v) (hown : OwnO RR B e w v xs)
    {u : Value} {e' : TypeId} (hx : a.eval x = .slice (some ⟨w.heap.size, 0, none⟩) 1 1) (y : α) (hu : RR (· < B) w u y) (h1 : u.oneCell' = true)
    (hsmall : xs.length + 1 ≤ 1000000000) (hB : B ≤ w.heap.size)
    (h : ∀ v' w', OwnO RR B e w' v' (xs ++ [y]) → Below B w w' → wpList P ops Q rest (a.put o.dst v') w') :
    wpList P ops Q (o :: rest) a (w.alloc (.cells #[u] e')) := by
  obtain ⟨us, h2, h3, h4⟩ := hown
  have ha : Below w.heap.size w (w.alloc (.cells #[u] e')) := (Below.refl _ _).alloc (Nat.le_refl _) _
  refine wpList_app hgd s x ho hT hs (h2.alloc _) _ 1 1 hx (fun _ => ⟨_, _, rfl⟩) [u] rfl (news_alloc w #[u] e') (by simpa using h1) hsmall (by simp; omega) (fun v' w' g1 g2 g3 => ?_)
  have hb : Below B w w' := (ha.mono hB).grown g2 (by simp; omega) (fun k hk => by have := (h2.lt k hk).1; omega)
  refine h v' w' ⟨us ++ [u], by simpa using g1, by simp [h3], fun j k1 k2 => ?_⟩ hb
  have keep : ∀ {u y}, RR (· < B) w u y → RR (· < B) w' u y := fun h => hR.keep h (fun b hb' _ => hb.block b hb')
  by_cases hj : j < us.length
  · rw [List.getElem_append_left hj, List.getElem_append_left (by omega)]
    exact keep (h4 j hj (by omega))
  · simp at k1
    obtain rfl : j = us.length := by omega
    simp only [List.getElem_append_right (Nat.le_refl _), Nat.sub_self, List.getElem_cons_zero]
    rw [List.getElem_append_right (by omega)]
    simp [h3]
    exact keep hu
end

set_option maxRecDepth 100000 in
set_option maxHeartbeats 1000000 in
theorem rowsF_any (ns : List Nat) (hn : ∀ n ∈ ns, n ≤ 8) (hl : ns.length ≤ 8) (F : List (List Int)) (hF : ∀ c ∈ F, c.length = ns.length) (hFl : F.length ≤ 100000) (sa : Option Addr) (sc : Nat) (fa : Option Addr) (fc : Nat) (t : Int) (S T : Nat → Prop) (w : World)
    (hs : IntsV S w (.slice sa ns.length sc) (szI ns)) (hf : RowsV T w (.slice fa F.length fc) F) :
    Calls Tryd.prog 41 #[.agg #[.slice sa ns.length sc, .slice fa F.length fc, .int .i64 t]] w fun e w' => ∃ x, e = .returned x ∧ RowsV AnyB w' x (Cov.okRows ns F) ∧ Below w.heap.size w w' := by
  obtain ⟨sa', sc', es, hoks, hcaps, hmaxs⟩ := hs.form
  rw [List.length_map] at es hoks hcaps
  cases es
  obtain ⟨fa', fc', ef, hokf, hcapf, hmaxf⟩ := hf.form
  cases ef
  have hA0 : Below w.heap.size w (w.alloc (.cells #[.slice sa ns.length sc, .slice fa F.length fc, .int .i64 t] 25)) := (Below.refl _ _).alloc (Nat.le_refl _) _
  have HAll := hid (all_any false ns hn hl sa sc fa F.length fc t S _ (hs.keep (KeepS.below hA0)))
  have HA0 := hid hA0
  have HF := hid (fun (r : List Int) (hr : r.length = ns.length) (v : Value) (U : Nat → Prop) (W : World) (hb : Below w.heap.size w W) (hv : IntsV U W v r) =>
    allowed_any F r (fun c hc => by rw [hr, hF c hc]) hFl (.slice sa ns.length sc) sa ns.length sc rfl fa fc t v T U W (RowsV.keep hf (KeepS.below hb)) hv)
  have HSZ := hid (allP_size false ns hn)
  have HLN := hid (allP_len false ns)
  have hsz : (allP false ns).length ≤ 50000000 := Nat.le_trans HSZ.out (Nat.le_trans (Nat.pow_le_pow_right (by omega) hl) (by decide))
  clear hA0 hs hf hF
  go_enter Tryd.func41, Tryd.ntmps41
  go_wp2_with fail
  refine HAll.out.mono ?_
  rintro e w1 ⟨xr, rfl, hxr, hb1⟩
  obtain ⟨ar, cr, rfl, hokr, hcapr, hmaxr⟩ := hxr.form
  have hbox := (hb1.block w.heap.size (by simp)).trans (World.alloc_heap_new _ _)
  have hszb := (Array.getElem?_eq_some_iff.1 hbox).1
  have bx : ∀ q (h : q < 3) W, Below w1.heap.size w1 W → W.cell? ⟨w.heap.size, q, none⟩ = (#[.slice sa ns.length sc, .slice fa F.length fc, .int .i64 t] : Array Value)[q]? := fun q h W hW => by
    have hq : w1.cell? ⟨w.heap.size, q, none⟩ = (#[.slice sa ns.length sc, .slice fa F.length fc, .int .i64 t] : Array Value)[q]? := cell_of_row _ _ q _ _ (0, 0) hbox
    match q, h with
    | 0, _ => exact cell_later hW hq
    | 1, _ => exact cell_later hW hq
    | 2, _ => exact cell_later hW hq
  have hb01 : Below w.heap.size w w1 := HA0.out.trans (hb1.mono (by simp))
  have HX := hid (RowsV.mono (S' := (· < w1.heap.size)) hxr (fun b hb _ => hb))
  have HB := hid hb01
  have HBX := hid bx
  clear hxr hbox bx hb1 hb01 HAll HSZ
  have hDef : Hid (Cov.okRows ns F = (allP false ns).filter fun r => Cov.allowed F r) := hid rfl
  generalize allP false ns = R at *
  go_wp2
  go_loopw [4, 5] (fun o i wr => ∃ k : Nat, k ≤ R.length ∧ i = .int .i64 k ∧ OwnO (fun S => IntsV S) w1.heap.size 22 wr o ((R.take k).filter fun r => Cov.allowed F r) ∧ Below w1.heap.size w1 wr) (fun _ i _ => R.length - (intOf i).toNat)
  case atStart => exact ⟨0, by omega, rfl, by simpa using OwnO.nil _ _ _ _, Below.refl _ _⟩
  case round =>
    obtain ⟨k, hk, rfl, hown, hb⟩ := hrel
    by_cases hlt : k < R.length
    · obtain ⟨ur, hcr, hbr, hrr⟩ := (RowsV.keep HX.out (KeepS.below hb)).at hlt
      obtain ⟨ae, ce, rfl, -, -, -⟩ := hrr.form
      have hrl := HLN.out _ (List.getElem_mem hlt)
      have HT := hid (filter_take (fun r => Cov.allowed F r) R k hlt)
      have hlen := filter_len (fun r => Cov.allowed F r) R k
      have bx0 := HBX.out 0 (by omega) wr hb
      have bx1 := HBX.out 1 (by omega) wr hb
      have bx2 := HBX.out 2 (by omega) wr hb
      have hzb : w.heap.size < wr.heap.size := by have := hb.size; omega
      have hb0 := HB.out.trans (hb.mono HB.out.size)
      have HFr := hid (fun (x : Grew wr) => Calls.grew_of (x := x) (HF.out R[k] hrl (.slice ae R[k].length ce) _ x.1 (hb0.trans (x.2.mono hb0.size)) (hrr.keep (KeepS.below x.2))))
      clear hrl
      generalize R[k] = r at *
      generalize ((R.take k).filter fun r => Cov.allowed F r) = L at *
      have hk0 : (0 : Int) ≤ k := by omega
      have hk1 : (k : Int) < R.length := by omega
      simp only [List.getElem?_toArray, List.getElem?_cons_zero, List.getElem?_cons_succ] at bx0 bx1 bx2
      go_wp2
      have hg := Grew.cell (w := wr)
      refine wp_region_quietG (by kernel_rfl) (by kernel_rfl) ?_
      repeat (go_big_quiet_step ((exact HFr.out _)))
      refine wpQuiet_nil ?_
      intro w2 hx
      have hb2 := grew_below hx
      clear hx hg
      have HR2 := hid (hrr.keep (KeepS.below hb2))
      have hc2 := cell_later hb2 hcr
      have hbr2 : slb ar < w2.heap.size := by have := hb2.size; omega
      have hown2 := OwnO.below steady_ints hown hb2
      have hb3 := hb.trans (hb2.mono hb.size)
      cases hal : Cov.allowed F r with
      | true =>
        rw [hal] at HT
        have HT2 : Hid (L ++ [r] = (R.take (k + 1)).filter (fun r => Cov.allowed F r)) := hid (by rw [HT.out]; simp)
        have HO := hid hown2
        have HR3 := hid (HR2.out)
        have hzw : w1.heap.size ≤ w2.heap.size := hb3.size
        clear hown hown2 HT HFr hrr HR2 hal hb hb2 hcr
        go_wp2_with (at_builtin; go_must (refine wpList_appO1 steady_ints rfl _ _ rfl Tryd.app63 rfl HO.out rfl r HR3.out rfl (by omega) hzw ?_))
        intro v4 w4 hown4 hb4
        rw [HT2.out] at hown4
        have hb5 := hb3.trans hb4
        clear HO HR3 HT2 hb4 hb3
        go_wp2
        go_roundw
        case rel => exact ⟨k + 1, by omega, by go_num, hown4, hb5⟩
        case measure => simp [intOf]; omega
      | false =>
        rw [hal] at HT
        have HT2 : Hid ((R.take (k + 1)).filter (fun r => Cov.allowed F r) = L) := hid (by rw [HT.out]; simp)
        rw [← HT2.out] at hown2
        have HO := hid hown2
        clear hown hown2 HT HT2 HFr hrr HR2 hal hb hb2
        go_wp2
        go_roundw
        case rel => exact ⟨k + 1, by omega, by go_num, HO.out, hb3⟩
        case measure => simp [intOf]; omega
    · obtain rfl : k = R.length := by omega
      rw [List.take_length, ← hDef.out] at hown
      have HO2 := hid (OwnO.sl steady_ints hown)
      have hB2 := HB.out.trans (hb.mono HB.out.size)
      clear hown
      go_wp2
      go_ret
      exact ⟨_, rfl, SlV.mono HO2.out (fun _ _ _ => trivial) (fun _ _ h => IntsV.mono h (fun _ _ _ => trivial)), hB2⟩

end Go.Proofs.YtjaejnacdanpkaaDoor

namespace Go.Proofs.YtjaejnacdanpkaaDoor
open Go.RowKit

set_option maxRecDepth 100000 in
set_option maxHeartbeats 1000000 in
theorem asked_any (ns : List Nat) (hn : ∀ n ∈ ns, n ≤ 8) (hl : ns.length ≤ 8) (fl : Nat) (sa : Option Addr) (sc : Nat) (fa : Option Addr) (fc : Nat) (t : Nat) (S : Nat → Prop) (w : World)
    (hs : IntsV S w (.slice sa ns.length sc) (szI ns)) :
    Calls Tryd.prog 22 #[.agg #[.slice sa ns.length sc, .slice fa fl fc, .int .i64 t]] w fun e w' => ∃ x, e = .returned x ∧ RowsV AnyB w' x (Cov.asked ns t) ∧ Below w.heap.size w w' := by
  obtain ⟨sa', sc', es, hoks, hcaps, hmaxs⟩ := hs.form
  rw [List.length_map] at es hoks hcaps
  cases es
  have hA0 : Below w.heap.size w (w.alloc (.cells #[.slice sa ns.length sc, .slice fa fl fc, .int .i64 t] 25)) := (Below.refl _ _).alloc (Nat.le_refl _) _
  have HAll := hid (all_any true ns hn hl sa sc fa fl fc t S _ (hs.keep (KeepS.below hA0)))
  have HA0 := hid hA0
  have HSZ := hid (allP_size true ns hn)
  have HLN := hid (allP_len true ns)
  have hsz : (allP true ns).length ≤ 50000000 := Nat.le_trans HSZ.out (Nat.le_trans (Nat.pow_le_pow_right (by omega) hl) (by decide))
  clear hA0 hs
  go_enter Tryd.func22, Tryd.ntmps22
  go_wp2_with fail
  refine HAll.out.mono ?_
  rintro e w1 ⟨xr, rfl, hxr, hb1⟩
  obtain ⟨ar, cr, rfl, hokr, hcapr, hmaxr⟩ := hxr.form
  have hbox := (hb1.block w.heap.size (by simp)).trans (World.alloc_heap_new _ _)
  have hszb := (Array.getElem?_eq_some_iff.1 hbox).1
  have bx : ∀ q (h : q < 3) W, Below w1.heap.size w1 W → W.cell? ⟨w.heap.size, q, none⟩ = (#[.slice sa ns.length sc, .slice fa fl fc, .int .i64 t] : Array Value)[q]? := fun q h W hW => by
    have hq : w1.cell? ⟨w.heap.size, q, none⟩ = (#[.slice sa ns.length sc, .slice fa fl fc, .int .i64 t] : Array Value)[q]? := cell_of_row _ _ q _ _ (0, 0) hbox
    match q, h with
    | 0, _ => exact cell_later hW hq
    | 1, _ => exact cell_later hW hq
    | 2, _ => exact cell_later hW hq
  have hb01 : Below w.heap.size w w1 := HA0.out.trans (hb1.mono (by simp))
  have HX := hid (RowsV.mono (S' := (· < w1.heap.size)) hxr (fun b hb _ => hb))
  have HB := hid hb01
  have HBX := hid bx
  clear hxr hbox bx hb1 hb01 HAll HSZ
  have hDef : Hid (Cov.asked ns t = (allP true ns).filter fun r => decide (Cov.vals r = t)) := hid rfl
  generalize allP true ns = R at *
  go_wp2
  go_loopw [4, 5] (fun o i wr => ∃ k : Nat, k ≤ R.length ∧ i = .int .i64 k ∧ OwnO (fun S => IntsV S) w1.heap.size 22 wr o ((R.take k).filter fun r => decide (Cov.vals r = t)) ∧ Below w1.heap.size w1 wr) (fun _ i _ => R.length - (intOf i).toNat)
  case atStart => exact ⟨0, by omega, rfl, by simpa using OwnO.nil _ _ _ _, Below.refl _ _⟩
  case round =>
    obtain ⟨k, hk, rfl, hown, hb⟩ := hrel
    by_cases hlt : k < R.length
    · obtain ⟨ur, hcr, hbr, hrr⟩ := (RowsV.keep HX.out (KeepS.below hb)).at hlt
      obtain ⟨ae, ce, rfl, -, -, -⟩ := hrr.form
      have hrl := HLN.out _ (List.getElem_mem hlt)
      have HT := hid (filter_take (fun r => decide (Cov.vals r = t)) R k hlt)
      have hlen := filter_len (fun r => decide (Cov.vals r = t)) R k
      have bx0 := HBX.out 0 (by omega) wr hb
      have bx1 := HBX.out 1 (by omega) wr hb
      have bx2 := HBX.out 2 (by omega) wr hb
      have hzb : w.heap.size < wr.heap.size := by have := hb.size; omega
      have HFr := hid (fun (nq : Nat) => values_any R[k] (by rw [hrl]; omega) (.slice ae R[k].length ce) _ (wr.drewN nq) (hrr.keep (KeepS.below (below_drewN (Below.refl _ _) nq))))
      have hv8 : Cov.vals R[k] ≤ 8 := by unfold Cov.vals; have := List.length_filter_le (fun x : Int => decide (0 ≤ x)) R[k]; omega
      clear hrl
      generalize R[k] = r at *
      generalize ((R.take k).filter fun r => decide (Cov.vals r = t)) = L at *
      have hk0 : (0 : Int) ≤ k := by omega
      have hk1 : (k : Int) < R.length := by omega
      simp only [List.getElem?_toArray, List.getElem?_cons_zero, List.getElem?_cons_succ] at bx0 bx1 bx2
      have hdr := fun nq => below_drewN (Below.refl wr.heap.size wr) nq
      cases hal : decide (Cov.vals r = t) with
      | true =>
        have hd : (((Cov.vals r : Nat) : Int) == (t : Int)) = true := beqT (by have := of_decide_eq_true hal; omega)
        rw [hal] at HT
        have HT2 : Hid (L ++ [r] = (R.take (k + 1)).filter (fun r => decide (Cov.vals r = t))) := hid (by rw [HT.out]; simp)
        have HO := hid (fun nq => OwnO.below steady_ints hown (hdr nq))
        have HR3 := hid (fun nq => hrr.keep (KeepS.below (hdr nq)))
        have hzw : w1.heap.size ≤ wr.heap.size := hb.size
        have HB1 := hid hb
        generalize Cov.vals r = vr at *
        clear hown HT hrr hal hb hdr
        go_wp2
        go_quiet ((exact Calls.quiet_of_same (HFr.out _)))
        go_wp2_with (at_builtin; go_must (refine wpList_appO1 steady_ints rfl _ _ rfl Tryd.app63 rfl (HO.out _) rfl r (HR3.out _) rfl (by omega) hzw ?_))
        intro v4 w4 hown4 hb4
        rw [HT2.out] at hown4
        have hb5 := (below_drewN HB1.out _).trans hb4
        clear HO HR3 HT2 hb4 HB1
        go_wp2
        go_roundw
        case rel => exact ⟨k + 1, by omega, by go_num, hown4, hb5⟩
        case measure => simp [intOf]; omega
      | false =>
        have hd : (((Cov.vals r : Nat) : Int) == (t : Int)) = false := beqF (by have := of_decide_eq_false hal; omega)
        rw [hal] at HT
        have HT2 : Hid ((R.take (k + 1)).filter (fun r => decide (Cov.vals r = t)) = L) := hid (by rw [HT.out]; simp)
        rw [← HT2.out] at hown
        have HO := hid (fun nq => OwnO.below steady_ints hown (hdr nq))
        have HB1 := hid hb
        generalize Cov.vals r = vr at *
        clear hown HT HT2 hrr hal hb hdr
        go_wp2
        go_quiet ((exact Calls.quiet_of_same (HFr.out _)))
        go_wp2
        go_roundw
        case rel => exact ⟨k + 1, by omega, by go_num, HO.out _, below_drewN HB1.out _⟩
        case measure => simp [intOf]; omega
    · obtain rfl : k = R.length := by omega
      rw [List.take_length, ← hDef.out] at hown
      have HO2 := hid (OwnO.sl steady_ints hown)
      have hB2 := HB.out.trans (hb.mono HB.out.size)
      clear hown
      go_wp2
      go_ret
      exact ⟨_, rfl, SlV.mono HO2.out (fun _ _ _ => trivial) (fun _ _ h => IntsV.mono h (fun _ _ _ => trivial)), hB2⟩

end Go.Proofs.YtjaejnacdanpkaaDoor

namespace Go.Proofs.YtjaejnacdanpkaaDoor
open Go.RowKit

/-- Each row of some that has a combination has one of some forbidden ones. -/
def showsR (R F : List (List Int)) (c set : List Int) : Bool := (R.filter fun r => Cov.has r c).all fun r => set.any fun k => Cov.has r (F.getD k.toNat [])
theorem showsR_eq (ns : List Nat) (F : List (List Int)) (c set : List Int) : showsR (Cov.rowsC ns) F c set = Cov.showsB ns F c set := rfl
theorem showsR_take (R F : List (List Int)) (c set : List Int) (k : Nat) (h : k < R.length) : showsR (R.take (k + 1)) F c set = (showsR (R.take k) F c set && (!Cov.has R[k] c || set.any fun j => Cov.has R[k] (F.getD j.toNat []))) := by
  unfold showsR
  rw [filter_take _ _ _ h, List.all_append]
  cases Cov.has R[k] c <;> simp
theorem showsR_false (R F : List (List Int)) (c set : List Int) (k : Nat) (h : k < R.length) (h1 : Cov.has R[k] c = true) (h2 : (set.any fun j => Cov.has R[k] (F.getD j.toNat [])) = false) : showsR R F c set = false := by
  unfold showsR
  rw [List.all_eq_false]
  exact ⟨R[k], List.mem_filter.2 ⟨List.getElem_mem h, h1⟩, by rw [h2]; decide⟩

set_option maxRecDepth 100000 in
set_option maxHeartbeats 4000000 in
theorem shows_any (m : Nat) (R F : List (List Int)) (c set : List Int) (hR : ∀ r ∈ R, r.length = m) (hF : ∀ f ∈ F, f.length = m) (hc : c.length = m) (hset : ∀ k ∈ set, 0 ≤ k ∧ k < F.length) (sv : Value) (sa : Option Addr) (sl sc : Nat) (hsv : sv = .slice sa sl sc) (fa : Option Addr) (fc : Nat) (t : Int) (vr vc vs : Value) (S1 S2 S3 S4 : Nat → Prop) (w : World)
    (hf : RowsV S1 w (.slice fa F.length fc) F) (hr : RowsV S2 w vr R) (hcv : IntsV S3 w vc c) (hs : IntsV S4 w vs set) :
    Calls Tryd.prog 52 #[.agg #[sv, .slice fa F.length fc, .int .i64 t], vr, vc, vs] w fun e w' => e = .returned (.bool (showsR R F c set)) ∧ Below w.heap.size w w' := by
  subst hsv
  have hr0 := hr
  have hc0 := hcv
  have hs0 := hs
  obtain ⟨ar, cr, rfl, hokr, hcapr, hmaxr⟩ := hr.form
  obtain ⟨ac, cc, rfl, hokc, hcapc, hmaxc⟩ := hcv.form
  obtain ⟨as_, cs_, rfl, hoks, hcaps, hmaxs⟩ := hs.form
  obtain ⟨fa', fc', ef, hokf, hcapf, hmaxf⟩ := hf.form
  cases ef
  have hA0 : Below w.heap.size w (w.alloc (.cells #[.slice sa sl sc, .slice fa F.length fc, .int .i64 t] 25)) := (Below.refl _ _).alloc (Nat.le_refl _) _
  have hF0 := RowsV.keep hf (KeepS.below hA0)
  have hR0 := RowsV.keep hr0 (KeepS.below hA0)
  have hC0 := IntsV.keep hc0 (KeepS.below hA0)
  have hS0 := IntsV.keep hs0 (KeepS.below hA0)
  have hbx : (w.alloc (.cells #[.slice sa sl sc, .slice fa F.length fc, .int .i64 t] 25)).cell? ⟨w.heap.size, 1, none⟩ = some (.slice fa F.length fc) := by
    rw [cell_of_row _ _ 1 _ _ (0, 0) (World.alloc_heap_new w _)]; rfl
  have hzb : w.heap.size < (w.alloc (.cells #[.slice sa sl sc, .slice fa F.length fc, .int .i64 t] 25)).heap.size := by simp
  have HA0 := hid hA0
  have HC1 := hid hc
  clear hA0 hf hr hr0 hcv hc0 hs hs0 hc
  go_enter Tryd.func52, Tryd.ntmps52
  go_wp2
  generalize hW : w.alloc (.cells #[.slice sa sl sc, .slice fa F.length fc, .int .i64 t] 25) = W at *
  clear hW
  have HF0 := hid hF0
  have HR0 := hid hR0
  have HC0 := hid hC0
  have HS0 := hid hS0
  clear hF0 hR0 hC0 hS0
  go_loopw [9] (fun i wr => ∃ k : Nat, k ≤ R.length ∧ i = .int .i64 k ∧ Hid (showsR (R.take k) F c set = true) ∧ ∃ n, wr = W.drewN n) (fun i _ => R.length - (intOf i).toNat)
  case atStart => exact ⟨0, by omega, rfl, hid (by simp [showsR]), 0, rfl⟩
  case round =>
    obtain ⟨k, hk, rfl, hpre, n, rfl⟩ := hrel
    by_cases hlt : k < R.length
    · obtain ⟨ur, hcr, hbr, hrr⟩ := HR0.out.at hlt
      obtain ⟨ae, ce, rfl, hoke, -, -⟩ := hrr.form
      have hrl := hR _ (List.getElem_mem hlt)
      have HT := hid (showsR_take R F c set k hlt)
      have HFl := hid (showsR_false R F c set k hlt)
      have HH := hid (has_any R[k] c (by rw [hrl, HC1.out]) (.slice ae R[k].length ce) (.slice ac c.length cc) S2 S3 (W.drewN n) (IntsV.keep hrr (KeepS.below (below_drewN (Below.refl _ _) n))) (IntsV.keep HC0.out (KeepS.below (below_drewN (Below.refl _ _) n))))
      have HRL := hid hrl
      have HRR := hid hrr
      clear hrl hrr
      generalize R[k] = r at *
      have hk0 : (0 : Int) ≤ k := by omega
      have hk1 : (k : Int) < R.length := by omega
      go_wp2_with fail
      refine HH.out.mono ?_
      rintro e w' ⟨rfl, q, rfl⟩
      cases hh : Cov.has r c with
      | false =>
        have HP : Hid (showsR (R.take (k + 1)) F c set = true) := hid (by rw [HT.out, hpre.out, hh]; rfl)
        clear HT HFl HH hh hpre
        go_wp2
        go_roundw
        case rel => exact ⟨k + 1, by omega, by go_num, HP, _, rfl⟩
        case measure => simp [intOf]; omega
      | true =>
        rw [hh] at HT
        have HFl2 := hid (HFl.out hh)
        clear HFl HH hh
        go_wp2
        go_loopw [10, 11] (fun f i w2 => ∃ j : Nat, ∃ b : Bool, j ≤ set.length ∧ i = .int .i64 j ∧ f = .bool b ∧ Hid (((set.take j).any fun j => Cov.has r (F.getD j.toNat [])) = b) ∧ ∃ n, w2 = W.drewN n) (fun _ i _ => set.length - (intOf i).toNat)
        case atStart => exact ⟨0, false, by omega, rfl, rfl, hid rfl, _, rfl⟩
        case round =>
          obtain ⟨j, b, hj, rfl, rfl, hfb, n2, rfl⟩ := hrel
          by_cases hjs : j < set.length
          · obtain ⟨us, hcs, hbs, rfl⟩ := HS0.out.at hjs
            have hst := hset _ (List.getElem_mem hjs)
            have HAny := hid (any_take (fun j => Cov.has r (F.getD j.toNat [])) set j hjs)
            generalize set[j] = x at *
            obtain ⟨p, rfl⟩ := Int.eq_ofNat_of_zero_le hst.1
            have hpF : p < F.length := by omega
            obtain ⟨uf, hcf, hbf, hff⟩ := HF0.out.at hpF
            obtain ⟨af, cf, rfl, hokf2, -, -⟩ := hff.form
            have hfl := hF _ (List.getElem_mem hpF)
            have HS : ∀ nq, Hid (Calls Tryd.prog 25 #[.slice ae r.length ce, .slice af F[p].length cf] ((W.drewN n2).drewN nq) fun e w'' => e = .returned (.bool (Cov.has r F[p])) ∧ ∃ m, w'' = (W.drewN n2).drewN m) := fun nq =>
              hid (Calls.quiet_of (has_any r F[p] (by rw [hfl, HRL.out]) _ _ S2 S1 ((W.drewN n2).drewN nq) (IntsV.keep HRR.out (KeepS.below (below_drewN (below_drewN (Below.refl _ _) _) _))) (IntsV.keep hff (KeepS.below (below_drewN (below_drewN (Below.refl _ _) _) _)))))
            have hgp : F.getD (Int.toNat (p : Int)) [] = F[p] := by
              rw [Int.toNat_natCast, List.getD_eq_getElem?_getD, List.getElem?_eq_getElem hpF]; rfl
            rw [hgp] at HAny
            clear hgp hff hfl
            generalize F[p] = f0 at *
            have hj0 : (0 : Int) ≤ j := by omega
            have hj1 : (j : Int) < set.length := by omega
            have hp0 : (0 : Int) ≤ p := by omega
            have hp1 : (p : Int) < F.length := by omega
            generalize hX : W.drewN n2 = X at *
            have HX := hid hX
            have hcr' : X.cell? ⟨slb ar, slo ar + k, none⟩ = some (.slice ae r.length ce) := by rw [← hX]; exact hcr
            have hcs' : X.cell? ⟨slb as_, slo as_ + j, none⟩ = some (.int .i64 p) := by rw [← hX]; exact hcs
            have hcf' : X.cell? ⟨slb fa, slo fa + p, none⟩ = some (.slice af f0.length cf) := by rw [← hX]; exact hcf
            have hbx' : X.cell? ⟨w.heap.size, 1, none⟩ = some (.slice fa F.length fc) := by rw [← hX]; exact hbx
            clear hX
            cases b with
            | true =>
              have HB2 : Hid (((set.take (j + 1)).any fun j => Cov.has r (F.getD j.toNat [])) = true) := hid (by rw [HAny.out, hfb.out]; rfl)
              clear HAny hfb HS
              go_wp2
              go_quiet (fail)
              go_wp2
              go_roundw
              case rel => exact ⟨j + 1, true, by omega, by go_num, rfl, HB2, by rw [← HX.out, World.drewN_drewN]; exact ⟨_, rfl⟩⟩
              case measure => simp [intOf]; omega
            | false =>
              have HB2 : Hid (((set.take (j + 1)).any fun j => Cov.has r (F.getD j.toNat [])) = Cov.has r f0) := hid (by rw [HAny.out, hfb.out]; rfl)
              clear HAny hfb
              generalize Cov.has r f0 = bb at *
              go_wp2
              go_quiet (exact (HS _).out)
              go_wp2
              go_roundw
              case rel => exact ⟨j + 1, bb, by omega, by go_num, rfl, HB2, by rw [← HX.out, World.drewN_drewN]; exact ⟨_, rfl⟩⟩
              case measure => simp [intOf]; omega
          · obtain rfl : j = set.length := by omega
            have hfb2 := hfb.out
            rw [List.take_length] at hfb2
            cases b with
            | true =>
              have HP : Hid (showsR (R.take (k + 1)) F c set = true) := hid (by rw [HT.out, hpre.out, hfb2]; rfl)
              clear HT HFl2 hpre hfb hfb2
              go_wp2
              go_roundw
              case rel => exact ⟨k + 1, by omega, by go_num, HP, _, rfl⟩
              case measure => simp [intOf]; omega
            | false =>
              have HP := hid (HFl2.out hfb2)
              clear HT HFl2 hpre hfb hfb2
              go_wp2
              go_ret
              exact ⟨ret_bool HP.out.symm, below_drewN HA0.out _⟩
    · obtain rfl : k = R.length := by omega
      have hp := hpre.out
      rw [List.take_length] at hp
      have HT := hid hp
      clear hp hpre
      go_wp2
      go_ret
      exact ⟨ret_bool HT.out.symm, below_drewN HA0.out _⟩

end Go.Proofs.YtjaejnacdanpkaaDoor

namespace Go.Proofs.YtjaejnacdanpkaaDoor
open Go.RowKit

/-- A plan for the operations of a region: one that only reads; the only one that can come; two of which either can come. -/
inductive Plan where
  | done
  | quiet (i : Nat) (p : Plan)
  | one (i : Nat) (p : Plan)
  | two (i j : Nat) (p q : Plan)
  deriving DecidableEq

section
variable {P : Program} {ops : Array Oper} {md : Region.Mode} {C : World → Prop}

def wpPlan (P : Program) (ops : Array Oper) (C : World → Prop) (R : Act → World → Prop) (l : List Oper) : Plan → Act → World → Prop
  | .done, a, w => R a w
  | .quiet i s, a, w => match l[i]? with
    | some o => wpQuiet P ops C (fun a' => wpPlan P ops C R l s a' w) [o] a
    | none => False
  | .one i s, a, w => match l[i]? with
    | some o => wpList P ops (QN fun a' w' => C w' ∧ wpPlan P ops C R l s a' w') [o] a w
    | none => False
  | .two i j s t, a, w =>
    (match l[i]? with
    | some o => wpList P ops (QN fun a' w' => C w' ∧ wpPlan P ops C R l s a' w') [o] a w
    | none => False) ∧
    (match l[j]? with
    | some o => wpList P ops (QN fun a' w' => C w' ∧ wpPlan P ops C R l t a' w') [o] a w
    | none => False)

def Region.planB (md : Region.Mode) (ops : Array Oper) (n : Nat) : Nat → Plan → Array Bool → Bool
  | 0, .done, listed => Region.seqB md ops (ops.size - n) n listed
  | f + 1, .one c s, listed => decide (Region.ready md ops listed = [c]) && decide (c < n) && Region.planB md ops n f s (listed.setIfInBounds c true)
  | f + 1, .two c d s t, listed => decide (Region.ready md ops listed = [c, d]) && decide (c < n) && decide (d < n) && Region.planB md ops n f s (listed.setIfInBounds c true) && Region.planB md ops n f t (listed.setIfInBounds d true)
  | f + 1, .quiet q s, listed => (Region.ready md ops listed).contains q && Region.free md ops listed q && decide (q < n) && ((ops[q]?).map (fun o => quietOp o.op)).getD false && Region.planB md ops n f s (listed.setIfInBounds q true)
  | _, _, _ => false

/-- The Bool of the law. -/
def Region.planTailB (md : Region.Mode) (ops : Array Oper) (n : Nat) (s : Plan) : Bool :=
  Region.noSelect ops && decide (n < ops.size) && Region.sinkB md ops n && Region.chainB md ops n && Region.planB md ops n n s (Array.replicate ops.size false)

theorem wpAnyH_plan {n : Nat} {Lq : Act → World → Prop} (hsel : Region.noSelect ops = true) (hs : Region.sinkB md ops n = true) (hc : Region.chainB md ops n = true) (hn : n < ops.size) :
    ∀ (f : Nat) (s : Plan) (listed : Array Bool) (a : Act) (w : World), C w → HeadInv md ops n listed → Region.planB md ops n f s listed = true → wpPlan P ops C Lq ops.toList s a w →
    wpAnyH P md ops C n (fun listed' a' w' => Region.seqB md ops (ops.size - n) n listed' = true ∧ Lq a' w') f listed a w
  | 0, .done, listed, a, w, hC, inv, hB, h => by
    simp only [Region.planB] at hB
    exact ⟨hB, h⟩
  | f + 1, .quiet k s, listed, a, w, hC, inv, hB, h => by
    simp only [Region.planB, Bool.and_eq_true, decide_eq_true_eq] at hB
    obtain ⟨⟨⟨⟨hr, hf⟩, hkn⟩, hq⟩, hB⟩ := hB
    have hks : k < ops.size := by omega
    obtain ⟨o, h0⟩ : ∃ o, ops[k]? = some o := ⟨ops[k], by simp [hks]⟩
    have h0' : ops.toList[k]? = some o := by simpa using h0
    simp only [wpPlan, h0'] at h
    have hqo : quietOp o.op = true := by rw [h0] at hq; simpa using hq
    unfold wpQuiet at h
    split at h
    · rename_i hw
      obtain ⟨v, h1, h2⟩ := h
      have hy : YieldsC P ops C o v a := .inl ⟨hw, fun w1 hC1 => by
        have g := h1 w1 hC1
        unfold Oper.quietAt at g
        generalize hr1 : (execOp a.eval o).run P w1 = r at g ⊢
        cases r with
        | ok nx w2 =>
          cases nx with
          | value u => obtain ⟨e1, e2⟩ := g; rw [e1, e2]
          | _ => exact absurd hr1 (quietOp_noEnter hqo (by intro v; simp))
        | halt x w2 => exact g.elim⟩
      exact wpAnyH_take h0 hsel hs hc hn hkn (fun listed' a' w' hL => seqB_ge hL.1 (Nat.le_refl _)) hC inv hf hr hy
        (wpAnyH_plan hsel hs hc hn f s _ _ w hC (inv.set (by simpa using hr) hkn) hB h2)
    · rename_i hw
      exact wpAnyH_take h0 hsel hs hc hn hkn (fun listed' a' w' hL => seqB_ge hL.1 (Nat.le_refl _)) hC inv hf hr (.inr ⟨by simpa using hw, rfl⟩)
        (wpAnyH_plan hsel hs hc hn f s _ _ w hC (inv.set (by simpa using hr) hkn) hB h)
  | f + 1, .one k s, listed, a, w, hC, inv, hB, h => by
    simp only [Region.planB, Bool.and_eq_true, decide_eq_true_eq] at hB
    obtain ⟨⟨hr, hkn⟩, hB⟩ := hB
    have hks : k < ops.size := by omega
    obtain ⟨o, h0⟩ : ∃ o, ops[k]? = some o := ⟨ops[k], by simp [hks]⟩
    have h0' : ops.toList[k]? = some o := by simpa using h0
    simp only [wpPlan, h0'] at h
    refine ⟨by rw [hr]; simp, fun i hi => ?_⟩
    rw [hr] at hi
    obtain rfl : i = k := by simpa using hi
    refine ⟨hkn, hOp_mono (fun a' w' hC' h3 => ?_) (wpOp_of_list h0 h)⟩
    exact wpAnyH_plan hsel hs hc hn f s _ _ w' hC' (inv.set (by rw [hr]; simp) hkn) hB h3
  | f + 1, .two k j s t, listed, a, w, hC, inv, hB, h => by
    simp only [Region.planB, Bool.and_eq_true, decide_eq_true_eq] at hB
    obtain ⟨⟨⟨⟨hr, hkn⟩, hjn⟩, hB1⟩, hB2⟩ := hB
    have hks : k < ops.size := by omega
    have hjs : j < ops.size := by omega
    obtain ⟨o, h0⟩ : ∃ o, ops[k]? = some o := ⟨ops[k], by simp [hks]⟩
    obtain ⟨o', g0⟩ : ∃ o, ops[j]? = some o := ⟨ops[j], by simp [hjs]⟩
    have h0' : ops.toList[k]? = some o := by simpa using h0
    have g0' : ops.toList[j]? = some o' := by simpa using g0
    simp only [wpPlan, h0', g0'] at h
    refine ⟨by rw [hr]; simp, fun i hi => ?_⟩
    rw [hr] at hi
    by_cases e : i = k
    · subst e
      refine ⟨hkn, hOp_mono (fun a' w' hC' h3 => ?_) (wpOp_of_list h0 h.1)⟩
      exact wpAnyH_plan hsel hs hc hn f s _ _ w' hC' (inv.set (by rw [hr]; simp) hkn) hB1 h3
    · obtain rfl : i = j := by simpa [e] using hi
      refine ⟨hjn, hOp_mono (fun a' w' hC' h3 => ?_) (wpOp_of_list g0 h.2)⟩
      exact wpAnyH_plan hsel hs hc hn f t _ _ w' hC' (inv.set (by rw [hr]; simp) hjn) hB2 h3
  | 0, .quiet .., _, _, _, _, _, hB, _ => by simp [Region.planB] at hB
  | 0, .one .., _, _, _, _, _, hB, _ => by simp [Region.planB] at hB
  | 0, .two .., _, _, _, _, _, hB, _ => by simp [Region.planB] at hB
  | _ + 1, .done, _, _, _, _, _, hB, _ => by simp [Region.planB] at hB

/-- **The law.** -/
theorem wp_region_plan {id : Nat} {Q : Exit → Act → World → Prop} {a : Act} {w : World} {l : List Oper} (n : Nat) (s : Plan) (C : World → Prop) (hm : P.follows .mixedOrders = true) (hB : Region.planTailB .any l.toArray n s = true) (hC : C (w.drewN 1))
    (h : wpPlan P l.toArray C (fun a' w' => wpList P l.toArray Q (l.drop n) a' w') l s a (w.drewN 1)) : (Code.region id l.toArray true).wp P Q a w := by
  simp only [Region.planTailB, Bool.and_eq_true, decide_eq_true_eq] at hB
  obtain ⟨⟨⟨⟨hsel, hn⟩, hs⟩, hc⟩, hlex⟩ := hB
  have inv0 : HeadInv .any l.toArray n (Array.replicate l.toArray.size false) :=
    ⟨by simp, fun j oj _ hl => (by rw [getD_replicate_false] at hl; cases hl), fun t _ ht => getD_in (by simpa using ht) (getD_replicate_false _ _)⟩
  have H := wpAnyH_plan (md := .any) (Lq := fun a' w' => wpList P l.toArray Q (l.drop n) a' w') hsel hs hc hn n s _ a _ hC inv0 hlex (by simpa using h)
  refine wp_region_any hm ?_
  have hdl : (l.drop n).length = l.toArray.size - n := by simp
  have := wpAny_of_headH (Q' := Q) (g := l.toArray.size - n) (fun listed a' w' hL => by
    have := wpAny_of_seq (md := .any) (Q' := Q) (l.drop n) n listed a' w' (fun j => by simp [List.getElem?_drop]) (by rw [hdl]; exact hL.1) hL.2
    rwa [hdl] at this) _ _ _ _ H
  rw [show n + (l.toArray.size - n) = l.toArray.size by omega] at this
  exact this

theorem wpPlan_quiet {R : Act → World → Prop} {l : List Oper} {i : Nat} {s : Plan} {a : Act} {w : World} {o : Oper} (ho : l[i]? = some o)
    (h : wpQuiet P ops C (fun a' => wpPlan P ops C R l s a' w) [o] a) : wpPlan P ops C R l (.quiet i s) a w := by
  simp only [wpPlan, ho]; exact h
theorem wpPlan_one {R : Act → World → Prop} {l : List Oper} {i : Nat} {s : Plan} {a : Act} {w : World} {o : Oper} (ho : l[i]? = some o)
    (h : wpList P ops (QN fun a' w' => C w' ∧ wpPlan P ops C R l s a' w') [o] a w) : wpPlan P ops C R l (.one i s) a w := by
  simp only [wpPlan, ho]; exact h
theorem wpPlan_two {R : Act → World → Prop} {l : List Oper} {i j : Nat} {s t : Plan} {a : Act} {w : World} {o o' : Oper} (ho : l[i]? = some o) (ho' : l[j]? = some o')
    (h1 : wpList P ops (QN fun a' w' => C w' ∧ wpPlan P ops C R l s a' w') [o] a w)
    (h2 : wpList P ops (QN fun a' w' => C w' ∧ wpPlan P ops C R l t a' w') [o'] a w) : wpPlan P ops C R l (.two i j s t) a w := by
  simp only [wpPlan, ho, ho']; exact ⟨h1, h2⟩
theorem wpPlan_done {R : Act → World → Prop} {l : List Oper} {a : Act} {w : World} (h : R a w) : wpPlan P ops C R l .done a w := h

/-- Quiet operations, in front of a plan. -/
def Plan.quiets : List Nat → Plan → Plan
  | [], p => p
  | i :: l, p => .quiet i (Plan.quiets l p)

/-- A run of quiet steps at once. -/
theorem wpPlan_run {R : Act → World → Prop} {l : List Oper} {w : World} {s : Plan} : ∀ (is : List Nat) (a : Act), (∀ i ∈ is, i < l.length) →
    wpQuiet P ops C (fun a' => wpPlan P ops C R l s a' w) (is.filterMap (fun i => l[i]?)) a → wpPlan P ops C R l (Plan.quiets is s) a w
  | [], _, _, h => h
  | i :: is, a, hl, h => by
    have hi : i < l.length := hl i (List.mem_cons_self ..)
    have ho : l[i]? = some l[i] := List.getElem?_eq_getElem hi
    have ih := fun a => wpPlan_run (R := R) (w := w) (s := s) is a (fun j hj => hl j (List.mem_cons_of_mem _ hj))
    rw [List.filterMap_cons, ho] at h
    refine wpPlan_quiet ho ?_
    show wpQuiet P ops C _ [l[i]] a
    unfold wpQuiet at h ⊢
    split
    · rename_i hw
      rw [if_pos hw] at h
      exact Oper.quiet_mono (fun a' h' => ih a' h') h
    · rename_i hw
      rw [if_neg hw] at h
      exact ih _ h

/-- The law at the worlds that have grown out of w. -/
theorem wp_region_grewP {id : Nat} {Q : Exit → Act → World → Prop} {a : Act} {w : World} {l : List Oper} (n : Nat) (s : Plan) (hm : P.follows .mixedOrders = true) (hB : Region.planTailB .any l.toArray n s = true)
    (h : wpPlan P l.toArray (fun W => ∃ x : Grew w, W = x.1) (fun a' w' => wpList P l.toArray Q (l.drop n) a' w') l s a (w.drewN 1)) : (Code.region id l.toArray true).wp P Q a w :=
  wp_region_plan n s (InGrew w) hm hB (.of ⟨rfl, rfl, rfl, Nat.le_refl _, fun _ _ => rfl⟩) h

end

end Go.Proofs.YtjaejnacdanpkaaDoor
