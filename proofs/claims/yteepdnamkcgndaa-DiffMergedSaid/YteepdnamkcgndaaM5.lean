/- The reference's Plain. -/
import Derived.Test.YteepdnamkcgndaaM4
import Derived.Test.YteepdnamkcgndaaM13
namespace Go.Proofs.Yteepdnamkcgndaa
open Go.RowKit

def baseB (c : Chg) : Bool := decide (0 ≤ c.kind) && (decide (0 ≤ c.index) && Mer.formedB c)
def partB (l : List Chg) (k : Int) : Bool := Mer.chainB (fun a b => Mer.afterB b a) (Mer.ofR l k true) && (Mer.chainB Mer.tailOk (Mer.ofR l k false) && Mer.belowB (Mer.ofR l k true) (Mer.ofR l k false))
theorem plainR_eq (l : List Chg) : Mer.plainR l = (l.all baseB && (Mer.chainB Mer.orderR l && l.all fun c => partB l c.kind)) := rfl
structure PlainTo (cs : List Chg) (k : Nat) : Prop where
  base : ∀ j (h : j < cs.length), j < k → baseB cs[j] = true
  order : ChainTo Mer.orderR cs k
theorem plain_base {cs : List Chg} {k : Nat} (hk : k < cs.length) (h : baseB cs[k] = false) : Mer.plainR cs = false := by
  rw [plainR_eq]
  have : cs.all baseB = false := by
    rw [Bool.eq_false_iff]
    intro h'
    rw [List.all_eq_true.1 h' _ (List.getElem_mem hk)] at h
    cases h
  rw [this]; rfl
theorem plain_order {cs : List Chg} {k : Nat} (h1 : 1 ≤ k) (hk : k < cs.length) (h : Mer.orderR cs[k - 1] cs[k] = false) : Mer.plainR cs = false := by
  rw [plainR_eq, chain_bad h1 hk h]
  cases cs.all baseB <;> rfl
theorem plain_part {cs : List Chg} {k : Nat} (hk : k < cs.length) (h : partB cs cs[k].kind = false) : Mer.plainR cs = false := by
  rw [plainR_eq]
  have : (cs.all fun c => partB cs c.kind) = false := by
    rw [Bool.eq_false_iff]
    intro h'
    rw [List.all_eq_true.1 h' _ (List.getElem_mem hk)] at h
    cases h
  rw [this]
  cases cs.all baseB <;> cases Mer.chainB Mer.orderR cs <;> rfl
theorem PlainTo.zero (cs : List Chg) : PlainTo cs 0 := ⟨fun j _ h => by omega, fun j _ h => by omega⟩
theorem PlainTo.one {cs : List Chg} (hk : 0 < cs.length) (hb : baseB cs[0] = true) : PlainTo cs 1 :=
  ⟨fun j _ h => by obtain rfl : j = 0 := by omega
                   exact hb, fun j _ h => by omega⟩
theorem PlainTo.next {cs : List Chg} {k : Nat} (h : PlainTo cs k) (h1 : 1 ≤ k) (hk : k < cs.length) (hb : baseB cs[k] = true) (ho : Mer.orderR cs[k - 1] cs[k] = true) : PlainTo cs (k + 1) :=
  ⟨fun j hj hl => by
    by_cases e : j = k
    · subst e; exact hb
    · exact h.base j hj (by omega), h.order.next h1 hk ho⟩
def PartsTo (cs : List Chg) (k : Nat) : Prop := ∀ j (h : j < cs.length), j < k → partB cs cs[j].kind = true
theorem PartsTo.next {cs : List Chg} {k : Nat} (h : PartsTo cs k) (hk : k < cs.length) (hp : partB cs cs[k].kind = true) : PartsTo cs (k + 1) := fun j hj hl => by
  by_cases e : j = k
  · subst e; exact hp
  · exact h j hj (by omega)
theorem plain_all {cs : List Chg} {k m : Nat} (h1 : PlainTo cs k) (hk : cs.length ≤ k) (h2 : PartsTo cs m) (hm : cs.length ≤ m) : Mer.plainR cs = true := by
  rw [plainR_eq, h1.order.last hk]
  have e1 : cs.all baseB = true := List.all_eq_true.2 fun c hc => by
    obtain ⟨j, hj, rfl⟩ := List.getElem_of_mem hc
    exact h1.base j hj (by omega)
  have e2 : (cs.all fun c => partB cs c.kind) = true := List.all_eq_true.2 fun c hc => by
    obtain ⟨j, hj, rfl⟩ := List.getElem_of_mem hc
    exact h2 j hj (by omega)
  rw [e1, e2]; rfl

theorem orderR_kind {a b : Chg} (h : b.kind < a.kind) : Mer.orderR a b = false := by unfold Mer.orderR; simp [h]
theorem orderR_set {a b : Chg} (h : b.kind = a.kind) (hb : 0 ≤ b.field) (ha : a.field < 0) : Mer.orderR a b = false := by
  have e1 : Mer.isSet b = true := by unfold Mer.isSet; simp [hb]
  have e2 : Mer.isSet a = false := by unfold Mer.isSet; simp [ha]
  unfold Mer.orderR
  simp [h, e1, e2]
theorem orderR_more {a b : Chg} (h : a.kind < b.kind) : Mer.orderR a b = true := by
  unfold Mer.orderR
  rw [decide_eq_false (by omega), decide_eq_false (show ¬ b.kind = a.kind by omega)]
  rfl
theorem orderR_rest {a b : Chg} (h : b.kind = a.kind) (hb : b.field < 0) : Mer.orderR a b = true := by
  have e1 : Mer.isSet b = false := by unfold Mer.isSet; simp [hb]
  unfold Mer.orderR
  rw [decide_eq_false (by omega), e1]
  simp
theorem orderR_both {a b : Chg} (h : b.kind = a.kind) (ha : 0 ≤ a.field) : Mer.orderR a b = true := by
  have e1 : Mer.isSet a = true := by unfold Mer.isSet; simp [ha]
  unfold Mer.orderR
  rw [decide_eq_false (by omega), e1]
  simp

set_option maxRecDepth 100000 in
set_option maxHeartbeats 8000000 in
theorem rplain_any (cs : List Chg) (hc : cs.length ≤ 100000) (hg : GoodL cs) (u : Value) (S : Nat → Prop) (w : World) (hu : ChV S w u cs) :
    Calls Try.prog 29 #[u] w fun e w' => e = .returned (.bool (Mer.plainR cs)) ∧ Below w.heap.size w w' := by
  have HU0 := hid hu
  obtain ⟨a, cap, rfl, hok, hcap, hmax⟩ := hu.form
  clear hu
  go_enter Try.func29, Try.ntmps29
  go_wp2
  go_loopw [3] (fun i wr => ∃ k : Nat, k ≤ cs.length ∧ i = .int .i64 k ∧ Hid (PlainTo cs k) ∧ Hid (Below w.heap.size w wr)) (fun i _ => cs.length - (intOf i).toNat)
  case atStart => exact ⟨0, by omega, rfl, hid (PlainTo.zero cs), hid (Below.refl _ _)⟩
  case round =>
    obtain ⟨k, hk, rfl, hpre, hb⟩ := hrel
    by_cases hlt : k < cs.length
    · have hu1 : ChV S wr (.slice a cs.length cap) cs := HU0.out.keep (KeepS.below hb.out)
      obtain ⟨hbk, -, c0, c1, c2, c3, c4, ul, c5, hul⟩ := hu1.at hlt
      have HNB : Hid (baseB cs[k] = false → Hid (Mer.plainR cs = false)) := hid (fun h => hid (plain_base hlt h))
      have HY1 : Hid (k = 0 → baseB cs[k] = true → Hid (PlainTo cs (k + 1))) := hid (fun h0 h => by subst h0; exact hid (PlainTo.one hlt h))
      have HY2 : Hid (∀ h1 : 1 ≤ k, baseB cs[k] = true → Mer.orderR (cs[k - 1]'(by omega)) cs[k] = true → Hid (PlainTo cs (k + 1))) := hid (fun h1 h ho => hid (hpre.out.next h1 hlt h ho))
      have HN2 : Hid (∀ h1 : 1 ≤ k, Mer.orderR (cs[k - 1]'(by omega)) cs[k] = false → Hid (Mer.plainR cs = false)) := hid (fun h1 h => hid (plain_order h1 hlt h))
      generalize cs[k] = c at *
      obtain ⟨k0, i0, f0, o0, n0, vs⟩ := c
      simp only at c0 c1 c2 c3 c4 hul
      obtain ⟨al, cl, rfl, -, -, -⟩ := hul.form
      have hk0 : (0 : Int) ≤ k := by omega
      have hk1 : (k : Int) < cs.length := by omega
      have HF := hid (rformed_any ⟨k0, i0, f0, o0, n0, vs⟩ al cl (wr.alloc (.cells #[.int .i64 k0, .int .i64 i0, .int .i64 f0, .int .i64 o0, .int .i64 n0, .slice al vs.length cl] 54)))
      have HBX : Hid (∀ W', Below (wr.heap.size + 1) (wr.alloc (.cells #[.int .i64 k0, .int .i64 i0, .int .i64 f0, .int .i64 o0, .int .i64 n0, .slice al vs.length cl] 54)) W' →
          W'.cell? ⟨wr.heap.size, 0, none⟩ = some (.int .i64 k0) ∧ W'.cell? ⟨wr.heap.size, 2, none⟩ = some (.int .i64 f0) ∧ wr.heap.size < W'.heap.size) := hid (fun W' h => by
        have hh : W'.heap[wr.heap.size]? = some (.cells #[.int .i64 k0, .int .i64 i0, .int .i64 f0, .int .i64 o0, .int .i64 n0, .slice al vs.length cl] 54 (0, 0)) := by
          rw [h.block _ (by omega)]
          exact World.alloc_heap_new wr _
        refine ⟨?_, ?_, (Array.getElem?_eq_some_iff.1 hh).1⟩
        · rw [cell_of_row _ _ 0 _ _ (0, 0) hh]; rfl
        · rw [cell_of_row _ _ 2 _ _ (0, 0) hh]; rfl)
      have HB1 : Hid (∀ o : Obj, Below w.heap.size w (wr.alloc o)) := hid (fun o => hb.out.alloc hb.out.size o)
      clear hul hu1
      by_cases h1 : k0 < 0
      · have HR := HNB.out (by unfold baseB; rw [decide_eq_false (show ¬ (0 : Int) ≤ k0 by omega)]; rfl)
        clear HNB HY1 HY2 HN2
        go_wp2
        go_ret
        exact ⟨ret_bool HR.out.symm, HB1.out _⟩
      · by_cases h2 : i0 < 0
        · have HR := HNB.out (by unfold baseB; rw [decide_eq_false (show ¬ (0 : Int) ≤ i0 by omega)]; simp)
          clear HNB HY1 HY2 HN2
          go_wp2
          go_ret
          exact ⟨ret_bool HR.out.symm, HB1.out _⟩
        · by_cases h3 : FormedC ⟨k0, i0, f0, o0, n0, vs⟩
          · have HD := hid (decide_eq_true h3)
            have HBs : Hid (baseB ⟨k0, i0, f0, o0, n0, vs⟩ = true) := hid (by unfold baseB; rw [formedB_eq, HD.out, decide_eq_true (show (0 : Int) ≤ k0 by omega), decide_eq_true (show (0 : Int) ≤ i0 by omega)]; rfl)
            clear h3 HNB
            by_cases hz : k = 0
            · have gz : ((k : Int) == 0) = true := by simp [hz]
              have HR := HY1.out hz HBs.out
              clear HY1 HY2 HN2 hz
              go_wp2_with fail
              refine HF.out.mono ?_
              rintro e w5 ⟨rfl, hb5⟩
              rw [HD.out]
              have HB5 : Hid (Below w.heap.size w w5) := hid ((HB1.out _).trans (hb5.mono (by simp; have := hb.out.size; omega)))
              go_wp2
              go_roundw
              case rel => exact ⟨k + 1, by omega, by go_num, HR, HB5⟩
              case measure => simp [intOf]; omega
            · have gz : ((k : Int) == 0) = false := beqF (by omega)
              have hk2 : 1 ≤ k := by omega
              have hlt' : k - 1 < cs.length := by omega
              have hix := idx_pred (cap := cap) hok hk2 hlt
              go_wp2_with fail
              refine HF.out.mono ?_
              rintro e w5 ⟨rfl, hb5⟩
              rw [HD.out]
              go_wp2
              have HB5 : Hid (Below w.heap.size w w5) := hid ((HB1.out _).trans (hb5.mono (by simp; have := hb.out.size; omega)))
              clear c0 c1 c2 c3 c4 c5
              obtain ⟨bx0, bx2, bxs⟩ := HBX.out w5 (hb5.mono (by simp))
              have hu5 : ChV S w5 (.slice a cs.length cap) cs := HU0.out.keep (KeepS.below HB5.out)
              obtain ⟨hbk', -, d0, -, d2, -⟩ := hu5.at hlt'
              have HY3 := hid (HY2.out hk2 HBs.out)
              have HN3 := hid (HN2.out hk2)
              clear HY1 HY2 HN2 hu5 hb5
              generalize cs[k - 1] = d at *
              obtain ⟨k1, i1, f1, o1, n1, ws⟩ := d
              simp only at d0 d2
              by_cases j1 : k0 < k1
              · skip
                have HR := HN3.out (orderR_kind j1)
                clear HY3 HN3
                go_wp2
                go_quiet (fail)
                go_wp2
                go_ret
                exact ⟨ret_bool HR.out.symm, below_drewN HB5.out _⟩
              · by_cases j2 : k0 = k1
                · have g2 : (k0 == k1) = true := by simp [j2]
                  by_cases j3 : 0 ≤ f0
                  · by_cases j4 : f1 < 0
                    · skip
                      have HR := HN3.out (orderR_set j2 j3 j4)
                      clear HY3 HN3 g2
                      subst j2
                      go_wp2
                      go_quiet (fail)
                      go_wp2
                      go_ret
                      exact ⟨ret_bool HR.out.symm, below_drewN HB5.out _⟩
                    · skip
                      have HR := HY3.out (orderR_both j2 (by show (0 : Int) ≤ f1; omega))
                      clear HY3 HN3 g2
                      subst j2
                      go_wp2
                      go_quiet (fail)
                      go_wp2
                      go_roundw
                      case rel => exact ⟨k + 1, by omega, by go_num, HR, hid (below_drewN HB5.out _)⟩
                      case measure => simp [intOf]; omega
                  · have j5 : f0 < 0 := by omega
                    by_cases j4 : f1 < 0
                    all_goals
                      have HR := HY3.out (orderR_rest j2 j5)
                      have HD0 := hid (decide_eq_false j3)
                      clear HY3 HN3 g2 j5
                      subst j2
                      go_wp2
                      have hd0 := HD0.out
                      go_quiet (fail)
                      go_wp2
                      go_roundw
                      case rel => exact ⟨k + 1, by omega, by go_num, HR, hid (below_drewN HB5.out _)⟩
                      case measure => simp [intOf]; omega
                · have g2 : (k0 == k1) = false := beqF j2
                  by_cases j4 : f1 < 0
                  all_goals
                    have HR := HY3.out (orderR_more (by show k1 < k0; omega))
                    have HD1 := hid (decide_eq_false j1)
                    clear HY3 HN3 j2
                    go_wp2
                    have hd1 := HD1.out
                    go_quiet (fail)
                    go_wp2
                    go_roundw
                    case rel => exact ⟨k + 1, by omega, by go_num, HR, hid (below_drewN HB5.out _)⟩
                    case measure => simp [intOf]; omega
          · have HD := hid (decide_eq_false h3)
            have HR := HNB.out (by unfold baseB; rw [formedB_eq, HD.out]; simp)
            clear h3 HNB HY1 HY2 HN2
            go_wp2_with fail
            refine HF.out.mono ?_
            rintro e w5 ⟨rfl, hb5⟩
            rw [HD.out]
            go_wp2
            go_ret
            exact ⟨ret_bool HR.out.symm, (HB1.out _).trans (hb5.mono (by simp; have := hb.out.size; omega))⟩
    · have HP := hid hpre.out
      have HKL := hid (show cs.length ≤ k by omega)
      have hk3 : ¬ (k : Int) < cs.length := by omega
      go_wp2
      go_loopw [5] (fun i wr => ∃ m : Nat, m ≤ cs.length ∧ i = .int .i64 m ∧ Hid (PartsTo cs m) ∧ Hid (Below w.heap.size w wr)) (fun i _ => cs.length - (intOf i).toNat)
      case atStart => exact ⟨0, by omega, rfl, hid (fun j _ h => by omega), hb⟩
      case round =>
        clear hb hpre
        obtain ⟨m, hm, rfl, hpar, hb⟩ := hrel
        by_cases hlt : m < cs.length
        · have hu1 : ChV S wr (.slice a cs.length cap) cs := HU0.out.keep (KeepS.below hb.out)
          obtain ⟨hbk, -, c0, -⟩ := hu1.at hlt
          have HN : Hid (partB cs cs[m].kind = false → Hid (Mer.plainR cs = false)) := hid (fun h => hid (plain_part hlt h))
          have HY : Hid (partB cs cs[m].kind = true → Hid (PartsTo cs (m + 1))) := hid (fun h => hid (hpar.out.next hlt h))
          have HC0 : Hid (∀ W', Below wr.heap.size wr W' → W'.cell? ⟨slb a, slo a + m * 6, none⟩ = some (.int .i64 cs[m].kind)) := hid (fun W' h => cell_later h c0)
          generalize cs[m].kind = kk at *
          have hm0 : (0 : Int) ≤ m := by omega
          have hm1 : (m : Int) < cs.length := by omega
          have HF := hid (of_any cs hc kk true _ S wr hu1)
          clear hu1
          go_wp2_with fail
          refine HF.out.mono ?_
          rintro e w5 ⟨x, rfl, hx, hb5⟩
          have c5 := HC0.out w5 hb5
          have HB5 : Hid (Below w.heap.size w w5) := hid (hb.out.trans (hb5.mono hb.out.size))
          have hu5 : ChV S w5 (.slice a cs.length cap) cs := HU0.out.keep (KeepS.below HB5.out)
          have HF2 := hid (of_any cs hc kk false _ S w5 hu5)
          clear hu5 hb5 c0
          obtain ⟨xa, xc, rfl, xok, xcap, xmax⟩ := hx.form
          have HX0 := hid hx
          have hlx := ofR_len cs kk true
          clear hx
          go_wp2_with fail
          refine HF2.out.mono ?_
          rintro e w6 ⟨y, rfl, hy, hb6⟩
          have HB6 : Hid (Below w.heap.size w w6) := hid (HB5.out.trans (hb6.mono HB5.out.size))
          have HX6 : Hid (ChV AnyB w6 (.slice xa (Mer.ofR cs kk true).length xc) (Mer.ofR cs kk true)) := hid (HX0.out.keep (KeepS.below hb6))
          obtain ⟨ya, yc, rfl, yok, ycap, ymax⟩ := hy.form
          have HY6 := hid hy
          have hly := ofR_len cs kk false
          clear hy hb6 c5
          have HSS : Hid (∀ c ∈ Mer.ofR cs kk true, GoodC c) := hid (fun c hc' => hg c (Mer.ofR_mem.1 hc').1)
          have HSR : Hid (∀ c ∈ Mer.ofR cs kk false, GoodC c) := hid (fun c hc' => hg c (Mer.ofR_mem.1 hc').1)
          have HPT : Hid (partB cs kk = (Mer.chainB (fun a b => Mer.afterB b a) (Mer.ofR cs kk true) && (Mer.chainB Mer.tailOk (Mer.ofR cs kk false) && Mer.belowB (Mer.ofR cs kk true) (Mer.ofR cs kk false)))) := hid rfl
          have HLX := hid hlx
          have HLY := hid hly
          have hlx1 : (Mer.ofR cs kk true).length ≤ 100000 := by omega
          have hly1 : (Mer.ofR cs kk false).length ≤ 100000 := by omega
          clear hlx hly
          generalize Mer.ofR cs kk true = ss at *
          generalize Mer.ofR cs kk false = rs at *
          go_wp2
          go_loopw [8] (fun i wr => ∃ q : Nat, 1 ≤ q ∧ (q ≤ ss.length ∨ q = 1) ∧ i = .int .i64 q ∧ Hid (ChainTo (fun a b => Mer.afterB b a) ss q) ∧ Hid (Below w6.heap.size w6 wr)) (fun i _ => ss.length + 1 - (intOf i).toNat)
          case atStart => exact ⟨1, by omega, .inr rfl, rfl, hid (fun j h1 h2 => by omega), hid (Below.refl _ _)⟩
          case round =>
            obtain ⟨q, hq1, hq, rfl, hpre, hbq⟩ := hrel
            have HBQ : Hid (Below w.heap.size w wr) := hid (HB6.out.trans (hbq.out.mono HB6.out.size))
            by_cases hlq : q < ss.length
            · have hlq' : q - 1 < ss.length := by omega
              have hx1 := HX6.out.keep (KeepS.below hbq.out)
              obtain ⟨hbk1, -, d0, d1, d2, d3, d4, vl, d5, hvl⟩ := hx1.at hlq
              obtain ⟨hbk2, -, e0, e1, e2, e3, e4, ul, e5, hul⟩ := hx1.at hlq'
              have HYY : Hid (Mer.afterB ss[q] ss[q - 1] = true → Hid (ChainTo (fun a b => Mer.afterB b a) ss (q + 1))) := hid (fun h => hid (hpre.out.next hq1 hlq h))
              have HNN : Hid (Mer.afterB ss[q] ss[q - 1] = false → Hid (Mer.plainR cs = false)) := hid (fun h => HN.out (by rw [HPT.out, chain_bad (R := fun a b => Mer.afterB b a) hq1 hlq h]; rfl))
              have hix := idx_pred (cap := xc) xok hq1 hlq
              clear hx1
              generalize ss[q - 1] = c at *
              generalize ss[q] = d at *
              obtain ⟨k0, i0, f0, o0, n0, vs⟩ := c
              obtain ⟨k1, i1, f1, o1, n1, ws⟩ := d
              simp only at d0 d1 d2 d3 d4 hvl e0 e1 e2 e3 e4 hul
              obtain ⟨al, cl, rfl, -, -, -⟩ := hul.form
              obtain ⟨bl, el, rfl, -, -, -⟩ := hvl.form
              clear hul hvl
              have hq0 : (0 : Int) ≤ q := by omega
              have hq2 : (q : Int) < ss.length := by omega
              have HAF := hid (fun W => after_any ⟨k1, i1, f1, o1, n1, ws⟩ ⟨k0, i0, f0, o0, n0, vs⟩ bl al ws.length vs.length el cl W)
              clear hq
              go_wp2
              refine wp_region_quiet_tail 9 (by kernel_rfl) (by kernel_rfl) ?_
              simp only [List.take_succ_cons, List.take_zero, List.drop_succ_cons, List.drop_zero]
              repeat (go_big_quiet_step (fail))
              refine wpQuiet_nil ?_
              go_wp2_with fail
              refine (HAF.out _).mono ?_
              rintro e w7 ⟨rfl, hb7⟩
              have HB7 : Hid (Below wr.heap.size wr w7) := hid ((below_drewN (Below.refl _ _) _).trans hb7)
              have HB71 : Hid (Below w6.heap.size w6 w7) := hid (hbq.out.trans (HB7.out.mono hbq.out.size))
              have HB72 : Hid (Below w.heap.size w w7) := hid (HBQ.out.trans (HB7.out.mono HBQ.out.size))
              clear hb7
              cases hA : Mer.afterB ⟨k1, i1, f1, o1, n1, ws⟩ ⟨k0, i0, f0, o0, n0, vs⟩ with
              | true =>
                have HR := HYY.out hA
                clear hA HYY HNN
                go_wp2
                go_roundw
                case rel => exact ⟨q + 1, by omega, by omega, by go_num, HR, HB71⟩
                case measure => simp [intOf]; omega
              | false =>
                have HR := HNN.out hA
                clear hA HYY HNN
                go_wp2
                go_ret
                exact ⟨ret_bool HR.out.symm, HB72.out⟩
            · have HC := hid (hpre.out.last (by omega))
              have hq3 : ¬ (q : Int) < ss.length := by omega
              have HT := hid (tail_any rs hly1 (fun c hc' => (lil5.1 (HSR.out c hc').ints).2.1) _ _ wr (HY6.out.keep (KeepS.below hbq.out)))
              go_wp2_with fail
              refine HT.out.mono ?_
              rintro e w7 ⟨rfl, hb7⟩
              have HB71 : Hid (Below w6.heap.size w6 w7) := hid (hbq.out.trans (hb7.mono hbq.out.size))
              have HB72 : Hid (Below w.heap.size w w7) := hid (HBQ.out.trans (hb7.mono HBQ.out.size))
              clear hb7
              cases hA : Mer.chainB Mer.tailOk rs with
              | false =>
                have HR := HN.out (by rw [HPT.out, HC.out, hA]; rfl)
                clear hA
                go_wp2
                go_ret
                exact ⟨ret_bool HR.out.symm, HB72.out⟩
              | true =>
                have HW := hid (below_any ss rs hlx1 hly1 _ _ _ _ w7 (HX6.out.keep (KeepS.below HB71.out)) (HY6.out.keep (KeepS.below HB71.out)))
                go_wp2_with fail
                refine HW.out.mono ?_
                rintro e w8 ⟨rfl, nn, rfl⟩
                cases hB : Mer.belowB ss rs with
                | false =>
                  have HR := HN.out (by rw [HPT.out, HC.out, hA, hB]; rfl)
                  clear hA hB
                  go_wp2
                  go_ret
                  exact ⟨ret_bool HR.out.symm, below_drewN HB72.out _⟩
                | true =>
                  have HR := HY.out (by rw [HPT.out, HC.out, hA, hB]; rfl)
                  clear hA hB
                  go_wp2
                  go_roundw
                  case rel => exact ⟨m + 1, by omega, by go_num, HR, hid (below_drewN HB72.out _)⟩
                  case measure => simp [intOf]; omega
        · have HR := hid (plain_all HP.out HKL.out hpar.out (by omega))
          have hm3 : ¬ (m : Int) < cs.length := by omega
          go_wp2
          go_ret
          exact ⟨ret_bool HR.out.symm, hb.out⟩

end Go.Proofs.Yteepdnamkcgndaa
