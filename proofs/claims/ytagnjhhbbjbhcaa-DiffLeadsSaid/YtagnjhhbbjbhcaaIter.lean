/- The iterator over the changes of a kind. -/
import Derived.Test.YtagnjhhbbjbhcaaSay
import Derived.Test.YtagnjhhbbjbhcaaPSame
import Derived.Test.YtagnjhhbbjbhcaaClone
namespace Go.Proofs.Ytagnjhhbbjbhcaa
open Go.RowKit

theorem box_cell {A : Nat → Obj → Prop} {n0 : Nat} {W W1 : World} (ht : TurnT A n0 W W1) {B : Nat} {v : Value} {t : TypeId} (h : W.heap[B]? = some (.cells #[v] t (0, 0))) (ha : ¬ A B (.cells #[v] t (0, 0))) : W1.cell? ⟨B, 0, none⟩ = some v :=
  (one_cell (ht.2 _ _ h ha)).1

set_option maxRecDepth 100000 in
set_option maxHeartbeats 4000000 in
theorem iter_any (kind : Int) (a b : List (List Int)) (m : Nat) (hm1 : m ≤ a.length) (hm2 : m ≤ b.length) (ha : a.length ≤ 512) (hb : b.length ≤ 512) (ha10 : ∀ r ∈ a, r.length ≤ 10) (hb10 : ∀ r ∈ b, r.length ≤ 10)
    (hab : ∀ i (h1 : i < a.length) (h2 : i < b.length), a[i].length ≤ b[i].length) (n0 nB Pm Pa Pb Pk l n : Nat) (va vb : Value) (S : Nat → Prop) (hS : ∀ b, S b → b < n0) (J : List Chx → World → Prop) (w : World)
    (hsz : n0 ≤ w.heap.size) (hu : RowsV S w va a) (hv : RowsV S w vb b)
    (bm : w.heap[Pm]? = some (.cells #[.int .i64 m] 3 (0, 0))) (ba : w.heap[Pa]? = some (.cells #[va] 63 (0, 0))) (bb : w.heap[Pb]? = some (.cells #[vb] 63 (0, 0))) (bk : w.heap[Pk]? = some (.cells #[.int .i64 kind] 3 (0, 0)))
    (hJt : ∀ pre A B, J pre A → TurnT iterT n0 A B → J pre B)
    (hY : ∀ pre x W, J pre W → Chx.ok n0 pre x W → YieldAt Fence.wide n Try.prog l (Chx.enc x) W fun e W' => e = .returned (.bool true) ∧ J (pre ++ [x]) W' ∧ TurnT (fun b o => bodyT b o ∨ isBook nB b o) n0 W W') (h0 : J [] w) :
    Calls Try.prog 52 #[.func (.yield l) #[] #[], .pointer (some ⟨Pm, 0, none⟩), .pointer (some ⟨Pa, 0, none⟩), .pointer (some ⟨Pb, 0, none⟩), .pointer (some ⟨Pk, 0, none⟩)] w fun e w' =>
      (∃ v, e = .returned v) ∧ ∃ xs : List Chx, chs xs = listL kind a b m ∧ J xs w' := by
  have hu0 := hu
  have hv0 := hv
  obtain ⟨aa, ca, rfl, hoka, hcapa, hmaxa⟩ := hu.form
  obtain ⟨ab, cb, rfl, hokb, hcapb, hmaxb⟩ := hv.form
  clear hu hv
  have Cm : ∀ W1, TurnT (saidT nB) n0 w W1 → W1.cell? ⟨Pm, 0, none⟩ = some (.int .i64 m) := fun W1 h => box_cell h bm (by simp [cellsOf, ofT, isBook, book])
  have Ca : ∀ W1, TurnT (saidT nB) n0 w W1 → W1.cell? ⟨Pa, 0, none⟩ = some (.slice aa a.length ca) := fun W1 h => box_cell h ba (by simp [cellsOf, ofT, isBook, book])
  have Cb : ∀ W1, TurnT (saidT nB) n0 w W1 → W1.cell? ⟨Pb, 0, none⟩ = some (.slice ab b.length cb) := fun W1 h => box_cell h bb (by simp [cellsOf, ofT, isBook, book])
  have Ck : ∀ W1, TurnT (saidT nB) n0 w W1 → W1.cell? ⟨Pk, 0, none⟩ = some (.int .i64 kind) := fun W1 h => box_cell h bk (by simp [cellsOf, ofT, isBook, book])
  have Ru : ∀ W1, TurnT (saidT nB) n0 w W1 → RowsV S W1 (.slice aa a.length ca) a := fun W1 h => hu0.keep (KeepS.of_below h.1 hS)
  have Rv : ∀ W1, TurnT (saidT nB) n0 w W1 → RowsV S W1 (.slice ab b.length cb) b := fun W1 h => hv0.keep (KeepS.of_below h.1 hS)
  have hI0 : ItI l n0 nB (w.heap.size + 1) w.heap.size J w [] ((w.alloc (.cells #[.func (.yield l) #[] #[]] 89)).alloc (.cells #[.bool true] 4)) := by
    have ht0 : TurnT (fun _ _ => False) n0 w (w.alloc (.cells #[.func (.yield l) #[] #[]] 89)) := (TurnT.refl _ _ _).alloc hsz _
    have ht1 : TurnT (fun _ _ => False) n0 (w.alloc (.cells #[.func (.yield l) #[] #[]] 89)) ((w.alloc (.cells #[.func (.yield l) #[] #[]] 89)).alloc (.cells #[.bool true] 4)) := (TurnT.refl _ _ _).alloc (by simp; omega) _
    have hy0 := World.alloc_heap_new w (.cells #[.func (.yield l) #[] #[]] 89)
    have hm0 := World.alloc_heap_new (w.alloc (.cells #[.func (.yield l) #[] #[]] 89)) (.cells #[.bool true] 4)
    rw [World.size_alloc] at hm0
    have ht := ht0.trans ht1
    exact ⟨hm0, ht1.2 _ _ hy0 id, hJt _ _ _ h0 (ht.mono fun _ _ h => h.elim), ht.mono fun _ _ h => h.elim, Nat.le_trans hsz ht.1.size⟩
  have hn0 : n0 ≤ w.heap.size + 1 := by omega
  have cm0 := Cm _ hI0.turn
  have HI0 := hid hI0
  clear hI0
  have hS0 : (0 : Int) ≤ m := by omega
  have HSay := hid (fun (n0l : Unit) (xs : List Chx) (w1 : World) (h : ItI l n0 nB (w.heap.size + 1) w.heap.size J w xs w1) (hlen : xs.length < 7000) (c : Chg) (ad : Option Addr) (cap : Nat) (hc : IntsF (n0 ≤ ·) w1 (.slice ad c.values.length cap) c.values) => h.say hn0 hJt hY hlen c ad cap hc)
  have HStill := hid (fun (xs : List Chx) (w1 w2 : World) (h : ItI l n0 nB (w.heap.size + 1) w.heap.size J w xs w1) (ht : TurnT (fun _ _ => False) n0 w1 w2) => h.still hJt ht)
  have HY := hid hY
  have HJt := hid hJt
  clear hY hJt
  have HCm := hid Cm
  have HCa := hid Ca
  have HCb := hid Cb
  have HCk := hid Ck
  have HRu := hid Ru
  have HRv := hid Rv
  have Hbm := hid bm
  have Hba := hid ba
  have Hbb := hid bb
  have Hbk := hid bk
  have Hu0 := hid hu0
  have Hv0 := hid hv0
  clear Cm Ca Cb Ck Ru Rv bm ba bb bk h0 hu0 hv0
  go_enter Try.func52, Try.ntmps52
  go_wp2
  go_loopw [15] (fun i wr => ∃ k : Nat, k ≤ m ∧ i = .int .i64 k ∧ ∃ xs, chs xs = sets kind a b k ∧ Hid (ItI l n0 nB (w.heap.size + 1) w.heap.size J w xs wr)) (fun i _ => m - (intOf i).toNat)
  case atStart => exact ⟨0, by omega, rfl, [], by simp [sets], HI0⟩
  case round =>
    obtain ⟨i, hi, rfl, xs, hxs, hI⟩ := hrel
    clear HI0
    by_cases hlt : i < m
    · have hia : i < a.length := by omega
      have hib : i < b.length := by omega
      have hab1 := hab i hia hib
      have HT := hid (sets_succ kind a b i)
      rw [getD_eq hia, getD_eq hib] at HT
      have hca := HCa.out _ hI.out.turn
      obtain ⟨ur, hcr, hbr, hrr⟩ := (HRu.out _ hI.out.turn).at hia
      have hli : (sets kind a b i).length ≤ 10 * i := sets_len kind a b ha10 i
      have hr10 := ha10 _ (List.getElem_mem hia)
      have HBI := hid (show ∀ W1, TurnT (saidT nB) n0 w W1 → ∃ ur, W1.cell? ⟨slb ab, slo ab + i, none⟩ = some ur ∧ IntsV S W1 ur b[i] from fun W1 h => by
        obtain ⟨u, h1, h2, h3⟩ := (HRv.out _ h).at hib
        exact ⟨u, h1, h3⟩)
      generalize sets kind a b i = pre at *
      generalize a[i] = r at *
      generalize b[i] = s at *
      have hrr0 := hrr
      obtain ⟨ar, cr, rfl, hokr, hcapr, hmaxr⟩ := hrr.form
      clear hrr
      have hi0 : (0 : Int) ≤ i := by omega
      have hi1 : (i : Int) < a.length := by omega
      have hi2 : (i : Int) < b.length := by omega
      obtain ⟨wo, rfl⟩ : ∃ wo : World, wo = wr := ⟨_, rfl⟩
      have HRR : Hid (∀ W1, TurnT (saidT nB) n0 wo W1 → IntsV S W1 (.slice ar r.length cr) r) := hid (fun W1 h => hrr0.keep (KeepS.of_below h.1 hS))
      go_wp2
      go_loopw [23] (fun jj w2 => ∃ k : Nat, k ≤ r.length ∧ jj = .int .i64 k ∧ ∃ xs, chs xs = pre ++ (List.range k).filterMap (setAt kind i r s) ∧ Hid (ItI l n0 nB (w.heap.size + 1) w.heap.size J w xs w2 ∧ TurnT (saidT nB) n0 wo w2)) (fun jj _ => r.length - (intOf jj).toNat)
      case atStart => exact ⟨0, by omega, rfl, xs, by simpa using hxs, hid ⟨hI.out, TurnT.refl _ _ _⟩⟩
      case round =>
        obtain ⟨k, hk, rfl, ys, hys, hJ⟩ := hrel
        by_cases hkr : k < r.length
        · obtain ⟨ub, hcb, hrb⟩ := HBI.out _ hJ.out.1.turn
          have hrr2 := HRR.out _ hJ.out.2
          have hsr2 := hrb
          obtain ⟨br, dr, rfl, hoks, hcaps, hmaxs⟩ := hrb.form
          clear hrb
          obtain ⟨x1, hx1, hbx, hx2⟩ := SlV.at hrr2 hkr
          obtain ⟨y1, hy1, hby, hy2⟩ := SlV.at hsr2 (show k < s.length by omega)
          have hcB := HCb.out _ hJ.out.1.turn
          have hf : setAt kind i r s k = if r[k] = s[k]'(by omega) then none else some ⟨kind, i, k, r[k], s[k]'(by omega), []⟩ := by
            unfold setAt; rw [getD_eq hkr, getD_eq (show k < s.length by omega)]
          have hlen : ys.length < 7000 := by
            have h1 := List.length_filterMap_le (setAt kind i r s) (List.range k)
            have h2 := chs_len ys
            rw [hys, List.length_append] at h2
            simp only [List.length_range] at h1
            omega
          generalize r[k] = x at *
          generalize s[k]'(by omega) = y at *
          subst hx2; subst hy2
          have hk0 : (0 : Int) ≤ k := by omega
          have hk1 : (k : Int) < r.length := by omega
          have hk2 : (k : Int) < s.length := by omega
          clear hrr2 hsr2
          by_cases hxy : x = y
          · have HE := hid (filt_succ_none (f := setAt kind i r s) (k := k) (by rw [hf, if_pos hxy]))
            have hd : (y != x) = false := bneF hxy.symm
            rw [HE.out] at hys
            clear hf HE hxy
            go_wp2
            go_roundw
            case rel => exact ⟨k + 1, by omega, by go_num, ys, hys, hJ⟩
            case measure => simp [intOf]; omega
          · have HE := hid (filt_succ_some (f := setAt kind i r s) (k := k) (by rw [hf, if_neg hxy]))
            have hd : (y != x) = true := bneT (fun e => hxy e.symm)
            have hck := HCk.out _ hJ.out.1.turn
            clear hf hxy
            go_wp2
            refine wp_region_quiet_tail 13 (by kernel_rfl) (by kernel_rfl) ?_
            simp only [List.take_succ_cons, List.take_zero, List.drop_succ_cons, List.drop_zero]
            repeat (go_big_quiet_step (fail))
            refine wpQuiet_nil ?_
            go_wp2_with fail
            refine (HSay.out () ys _ (HStill.out ys wr _ hJ.out.1 ((TurnT.refl _ _ _).drewN _)) hlen ⟨kind, i, k, x, y, []⟩ none 0 (IntsF.nil _ _)).mono ?_
            rintro e w3 ⟨⟨v, rfl⟩, hI3, ht3⟩
            have HJ3 := hid (show ItI l n0 nB (w.heap.size + 1) w.heap.size J w (ys ++ [(⟨kind, i, k, x, y, []⟩, none, 0)]) w3 ∧ TurnT (saidT nB) n0 wo w3 from ⟨hI3, hJ.out.2.trans ((((TurnT.refl _ _ _).drewN _).trans ht3))⟩)
            have hys3 : chs (ys ++ [(⟨kind, i, k, x, y, []⟩, none, 0)]) = pre ++ (List.range (k + 1)).filterMap (setAt kind i r s) := by
              rw [← HE.out, ← List.append_assoc, ← hys]; simp [chs]
            clear hI3 ht3 hx1 hy1 hcB hck HE
            go_wp2
            go_roundw
            case rel => exact ⟨k + 1, by omega, by go_num, _, hys3, HJ3⟩
            case measure => simp [intOf]; omega
        · obtain rfl : k = r.length := by omega
          have hys3 : chs ys = sets kind a b (i + 1) := by rw [HT.out]; exact hys
          go_wp2
          go_roundw
          case rel => exact ⟨i + 1, by omega, by go_num, ys, hys3, hid hJ.out.1⟩
          case measure => simp [intOf]; omega
    · obtain rfl : i = m := by omega
      have HL : Hid (listL kind a b i = sets kind a b i ++ takes kind a i ++ adds kind b i) := hid rfl
      have hca := HCa.out _ hI.out.turn
      have hli := sets_len kind a b ha10 i
      generalize sets kind a b i = pre at *
      obtain ⟨wo, rfl⟩ : ∃ wo : World, wo = wr := ⟨_, rfl⟩
      go_wp2
      go_loopw [11] (fun i' w2 => ∃ j : Nat, j ≤ a.length - i ∧ i' = .int .i64 ((a.length : Int) - 1 - j) ∧ ∃ xs, chs xs = pre ++ (List.range j).map (fun j => takeC kind a (a.length - 1 - j)) ∧ Hid (ItI l n0 nB (w.heap.size + 1) w.heap.size J w xs w2)) (fun i' _ => (intOf i' + 1 - (i : Int)).toNat)
      case atStart => exact ⟨0, by omega, by simp, xs, by simpa using hxs, hI⟩
      case round =>
        obtain ⟨j, hj, rfl, ys, hys, hJ⟩ := hrel
        have hcm := HCm.out _ hJ.out.turn
        by_cases hlj : j < a.length - i
        · obtain ⟨p, hp⟩ : ∃ p : Nat, p + 1 + j = a.length := ⟨a.length - 1 - j, by omega⟩
          have hpa : p < a.length := by omega
          have hpi : i ≤ p := by omega
          have hpz : (a.length : Int) - 1 - j = (p : Int) := by omega
          obtain ⟨ur, hcr, hbr, hrr⟩ := (HRu.out _ hJ.out.turn).at hpa
          have hr10 := ha10 _ (List.getElem_mem hpa)
          have hHT : takeC kind a (a.length - 1 - j) = ⟨kind, p, -2, 0, 0, a[p]⟩ := by
            unfold takeC; rw [show a.length - 1 - j = p from by omega, getD_eq hpa]
          have HT := hid (range_snoc (fun j => takeC kind a (a.length - 1 - j)) j)
          rw [hHT] at HT
          rw [hpz]
          have HP := hid hp
          clear hHT hp hpz
          have hlen : ys.length < 7000 := by
            have h2 := chs_len ys
            rw [hys, List.length_append] at h2
            simp at h2
            omega
          generalize ((List.range j).map fun j => takeC kind a (a.length - 1 - j)) = us at *
          generalize a[p] = r at *
          have hrr0 := hrr
          obtain ⟨ar, cr, rfl, -, -, -⟩ := hrr.form
          have hrl : r.length ≤ 100000 := by omega
          clear hrr
          have hck := HCk.out _ hJ.out.turn
          have hcA := HCa.out _ hJ.out.turn
          have hp0 : (0 : Int) ≤ p := by omega
          have hp1 : (p : Int) < a.length := by omega
          have hp2 : (i : Int) ≤ p := by omega
          go_wp2
          have hPk : Pk < wr.heap.size := World.block_lt_of_cell? wr _ hck
          have hPa : Pa < wr.heap.size := World.block_lt_of_cell? wr _ hcA
          have hg := Grew.cell (w := wr)
          refine wp_region_grew 7 2 (by kernel_rfl) (by kernel_rfl) ?_
          simp only [List.take_succ_cons, List.take_zero, List.drop_succ_cons, List.drop_zero, Nat.reduceAdd]
          repeat (go_big_quiet_step (fail))
          refine wpQuiet_nil ?_
          unfold wpChain
          go_wp2_with fail
          refine (clone_any r hrl _ S _ (hrr0.keep (KeepS.below (below_drewN (Below.refl _ _) 1)))).mono ?_
          rintro e w2 ⟨x, rfl, hx, hb2⟩
          have hb3 : Below wr.heap.size wr w2 := (below_drewN (Below.refl _ _) 1).trans hb2
          have hx0 : IntsF (n0 ≤ ·) w2 x r := steady_intsF.mono hx (fun b _ h => Nat.le_trans hJ.out.size h)
          obtain ⟨ax, cx, rfl, -, -, -⟩ := (IntsF.sl hx0).form
          have hJ2 := HStill.out ys wr w2 hJ.out (TurnT.of_below hb3 hJ.out.size)
          clear hx hb2
          go_wp2
          refine qn_mk ⟨InGrew.of hb3, ?_⟩
          unfold wpChain
          go_wp2
          refine qn_mk ⟨InGrew.of hb3, ?_⟩
          unfold wpChain
          go_wp2_with fail
          refine (HSay.out () ys w2 hJ2 hlen ⟨kind, p, -2, 0, 0, r⟩ ax cx hx0).mono ?_
          rintro e w3 ⟨⟨v, rfl⟩, hI3, ht3⟩
          have hys3 : chs (ys ++ [(⟨kind, p, -2, 0, 0, r⟩, ax, cx)]) = pre ++ (List.range (j + 1)).map (fun j => takeC kind a (a.length - 1 - j)) := by
            rw [← HT.out, ← List.append_assoc, ← hys]; simp [chs]
          have HI3 := hid hI3
          clear hI3 ht3 hx0 hJ2 hb3 hg
          go_wp2
          go_roundw
          case rel => exact ⟨j + 1, by omega, by have := HP.out; congr 1; omega, _, hys3, HI3⟩
          case measure => simp [intOf]; omega
        · have hjz : (a.length : Int) - 1 - j < i := by omega
          have HE : Hid (takes kind a i = (List.range j).map fun j => takeC kind a (a.length - 1 - j)) := hid (by unfold takes; rw [show a.length - i = j from by omega])
          rw [← HE.out] at hys
          clear HE
          have hlt2 : (takes kind a i).length ≤ 512 := by unfold takes; simp; omega
          generalize takes kind a i = tks at *
          obtain ⟨wm, rfl⟩ : ∃ wm : World, wm = wr := ⟨_, rfl⟩
          go_wp2
          go_loopw [12] (fun i' w2 => ∃ q : Nat, q ≤ b.length - i ∧ i' = .int .i64 ((i : Int) + q) ∧ ∃ xs, chs xs = pre ++ tks ++ (List.range q).map (fun j => addC kind b (i + j)) ∧ Hid (ItI l n0 nB (w.heap.size + 1) w.heap.size J w xs w2)) (fun i' _ => ((b.length : Int) - intOf i').toNat)
          case atStart => exact ⟨0, by omega, by simp, ys, by simpa using hys, hJ⟩
          case round =>
            obtain ⟨q, hq, rfl, zs, hzs, hK⟩ := hrel
            have hcB := HCb.out _ hK.out.turn
            by_cases hlq : q < b.length - i
            · obtain ⟨p, hp⟩ : ∃ p : Nat, p = i + q := ⟨i + q, rfl⟩
              have hpb : p < b.length := by omega
              have hpz : (i : Int) + q = (p : Int) := by omega
              obtain ⟨vr, hdr, hbr, hsr⟩ := (HRv.out _ hK.out.turn).at hpb
              have hs10 := hb10 _ (List.getElem_mem hpb)
              have hHT : addC kind b (i + q) = ⟨kind, p, -1, 0, 0, b[p]⟩ := by
                unfold addC; rw [← hp, getD_eq hpb]
              have HT := hid (range_snoc (fun j => addC kind b (i + j)) q)
              rw [hHT] at HT
              rw [hpz]
              have HP := hid hp
              clear hHT hp hpz
              have hlen : zs.length < 7000 := by
                have h2 := chs_len zs
                rw [hzs, List.length_append, List.length_append] at h2
                simp at h2
                omega
              generalize b[p] = r at *
              have hrr0 := hsr
              obtain ⟨ar, cr, rfl, -, -, -⟩ := hsr.form
              have hrl : r.length ≤ 100000 := by omega
              clear hsr
              have hck := HCk.out _ hK.out.turn
              have hp0 : (0 : Int) ≤ p := by omega
              have hp1 : (p : Int) < b.length := by omega
              go_wp2
              have hPk : Pk < wr.heap.size := World.block_lt_of_cell? wr _ hck
              have hPb : Pb < wr.heap.size := World.block_lt_of_cell? wr _ hcB
              have hg := Grew.cell (w := wr)
              refine wp_region_grew 7 2 (by kernel_rfl) (by kernel_rfl) ?_
              simp only [List.take_succ_cons, List.take_zero, List.drop_succ_cons, List.drop_zero, Nat.reduceAdd]
              repeat (go_big_quiet_step (fail))
              refine wpQuiet_nil ?_
              unfold wpChain
              go_wp2_with fail
              refine (clone_any r hrl _ S _ (hrr0.keep (KeepS.below (below_drewN (Below.refl _ _) 1)))).mono ?_
              rintro e w2 ⟨x, rfl, hx, hb2⟩
              have hb3 : Below wr.heap.size wr w2 := (below_drewN (Below.refl _ _) 1).trans hb2
              have hx0 : IntsF (n0 ≤ ·) w2 x r := steady_intsF.mono hx (fun b _ h => Nat.le_trans hK.out.size h)
              obtain ⟨ax, cx, rfl, -, -, -⟩ := (IntsF.sl hx0).form
              have hJ2 := HStill.out zs wr w2 hK.out (TurnT.of_below hb3 hK.out.size)
              clear hx hb2
              go_wp2
              refine qn_mk ⟨InGrew.of hb3, ?_⟩
              unfold wpChain
              go_wp2
              refine qn_mk ⟨InGrew.of hb3, ?_⟩
              unfold wpChain
              go_wp2_with fail
              refine (HSay.out () zs w2 hJ2 hlen ⟨kind, p, -1, 0, 0, r⟩ ax cx hx0).mono ?_
              rintro e w3 ⟨⟨v, rfl⟩, hI3, ht3⟩
              have hzs3 : chs (zs ++ [(⟨kind, p, -1, 0, 0, r⟩, ax, cx)]) = pre ++ tks ++ (List.range (q + 1)).map (fun j => addC kind b (i + j)) := by
                rw [← HT.out, ← List.append_assoc, ← hzs]; simp [chs]
              have HI3 := hid hI3
              clear hI3 ht3 hx0 hJ2 hb3 hg
              go_wp2
              go_roundw
              case rel => exact ⟨q + 1, by omega, by have := HP.out; congr 1; omega, _, hzs3, HI3⟩
              case measure => simp [intOf]; omega
            · have hqz : (b.length : Int) ≤ (i : Int) + q := by omega
              have HE : Hid (adds kind b i = (List.range q).map fun j => addC kind b (i + j)) := hid (by unfold adds; rw [show b.length - i = q from by omega])
              have hend : chs zs = listL kind a b i := by rw [HL.out, HE.out]; exact hzs
              go_wp2
              go_end0
              exact ⟨⟨_, rfl⟩, zs, hend, hK.out.inv⟩

end Go.Proofs.Ytagnjhhbbjbhcaa
