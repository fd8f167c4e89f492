/- List of the reference: the changes of a kind. -/
import Derived.Test.YtagnjhhbbjbhcaaSameW
namespace Go.Proofs.Ytagnjhhbbjbhcaa
open Go.RowKit

/-- The change of the value k, if there is one. -/
def setAt (kind i : Int) (r s : List Int) (k : Nat) : Option Chg :=
  if r.getD k 0 = s.getD k 0 then none else some ⟨kind, i, k, r.getD k 0, s.getD k 0, []⟩
def setR (kind i : Int) (r s : List Int) : List Chg := (List.range r.length).filterMap (setAt kind i r s)
def sets (kind : Int) (a b : List (List Int)) (m : Nat) : List Chg := (List.range m).flatMap fun i : Nat => setR kind (i : Int) (a.getD i []) (b.getD i [])
def takeC (kind : Int) (a : List (List Int)) (i : Nat) : Chg := ⟨kind, i, -2, 0, 0, a.getD i []⟩
def addC (kind : Int) (b : List (List Int)) (i : Nat) : Chg := ⟨kind, i, -1, 0, 0, b.getD i []⟩
def takes (kind : Int) (a : List (List Int)) (m : Nat) : List Chg := (List.range (a.length - m)).map fun j => takeC kind a (a.length - 1 - j)
def adds (kind : Int) (b : List (List Int)) (m : Nat) : List Chg := (List.range (b.length - m)).map fun j => addC kind b (m + j)
/-- What List returns. -/
def listL (kind : Int) (a b : List (List Int)) (m : Nat) : List Chg := sets kind a b m ++ takes kind a m ++ adds kind b m

theorem sets_succ (kind : Int) (a b : List (List Int)) (i : Nat) : sets kind a b (i + 1) = sets kind a b i ++ setR kind i (a.getD i []) (b.getD i []) := by
  unfold sets; rw [List.range_succ, List.flatMap_append]; simp
theorem setR_len (kind i : Int) (r s : List Int) : (setR kind i r s).length ≤ r.length := by
  unfold setR; have := List.length_filterMap_le (setAt kind i r s) (List.range r.length); simpa using this
theorem sets_len (kind : Int) (a b : List (List Int)) (ha : ∀ r ∈ a, r.length ≤ 10) : ∀ m, (sets kind a b m).length ≤ 10 * m
  | 0 => by simp [sets]
  | m + 1 => by
    have h1 := sets_len kind a b ha m
    have h2 := setR_len kind m (a.getD m []) (b.getD m [])
    have h3 : (a.getD m []).length ≤ 10 := by
      rw [List.getD_eq_getElem?_getD]
      by_cases h : m < a.length
      · rw [List.getElem?_eq_getElem h]; exact ha _ (List.getElem_mem h)
      · rw [List.getElem?_eq_none (by omega)]; simp
    rw [sets_succ, List.length_append]; omega

theorem getD_eq {α : Type} {xs : List α} {d : α} {k : Nat} (h : k < xs.length) : xs.getD k d = xs[k] := by
  rw [List.getD_eq_getElem?_getD, List.getElem?_eq_getElem h]; rfl

theorem filt_succ_none {f : Nat → Option Chg} {k : Nat} (h : f k = none) : (List.range k).filterMap f = (List.range (k + 1)).filterMap f := by
  rw [List.range_succ, List.filterMap_append]; simp [h]
theorem filt_succ_some {f : Nat → Option Chg} {k : Nat} {c : Chg} (h : f k = some c) : (List.range k).filterMap f ++ [c] = (List.range (k + 1)).filterMap f := by
  rw [List.range_succ, List.filterMap_append]; simp [h]

set_option maxHeartbeats 2000000 in
theorem list_any (kind : Int) (a b : List (List Int)) (m : Nat) (ha : a.length ≤ 512) (hb : b.length ≤ 512) (ha10 : ∀ r ∈ a, r.length ≤ 10) (hb10 : ∀ r ∈ b, r.length ≤ 10) (hma : m ≤ a.length) (hmb : m ≤ b.length)
    (hab : ∀ i (h1 : i < a.length) (h2 : i < b.length), i < m → a[i].length ≤ b[i].length) (u v : Value) (S T : Nat → Prop) (w : World) (hu : RowsV S w u a) (hv : RowsV T w v b) :
    Calls Try.prog 37 #[.int .i64 kind, u, v, .int .i64 m] w fun e w' => ∃ x, e = .returned x ∧ ChV (fun b => (S b ∨ T b) ∨ w.heap.size ≤ b) w' x (listL kind a b m) ∧ Below w.heap.size w w' := by
  have hu0 : RowsV (fun b => (S b ∨ T b) ∧ b < w.heap.size) w u a := RowsV.mono hu (fun b hb h => ⟨.inl h, hb⟩)
  have hv0 : RowsV (fun b => (S b ∨ T b) ∧ b < w.heap.size) w v b := RowsV.mono hv (fun b hb h => ⟨.inr h, hb⟩)
  obtain ⟨aa, ca, rfl, hoka, hcapa, hmaxa⟩ := hu.form
  obtain ⟨ab, cb, rfl, hokb, hcapb, hmaxb⟩ := hv.form
  clear hu hv
  go_enter Try.func37, Try.ntmps37
  go_wp2
  go_loopw [9, 10] (fun x i wr => ∃ k : Nat, k ≤ m ∧ i = .int .i64 k ∧ OwnC (fun b => (S b ∨ T b) ∧ b < w.heap.size) w.heap.size 73 wr x (sets kind a b k) ∧ Below w.heap.size w wr) (fun _ i _ => m - (intOf i).toNat)
  case atStart => exact ⟨0, by omega, rfl, by simpa [sets] using OwnC.nil _ _ _ _, Below.refl _ _⟩
  case round =>
    obtain ⟨i, hi, rfl, hown, hbl⟩ := hrel
    by_cases hlt : i < m
    · have hia : i < a.length := by omega
      have hib : i < b.length := by omega
      have hab1 := hab i hia hib hlt
      have hr10 := ha10 _ (List.getElem_mem hia)
      have hs10 := hb10 _ (List.getElem_mem hib)
      have HT := hid (sets_succ kind a b i)
      have hlen := sets_len kind a b ha10 i
      rw [getD_eq hia, getD_eq hib] at HT
      obtain ⟨ur, hcr, hbr, hrr⟩ := hu0.at hia
      obtain ⟨vr, hdr, hbr', hsr⟩ := hv0.at hib
      generalize sets kind a b i = pre at *
      generalize a[i] = r at *
      generalize b[i] = s at *
      have hrr0 := hrr
      have hsr0 := hsr
      obtain ⟨ar, cr, rfl, hokr, hcapr, hmaxr⟩ := hrr.form
      obtain ⟨br, dr, rfl, hoks, hcaps, hmaxs⟩ := hsr.form
      clear hrr hsr
      have hi0 : (0 : Int) ≤ i := by omega
      have hi1 : (i : Int) < a.length := by omega
      have hi2 : (i : Int) < b.length := by omega
      go_wp2
      go_loopw [9, 11] (fun x j w2 => ∃ k : Nat, k ≤ r.length ∧ j = .int .i64 k ∧ OwnC (fun b => (S b ∨ T b) ∧ b < w.heap.size) w.heap.size 73 w2 x (pre ++ (List.range k).filterMap (setAt kind i r s)) ∧ Below w.heap.size w w2) (fun _ j _ => r.length - (intOf j).toNat)
      case atStart => exact ⟨0, by omega, rfl, by simpa using hown, hbl⟩
      case round =>
        obtain ⟨k, hk, rfl, hown2, hb2⟩ := hrel
        have hszw := hb2.size
        have hcr2 := cell_later hb2 hcr
        have hdr2 := cell_later hb2 hdr
        have hbr2 : slb aa < wr.heap.size := by omega
        have hbs2 : slb ab < wr.heap.size := by omega
        by_cases hkr : k < r.length
        · have hrr2 : IntsV (fun b => (S b ∨ T b) ∧ b < w.heap.size) wr (.slice ar r.length cr) r := IntsV.keep hrr0 (KeepS.below hb2)
          have hsr2 : IntsV (fun b => (S b ∨ T b) ∧ b < w.heap.size) wr (.slice br s.length dr) s := IntsV.keep hsr0 (KeepS.below hb2)
          obtain ⟨x1, hx1, hbx, hx2⟩ := SlV.at hrr2 hkr
          obtain ⟨y1, hy1, hby, hy2⟩ := SlV.at hsr2 (show k < s.length by omega)
          have hf : setAt kind i r s k = if r[k] = s[k]'(by omega) then none else some ⟨kind, i, k, r[k], s[k]'(by omega), []⟩ := by
            unfold setAt; rw [getD_eq hkr, getD_eq (show k < s.length by omega)]
          have hlen2 : (pre ++ (List.range k).filterMap (setAt kind i r s)).length ≤ 10 * i + 10 := by
            have := List.length_filterMap_le (setAt kind i r s) (List.range k)
            simp only [List.length_range] at this
            rw [List.length_append]; omega
          generalize r[k] = x at *
          generalize s[k]'(by omega) = y at *
          subst hx2; subst hy2
          have hk0 : (0 : Int) ≤ k := by omega
          have hk1 : (k : Int) < r.length := by omega
          have hk2 : (k : Int) < s.length := by omega
          by_cases hxy : x = y
          · have HE := hid (filt_succ_none (f := setAt kind i r s) (k := k) (by rw [hf, if_pos hxy]))
            have hd : (x != y) = false := bneF hxy
            rw [HE.out] at hown2
            clear hf HE hxy
            go_wp2
            go_quiet (fail)
            go_wp2
            go_roundw
            case rel => exact ⟨k + 1, by omega, by go_num, hown2.below (below_drewN (Below.refl _ _) _), below_drewN hb2 _⟩
            case measure => simp [intOf]; omega
          · have HE := hid (filt_succ_some (f := setAt kind i r s) (k := k) (by rw [hf, if_neg hxy]))
            have hd : (x != y) = true := bneT hxy
            clear hf hxy
            go_wp2
            go_quiet (fail)
            go_wp2
            have hg := Grew.cellN (w := wr) (n := nq)
            refine wp_region_grew 19 1 (by kernel_rfl) (by kernel_rfl) ?_
            simp only [List.take_succ_cons, List.take_zero, List.drop_succ_cons, List.drop_zero, Nat.reduceAdd]
            repeat (go_big_quiet_step (fail))
            refine wpQuiet_nil ?_
            unfold wpChain
            go_wp2
            refine qn_mk ⟨InGrew.alloc1 _ _ _, ?_⟩
            unfold wpChain
            go_wp2_with (at_builtin; go_must (refine wpList_appC1 rfl _ _ rfl Try.app34 rfl (hown2.below (below_drewN (Below.refl _ _) _)) rfl ⟨kind, i, k, x, y, []⟩ (.slice none 0 0) rfl rfl (SlV.nil _ _ _) (by omega) (by simp; omega) ?_))
            intro v' w1 hown3 ht
            have hb3 : Below w.heap.size w w1 := (below_drewN hb2 _).trans (ht.below (by simp; omega) (fun b hb' => (hown2.lt b hb').1))
            rw [HE.out] at hown3
            clear hown2 ht hg HE hrr2 hsr2 hx1 hy1 hcr2 hdr2 hb2
            go_wp2
            go_roundw
            case rel => exact ⟨k + 1, by omega, by go_num, hown3, hb3⟩
            case measure => simp [intOf]; omega
        · obtain rfl : k = r.length := by omega
          have hown3 : OwnC (fun b => (S b ∨ T b) ∧ b < w.heap.size) w.heap.size 73 wr u9 (sets kind a b (i + 1)) := by rw [HT.out]; exact hown2
          clear hown2 HT hown
          go_wp2
          go_roundw
          case rel => exact ⟨i + 1, by omega, by go_num, hown3, hb2⟩
          case measure => simp [intOf]; omega
    · obtain rfl : i = m := by omega
      have hlen := sets_len kind a b ha10 i
      have HL : Hid (listL kind a b i = sets kind a b i ++ takes kind a i ++ adds kind b i) := hid rfl
      generalize sets kind a b i = pre at *
      obtain ⟨wo, rfl⟩ : ∃ wo : World, wo = wr := ⟨_, rfl⟩
      go_wp2
      go_loopw [9, 12] (fun x i' w2 => ∃ j : Nat, j ≤ a.length - i ∧ i' = .int .i64 ((a.length : Int) - 1 - j) ∧ OwnC (fun b => (S b ∨ T b) ∧ b < w.heap.size) w.heap.size 73 w2 x (pre ++ (List.range j).map fun j => takeC kind a (a.length - 1 - j)) ∧ Below w.heap.size w w2) (fun _ i' _ => (intOf i' + 1 - (i : Int)).toNat)
      case atStart => exact ⟨0, by omega, by simp, by simpa using hown, hbl⟩
      case round =>
        obtain ⟨j, hj, rfl, hown2, hb2⟩ := hrel
        by_cases hlj : j < a.length - i
        · obtain ⟨p, hp⟩ : ∃ p : Nat, p + 1 + j = a.length := ⟨a.length - 1 - j, by omega⟩
          have hpa : p < a.length := by omega
          have hpi : i ≤ p := by omega
          have hpz : (a.length : Int) - 1 - j = (p : Int) := by omega
          have hu2 : RowsV (fun b => (S b ∨ T b) ∧ b < w.heap.size) wr (.slice aa a.length ca) a := RowsV.keep hu0 (KeepS.below hb2)
          obtain ⟨ur, hcr, hbr, hrr⟩ := hu2.at hpa
          have hHT : takeC kind a (a.length - 1 - j) = ⟨kind, p, -2, 0, 0, a[p]⟩ := by
            unfold takeC; rw [show a.length - 1 - j = p from by omega, getD_eq hpa]
          have HT := hid (range_snoc (fun j => takeC kind a (a.length - 1 - j)) j)
          rw [hHT] at HT
          have hlen2 : (pre ++ (List.range j).map fun j => takeC kind a (a.length - 1 - j)).length ≤ 10 * i + 512 := by
            rw [List.length_append]; simp; omega
          rw [hpz]
          have HP := hid hp
          clear hHT hp hpz
          generalize ((List.range j).map fun j => takeC kind a (a.length - 1 - j)) = us at *
          generalize a[p] = r at *
          have hrr0 := hrr
          obtain ⟨ar, cr, rfl, -, -, -⟩ := hrr.form
          have hulB : IntsV (fun b => ((S b ∨ T b) ∧ b < w.heap.size) ∧ some b ≠ u9.ownBlock) wr (.slice ar r.length cr) r :=
            IntsV.mono hrr0 (fun b _ hb' => ⟨hb', fun e => by have := (hown2.lt b e).1; have := hb'.2; omega⟩)
          clear hrr hrr0
          go_wp2_with (at_builtin; go_must (refine wpList_appC1 rfl _ _ rfl Try.app34 rfl hown2 rfl ⟨kind, p, -2, 0, 0, r⟩ (.slice ar r.length cr) rfl rfl hulB (by omega) hb2.size ?_))
          intro v' w1 hown3 ht
          rw [HT.out] at hown3
          have hb3 : Below w.heap.size w w1 := hb2.trans (ht.below hb2.size (fun b hb' => (hown2.lt b hb').1))
          clear hown2 ht hulB HT hu2 hcr hb2
          go_wp2
          go_roundw
          case rel => exact ⟨j + 1, by omega, by have := HP.out; congr 1; omega, hown3, hb3⟩
          case measure => simp [intOf]; omega
        · have hjz : (a.length : Int) - 1 - j < i := by omega
          have HE : Hid (takes kind a i = (List.range j).map fun j => takeC kind a (a.length - 1 - j)) := hid (by unfold takes; rw [show a.length - i = j from by omega])
          have hown3 : OwnC (fun b => (S b ∨ T b) ∧ b < w.heap.size) w.heap.size 73 wr u9 (pre ++ takes kind a i) := by rw [HE.out]; exact hown2
          have hlent : (takes kind a i).length ≤ 512 := by unfold takes; simp; omega
          clear hown2 HE
          generalize takes kind a i = tks at *
          obtain ⟨wm, rfl⟩ : ∃ wm : World, wm = wr := ⟨_, rfl⟩
          go_wp2
          go_loopw [9, 13] (fun x i' w2 => ∃ q : Nat, q ≤ b.length - i ∧ i' = .int .i64 ((i : Int) + q) ∧ OwnC (fun b => (S b ∨ T b) ∧ b < w.heap.size) w.heap.size 73 w2 x (pre ++ tks ++ (List.range q).map fun j => addC kind b (i + j)) ∧ Below w.heap.size w w2) (fun _ i' _ => ((b.length : Int) - intOf i').toNat)
          case atStart => exact ⟨0, by omega, by simp, by simpa using hown3, hb2⟩
          case round =>
            obtain ⟨q, hq, rfl, hown4, hb4⟩ := hrel
            by_cases hlq : q < b.length - i
            · obtain ⟨p, hp⟩ : ∃ p : Nat, p = i + q := ⟨i + q, rfl⟩
              have hpb : p < b.length := by omega
              have hpz : (i : Int) + q = (p : Int) := by omega
              have hv2 : RowsV (fun b => (S b ∨ T b) ∧ b < w.heap.size) wr (.slice ab b.length cb) b := RowsV.keep hv0 (KeepS.below hb4)
              obtain ⟨vr, hdr, hbr, hsr⟩ := hv2.at hpb
              have hHT : addC kind b (i + q) = ⟨kind, p, -1, 0, 0, b[p]⟩ := by
                unfold addC; rw [← hp, getD_eq hpb]
              have HT := hid (range_snoc (fun j => addC kind b (i + j)) q)
              rw [hHT] at HT
              have hlen2 : (pre ++ tks ++ (List.range q).map fun j => addC kind b (i + j)).length ≤ 10 * i + 1100 := by
                rw [List.length_append, List.length_append]; simp; omega
              rw [hpz]
              have HP := hid hp
              clear hHT hp hpz
              generalize ((List.range q).map fun j => addC kind b (i + j)) = us at *
              generalize b[p] = r at *
              have hsr0 := hsr
              obtain ⟨ar, cr, rfl, -, -, -⟩ := hsr.form
              have hulB : IntsV (fun b => ((S b ∨ T b) ∧ b < w.heap.size) ∧ some b ≠ u9.ownBlock) wr (.slice ar r.length cr) r :=
                IntsV.mono hsr0 (fun b _ hb' => ⟨hb', fun e => by have := (hown4.lt b e).1; have := hb'.2; omega⟩)
              clear hsr hsr0
              go_wp2_with (at_builtin; go_must (refine wpList_appC1 rfl _ _ rfl Try.app34 rfl hown4 rfl ⟨kind, p, -1, 0, 0, r⟩ (.slice ar r.length cr) rfl rfl hulB (by omega) hb4.size ?_))
              intro v' w1 hown5 ht
              have hown6 : OwnC (fun b => (S b ∨ T b) ∧ b < w.heap.size) w.heap.size 73 w1 v' (pre ++ tks ++ (List.range (q + 1)).map fun j => addC kind b (i + j)) := by
                rw [← HT.out, ← List.append_assoc]; simpa using hown5
              have hb5 : Below w.heap.size w w1 := hb4.trans (ht.below hb4.size (fun b hb' => (hown4.lt b hb').1))
              clear hown4 ht hulB HT hv2 hdr hb4 hown5
              go_wp2
              go_roundw
              case rel => exact ⟨q + 1, by omega, by have := HP.out; congr 1; omega, hown6, hb5⟩
              case measure => simp [intOf]; omega
            · have hqz : (b.length : Int) ≤ i + q := by omega
              have HE : Hid (listL kind a b i = pre ++ tks ++ (List.range q).map fun j => addC kind b (i + j)) := hid (by rw [HL.out]; unfold adds; rw [show b.length - i = q from by omega])
              have hres := ChV.mono (S' := fun b => (S b ∨ T b) ∨ w.heap.size ≤ b) hown4.sl (fun _ _ h => h.imp (fun h => h.1) id)
              rw [← HE.out] at hres
              clear hown4 HE HL
              go_wp2
              go_ret
              exact ⟨_, rfl, hres, hb4⟩

end Go.Proofs.Ytagnjhhbbjbhcaa
