/- List of the reference: the changes of a kind. Diff of the reference. shaped of the program, with ContainsFunc, IndexFunc and the closure. same of the program: up to which record values are set; the best changes are those. slices.Clone at []int. -/
import Derived.Test.YteepdnamkcgndaaA2
namespace Go.Proofs.Yteepdnamkcgndaa
open Go.RowKit

/-- The change of the value k, if there is one. -/
def setAt (kind i : Int) (r s : List Int) (k : Nat) : Option Chg :=
  if r.getD k 0 = s.getD k 0 then none else some ⟨kind, i, k, r.getD k 0, s.getD k 0, []⟩
def setR (kind i : Int) (r s : List Int) : List Chg := (List.range r.length).filterMap (setAt kind i r s)
def sets (kind : Int) (a b : List (List Int)) (m : Nat) : List Chg := (List.range m).flatMap fun i : Nat => setR kind (i : Int) (a.getD i []) (b.getD i [])
def takeC (kind : Int) (a : List (List Int)) (i : Nat) : Chg := ⟨kind, i, -2, 0, 0, a.getD i []⟩
def addC (kind : Int) (b : List (List Int)) (i : Nat) : Chg := ⟨kind, i, -1, 0, 0, b.getD i []⟩
def takes (kind : Int) (a : List (List Int)) (m : Nat) : List Chg := (List.range (a.length - m)).map fun j => takeC kind a (a.length - 1 - j)
def adds (kind : Int) (b : List (List Int)) (m : Nat) : List Chg := (List.range (b.length - m)).map fun j => addC kind b (m + j)
/-- What List returns. -/
def listL (kind : Int) (a b : List (List Int)) (m : Nat) : List Chg := sets kind a b m ++ takes kind a m ++ adds kind b m

theorem sets_succ (kind : Int) (a b : List (List Int)) (i : Nat) : sets kind a b (i + 1) = sets kind a b i ++ setR kind i (a.getD i []) (b.getD i []) := by
  unfold sets; rw [List.range_succ, List.flatMap_append]; simp
theorem setR_len (kind i : Int) (r s : List Int) : (setR kind i r s).length ≤ r.length := by
  unfold setR; have := List.length_filterMap_le (setAt kind i r s) (List.range r.length); simpa using this
theorem sets_len (kind : Int) (a b : List (List Int)) (ha : ∀ r ∈ a, r.length ≤ 10) : ∀ m, (sets kind a b m).length ≤ 10 * m
  | 0 => by simp [sets]
  | m + 1 => by
    have h1 := sets_len kind a b ha m
    have h2 := setR_len kind m (a.getD m []) (b.getD m [])
    have h3 : (a.getD m []).length ≤ 10 := by
      rw [List.getD_eq_getElem?_getD]
      by_cases h : m < a.length
      · rw [List.getElem?_eq_getElem h]; exact ha _ (List.getElem_mem h)
      · rw [List.getElem?_eq_none (by omega)]; simp
    rw [sets_succ, List.length_append]; omega

theorem getD_eq {α : Type} {xs : List α} {d : α} {k : Nat} (h : k < xs.length) : xs.getD k d = xs[k] := by
  rw [List.getD_eq_getElem?_getD, List.getElem?_eq_getElem h]; rfl

theorem filt_succ_none {f : Nat → Option Chg} {k : Nat} (h : f k = none) : (List.range k).filterMap f = (List.range (k + 1)).filterMap f := by
  rw [List.range_succ, List.filterMap_append]; simp [h]
theorem filt_succ_some {f : Nat → Option Chg} {k : Nat} {c : Chg} (h : f k = some c) : (List.range k).filterMap f ++ [c] = (List.range (k + 1)).filterMap f := by
  rw [List.range_succ, List.filterMap_append]; simp [h]

set_option maxHeartbeats 2000000 in
theorem list_any (kind : Int) (a b : List (List Int)) (m : Nat) (ha : a.length ≤ 512) (hb : b.length ≤ 512) (ha10 : ∀ r ∈ a, r.length ≤ 10) (hb10 : ∀ r ∈ b, r.length ≤ 10) (hma : m ≤ a.length) (hmb : m ≤ b.length)
    (hab : ∀ i (h1 : i < a.length) (h2 : i < b.length), i < m → a[i].length ≤ b[i].length) (u v : Value) (S T : Nat → Prop) (w : World) (hu : RowsV S w u a) (hv : RowsV T w v b) :
    Calls Try.prog 20 #[.int .i64 kind, u, v, .int .i64 m] w fun e w' => ∃ x, e = .returned x ∧ ChV (fun b => (S b ∨ T b) ∨ w.heap.size ≤ b) w' x (listL kind a b m) ∧ Below w.heap.size w w' := by
  have hu0 : RowsV (fun b => (S b ∨ T b) ∧ b < w.heap.size) w u a := RowsV.mono hu (fun b hb h => ⟨.inl h, hb⟩)
  have hv0 : RowsV (fun b => (S b ∨ T b) ∧ b < w.heap.size) w v b := RowsV.mono hv (fun b hb h => ⟨.inr h, hb⟩)
  obtain ⟨aa, ca, rfl, hoka, hcapa, hmaxa⟩ := hu.form
  obtain ⟨ab, cb, rfl, hokb, hcapb, hmaxb⟩ := hv.form
  clear hu hv
  go_enter Try.func20, Try.ntmps20
  go_wp2
  go_loopw [9, 10] (fun x i wr => ∃ k : Nat, k ≤ m ∧ i = .int .i64 k ∧ OwnC (fun b => (S b ∨ T b) ∧ b < w.heap.size) w.heap.size 54 wr x (sets kind a b k) ∧ Below w.heap.size w wr) (fun _ i _ => m - (intOf i).toNat)
  case atStart => exact ⟨0, by omega, rfl, by simpa [sets] using OwnC.nil _ _ _ _, Below.refl _ _⟩
  case round =>
    obtain ⟨i, hi, rfl, hown, hbl⟩ := hrel
    by_cases hlt : i < m
    · have hia : i < a.length := by omega
      have hib : i < b.length := by omega
      have hab1 := hab i hia hib hlt
      have hr10 := ha10 _ (List.getElem_mem hia)
      have hs10 := hb10 _ (List.getElem_mem hib)
      have HT := hid (sets_succ kind a b i)
      have hlen := sets_len kind a b ha10 i
      rw [getD_eq hia, getD_eq hib] at HT
      obtain ⟨ur, hcr, hbr, hrr⟩ := hu0.at hia
      obtain ⟨vr, hdr, hbr', hsr⟩ := hv0.at hib
      generalize sets kind a b i = pre at *
      generalize a[i] = r at *
      generalize b[i] = s at *
      have hrr0 := hrr
      have hsr0 := hsr
      obtain ⟨ar, cr, rfl, hokr, hcapr, hmaxr⟩ := hrr.form
      obtain ⟨br, dr, rfl, hoks, hcaps, hmaxs⟩ := hsr.form
      clear hrr hsr
      have hi0 : (0 : Int) ≤ i := by omega
      have hi1 : (i : Int) < a.length := by omega
      have hi2 : (i : Int) < b.length := by omega
      go_wp2
      go_loopw [9, 11] (fun x j w2 => ∃ k : Nat, k ≤ r.length ∧ j = .int .i64 k ∧ OwnC (fun b => (S b ∨ T b) ∧ b < w.heap.size) w.heap.size 54 w2 x (pre ++ (List.range k).filterMap (setAt kind i r s)) ∧ Below w.heap.size w w2) (fun _ j _ => r.length - (intOf j).toNat)
      case atStart => exact ⟨0, by omega, rfl, by simpa using hown, hbl⟩
      case round =>
        obtain ⟨k, hk, rfl, hown2, hb2⟩ := hrel
        have hszw := hb2.size
        have hcr2 := cell_later hb2 hcr
        have hdr2 := cell_later hb2 hdr
        have hbr2 : slb aa < wr.heap.size := by omega
        have hbs2 : slb ab < wr.heap.size := by omega
        by_cases hkr : k < r.length
        · have hrr2 : IntsV (fun b => (S b ∨ T b) ∧ b < w.heap.size) wr (.slice ar r.length cr) r := IntsV.keep hrr0 (KeepS.below hb2)
          have hsr2 : IntsV (fun b => (S b ∨ T b) ∧ b < w.heap.size) wr (.slice br s.length dr) s := IntsV.keep hsr0 (KeepS.below hb2)
          obtain ⟨x1, hx1, hbx, hx2⟩ := SlV.at hrr2 hkr
          obtain ⟨y1, hy1, hby, hy2⟩ := SlV.at hsr2 (show k < s.length by omega)
          have hf : setAt kind i r s k = if r[k] = s[k]'(by omega) then none else some ⟨kind, i, k, r[k], s[k]'(by omega), []⟩ := by
            unfold setAt; rw [getD_eq hkr, getD_eq (show k < s.length by omega)]
          have hlen2 : (pre ++ (List.range k).filterMap (setAt kind i r s)).length ≤ 10 * i + 10 := by
            have := List.length_filterMap_le (setAt kind i r s) (List.range k)
            simp only [List.length_range] at this
            rw [List.length_append]; omega
          generalize r[k] = x at *
          generalize s[k]'(by omega) = y at *
          subst hx2; subst hy2
          have hk0 : (0 : Int) ≤ k := by omega
          have hk1 : (k : Int) < r.length := by omega
          have hk2 : (k : Int) < s.length := by omega
          by_cases hxy : x = y
          · have HE := hid (filt_succ_none (f := setAt kind i r s) (k := k) (by rw [hf, if_pos hxy]))
            have hd : (x != y) = false := bneF hxy
            rw [HE.out] at hown2
            clear hf HE hxy
            go_wp2
            go_quiet (fail)
            go_wp2
            go_roundw
            case rel => exact ⟨k + 1, by omega, by go_num, hown2.below (below_drewN (Below.refl _ _) _), below_drewN hb2 _⟩
            case measure => simp [intOf]; omega
          · have HE := hid (filt_succ_some (f := setAt kind i r s) (k := k) (by rw [hf, if_neg hxy]))
            have hd : (x != y) = true := bneT hxy
            clear hf hxy
            go_wp2
            go_quiet (fail)
            go_wp2
            have hg := Grew.cellN (w := wr) (n := nq)
            refine wp_region_grew 19 1 (by kernel_rfl) (by kernel_rfl) ?_
            simp only [List.take_succ_cons, List.take_zero, List.drop_succ_cons, List.drop_zero, Nat.reduceAdd]
            repeat (go_big_quiet_step (fail))
            refine wpQuiet_nil ?_
            unfold wpChain
            go_wp2
            refine qn_mk ⟨InGrew.alloc1 _ _ _, ?_⟩
            unfold wpChain
            go_wp2_with (at_builtin; go_must (refine wpList_appC1 rfl _ _ rfl Try.app34 rfl (hown2.below (below_drewN (Below.refl _ _) _)) rfl ⟨kind, i, k, x, y, []⟩ (.slice none 0 0) rfl rfl (SlV.nil _ _ _) (by omega) (by simp; omega) ?_))
            intro v' w1 hown3 ht
            have hb3 : Below w.heap.size w w1 := (below_drewN hb2 _).trans (ht.below (by simp; omega) (fun b hb' => (hown2.lt b hb').1))
            rw [HE.out] at hown3
            clear hown2 ht hg HE hrr2 hsr2 hx1 hy1 hcr2 hdr2 hb2
            go_wp2
            go_roundw
            case rel => exact ⟨k + 1, by omega, by go_num, hown3, hb3⟩
            case measure => simp [intOf]; omega
        · obtain rfl : k = r.length := by omega
          have hown3 : OwnC (fun b => (S b ∨ T b) ∧ b < w.heap.size) w.heap.size 54 wr u9 (sets kind a b (i + 1)) := by rw [HT.out]; exact hown2
          clear hown2 HT hown
          go_wp2
          go_roundw
          case rel => exact ⟨i + 1, by omega, by go_num, hown3, hb2⟩
          case measure => simp [intOf]; omega
    · obtain rfl : i = m := by omega
      have hlen := sets_len kind a b ha10 i
      have HL : Hid (listL kind a b i = sets kind a b i ++ takes kind a i ++ adds kind b i) := hid rfl
      generalize sets kind a b i = pre at *
      obtain ⟨wo, rfl⟩ : ∃ wo : World, wo = wr := ⟨_, rfl⟩
      go_wp2
      go_loopw [9, 12] (fun x i' w2 => ∃ j : Nat, j ≤ a.length - i ∧ i' = .int .i64 ((a.length : Int) - 1 - j) ∧ OwnC (fun b => (S b ∨ T b) ∧ b < w.heap.size) w.heap.size 54 w2 x (pre ++ (List.range j).map fun j => takeC kind a (a.length - 1 - j)) ∧ Below w.heap.size w w2) (fun _ i' _ => (intOf i' + 1 - (i : Int)).toNat)
      case atStart => exact ⟨0, by omega, by simp, by simpa using hown, hbl⟩
      case round =>
        obtain ⟨j, hj, rfl, hown2, hb2⟩ := hrel
        by_cases hlj : j < a.length - i
        · obtain ⟨p, hp⟩ : ∃ p : Nat, p + 1 + j = a.length := ⟨a.length - 1 - j, by omega⟩
          have hpa : p < a.length := by omega
          have hpi : i ≤ p := by omega
          have hpz : (a.length : Int) - 1 - j = (p : Int) := by omega
          have hu2 : RowsV (fun b => (S b ∨ T b) ∧ b < w.heap.size) wr (.slice aa a.length ca) a := RowsV.keep hu0 (KeepS.below hb2)
          obtain ⟨ur, hcr, hbr, hrr⟩ := hu2.at hpa
          have hHT : takeC kind a (a.length - 1 - j) = ⟨kind, p, -2, 0, 0, a[p]⟩ := by
            unfold takeC; rw [show a.length - 1 - j = p from by omega, getD_eq hpa]
          have HT := hid (range_snoc (fun j => takeC kind a (a.length - 1 - j)) j)
          rw [hHT] at HT
          have hlen2 : (pre ++ (List.range j).map fun j => takeC kind a (a.length - 1 - j)).length ≤ 10 * i + 512 := by
            rw [List.length_append]; simp; omega
          rw [hpz]
          have HP := hid hp
          clear hHT hp hpz
          generalize ((List.range j).map fun j => takeC kind a (a.length - 1 - j)) = us at *
          generalize a[p] = r at *
          have hrr0 := hrr
          obtain ⟨ar, cr, rfl, -, -, -⟩ := hrr.form
          have hulB : IntsV (fun b => ((S b ∨ T b) ∧ b < w.heap.size) ∧ some b ≠ u9.ownBlock) wr (.slice ar r.length cr) r :=
            IntsV.mono hrr0 (fun b _ hb' => ⟨hb', fun e => by have := (hown2.lt b e).1; have := hb'.2; omega⟩)
          clear hrr hrr0
          go_wp2_with (at_builtin; go_must (refine wpList_appC1 rfl _ _ rfl Try.app34 rfl hown2 rfl ⟨kind, p, -2, 0, 0, r⟩ (.slice ar r.length cr) rfl rfl hulB (by omega) hb2.size ?_))
          intro v' w1 hown3 ht
          rw [HT.out] at hown3
          have hb3 : Below w.heap.size w w1 := hb2.trans (ht.below hb2.size (fun b hb' => (hown2.lt b hb').1))
          clear hown2 ht hulB HT hu2 hcr hb2
          go_wp2
          go_roundw
          case rel => exact ⟨j + 1, by omega, by have := HP.out; congr 1; omega, hown3, hb3⟩
          case measure => simp [intOf]; omega
        · have hjz : (a.length : Int) - 1 - j < i := by omega
          have HE : Hid (takes kind a i = (List.range j).map fun j => takeC kind a (a.length - 1 - j)) := hid (by unfold takes; rw [show a.length - i = j from by omega])
          have hown3 : OwnC (fun b => (S b ∨ T b) ∧ b < w.heap.size) w.heap.size 54 wr u9 (pre ++ takes kind a i) := by rw [HE.out]; exact hown2
          have hlent : (takes kind a i).length ≤ 512 := by unfold takes; simp; omega
          clear hown2 HE
          generalize takes kind a i = tks at *
          obtain ⟨wm, rfl⟩ : ∃ wm : World, wm = wr := ⟨_, rfl⟩
          go_wp2
          go_loopw [9, 13] (fun x i' w2 => ∃ q : Nat, q ≤ b.length - i ∧ i' = .int .i64 ((i : Int) + q) ∧ OwnC (fun b => (S b ∨ T b) ∧ b < w.heap.size) w.heap.size 54 w2 x (pre ++ tks ++ (List.range q).map fun j => addC kind b (i + j)) ∧ Below w.heap.size w w2) (fun _ i' _ => ((b.length : Int) - intOf i').toNat)
          case atStart => exact ⟨0, by omega, by simp, by simpa using hown3, hb2⟩
          case round =>
            obtain ⟨q, hq, rfl, hown4, hb4⟩ := hrel
            by_cases hlq : q < b.length - i
            · obtain ⟨p, hp⟩ : ∃ p : Nat, p = i + q := ⟨i + q, rfl⟩
              have hpb : p < b.length := by omega
              have hpz : (i : Int) + q = (p : Int) := by omega
              have hv2 : RowsV (fun b => (S b ∨ T b) ∧ b < w.heap.size) wr (.slice ab b.length cb) b := RowsV.keep hv0 (KeepS.below hb4)
              obtain ⟨vr, hdr, hbr, hsr⟩ := hv2.at hpb
              have hHT : addC kind b (i + q) = ⟨kind, p, -1, 0, 0, b[p]⟩ := by
                unfold addC; rw [← hp, getD_eq hpb]
              have HT := hid (range_snoc (fun j => addC kind b (i + j)) q)
              rw [hHT] at HT
              have hlen2 : (pre ++ tks ++ (List.range q).map fun j => addC kind b (i + j)).length ≤ 10 * i + 1100 := by
                rw [List.length_append, List.length_append]; simp; omega
              rw [hpz]
              have HP := hid hp
              clear hHT hp hpz
              generalize ((List.range q).map fun j => addC kind b (i + j)) = us at *
              generalize b[p] = r at *
              have hsr0 := hsr
              obtain ⟨ar, cr, rfl, -, -, -⟩ := hsr.form
              have hulB : IntsV (fun b => ((S b ∨ T b) ∧ b < w.heap.size) ∧ some b ≠ u9.ownBlock) wr (.slice ar r.length cr) r :=
                IntsV.mono hsr0 (fun b _ hb' => ⟨hb', fun e => by have := (hown4.lt b e).1; have := hb'.2; omega⟩)
              clear hsr hsr0
              go_wp2_with (at_builtin; go_must (refine wpList_appC1 rfl _ _ rfl Try.app34 rfl hown4 rfl ⟨kind, p, -1, 0, 0, r⟩ (.slice ar r.length cr) rfl rfl hulB (by omega) hb4.size ?_))
              intro v' w1 hown5 ht
              have hown6 : OwnC (fun b => (S b ∨ T b) ∧ b < w.heap.size) w.heap.size 54 w1 v' (pre ++ tks ++ (List.range (q + 1)).map fun j => addC kind b (i + j)) := by
                rw [← HT.out, ← List.append_assoc]; simpa using hown5
              have hb5 : Below w.heap.size w w1 := hb4.trans (ht.below hb4.size (fun b hb' => (hown4.lt b hb').1))
              clear hown4 ht hulB HT hv2 hdr hb4 hown5
              go_wp2
              go_roundw
              case rel => exact ⟨q + 1, by omega, by have := HP.out; congr 1; omega, hown6, hb5⟩
              case measure => simp [intOf]; omega
            · have hqz : (b.length : Int) ≤ i + q := by omega
              have HE : Hid (listL kind a b i = pre ++ tks ++ (List.range q).map fun j => addC kind b (i + j)) := hid (by rw [HL.out]; unfold adds; rw [show b.length - i = q from by omega])
              have hres := ChV.mono (S' := fun b => (S b ∨ T b) ∨ w.heap.size ≤ b) hown4.sl (fun _ _ h => h.imp (fun h => h.1) id)
              rw [← HE.out] at hres
              clear hown4 HE HL
              go_wp2
              go_ret
              exact ⟨_, rfl, hres, hb4⟩

end Go.Proofs.Yteepdnamkcgndaa

namespace Go.Proofs.Yteepdnamkcgndaa
open Go.RowKit

/-- The best changes with m up to n; of several the one of the greatest m. -/
def bestM (kind : Int) (a b : List (List Int)) : Nat → List Chg
  | 0 => listL kind a b 0
  | n + 1 => if (listL kind a b (n + 1)).length ≤ (bestM kind a b n).length then listL kind a b (n + 1) else bestM kind a b n
def kindDiff (kind : Int) (a b : List (List Int)) : List Chg := bestM kind a b (min a.length b.length)
/-- The records of two lists of records have as many values. -/
def fitsK (a b : List (List Int)) : Prop := 0 < a.length → 0 < b.length → (a.headD []).length = (b.headD []).length
def diffOk (A B : List (List (List Int))) : Prop := ShapedW A ∧ ShapedW B ∧ A.length = B.length ∧ ∀ k, k < A.length → fitsK (A.getD k []) (B.getD k [])
instance (a b : List (List Int)) : Decidable (fitsK a b) := by unfold fitsK; exact inferInstance
instance (A B : List (List (List Int))) : Decidable (diffOk A B) := by unfold diffOk; exact inferInstance
def diffL (A B : List (List (List Int))) (n : Nat) : List Chg := (List.range n).flatMap fun k : Nat => kindDiff (k : Int) (A.getD k []) (B.getD k [])
def diffC (A B : List (List (List Int))) : List Chg := if diffOk A B then diffL A B A.length else []
def diffE (A B : List (List (List Int))) : Int := if diffOk A B then 0 else 2

theorem diffL_succ (A B : List (List (List Int))) (n : Nat) : diffL A B (n + 1) = diffL A B n ++ kindDiff n (A.getD n []) (B.getD n []) := by
  unfold diffL; rw [List.range_succ, List.flatMap_append]; simp

theorem listL_len {kind : Int} {a b : List (List Int)} {m : Nat} (ha : ∀ r ∈ a, r.length ≤ 10) (hm : m ≤ a.length) : (listL kind a b m).length ≤ 10 * a.length + a.length + b.length := by
  unfold listL takes adds
  have := sets_len kind a b ha m
  simp only [List.length_append, List.length_map, List.length_range]
  omega
theorem bestM_len {kind : Int} {a b : List (List Int)} (ha : ∀ r ∈ a, r.length ≤ 10) : ∀ m, m ≤ a.length → (bestM kind a b m).length ≤ 10 * a.length + a.length + b.length
  | 0, h => listL_len ha h
  | m + 1, h => by
    have h1 := bestM_len (kind := kind) (b := b) ha m (by omega)
    have h2 := listL_len (kind := kind) (b := b) ha h
    unfold bestM
    split <;> omega
theorem sum_ge {l : List Nat} {x : Nat} (h : x ∈ l) : x ≤ l.sum := by
  induction l with
  | nil => cases h
  | cons y l ih =>
    rw [List.sum_cons]
    rcases List.mem_cons.1 h with rfl | h
    · omega
    · have := ih h; omega
theorem shaped_kind {W : List (List (List Int))} (h : ShapedW W) {rows : List (List Int)} (hr : rows ∈ W) : rows.length ≤ 512 ∧ ∀ r ∈ rows, r.length ≤ 10 ∧ 1 ≤ r.length ∧ r.length = (rows.headD []).length := by
  refine ⟨?_, fun r hr' => ⟨(h.1 rows hr r hr').2.1, (h.1 rows hr r hr').1, (h.1 rows hr r hr').2.2⟩⟩
  have h1 := h.2.2
  unfold total at h1
  have := sum_ge (List.mem_map.2 ⟨rows, hr, rfl⟩ : rows.length ∈ W.map List.length)
  omega

set_option maxRecDepth 100000 in
set_option maxHeartbeats 2000000 in
theorem rdiff_any (A B : List (List (List Int))) (hA : Small A) (hB : Small B) (u v : Value) (S T : Nat → Prop) (w : World) (hu : WorldV S w u A) (hv : WorldV T w v B) :
    Calls Try.prog 7 #[u, v] w fun e w' => ∃ x, e = .returned (.tuple #[x, .int .i64 (diffE A B)]) ∧ ChV AnyB w' x (diffC A B) ∧ Below w.heap.size w w' := by
  have hu0 : WorldV (fun b => (S b ∨ T b) ∧ b < w.heap.size) w u A := WorldV.mono hu (fun b hb h => ⟨.inl h, hb⟩)
  have hv0 : WorldV (fun b => (S b ∨ T b) ∧ b < w.heap.size) w v B := WorldV.mono hv (fun b hb h => ⟨.inr h, hb⟩)
  obtain ⟨aa, ca, rfl, hoka, hcapa, hmaxa⟩ := hu.form
  obtain ⟨ab, cb, rfl, hokb, hcapb, hmaxb⟩ := hv.form
  clear hu hv
  have CA := fun W (h : WorldV (fun b => (S b ∨ T b) ∧ b < w.heap.size) W (.slice aa A.length ca) A) => hid (shapedR_any A hA _ _ W h)
  have CB := fun W (h : WorldV (fun b => (S b ∨ T b) ∧ b < w.heap.size) W (.slice ab B.length cb) B) => hid (shapedR_any B hB _ _ W h)
  by_cases h1 : ShapedW A
  · have HD1 := hid (decide_eq_true h1)
    by_cases h2 : ShapedW B
    · have HD2 := hid (decide_eq_true h2)
      by_cases h3 : A.length = B.length
      · have d3 : ((A.length : Int) != (B.length : Int)) = false := bneF (by omega)
        have hAB : A.length ≤ B.length := by omega
        have H12 := hid (show ShapedW A ∧ ShapedW B ∧ A.length = B.length from ⟨h1, h2, h3⟩)
        have hA6 := h1.2.1
        clear h1 h2 h3
        go_enter Try.func7, Try.ntmps7
        go_wp2_with fail
        refine (CA _ hu0).out.mono ?_
        rintro e w1 ⟨rfl, n1, rfl⟩
        rw [HD1.out]
        go_wp2_with fail
        refine (CB _ (hv0.keep (KeepS.below (below_drewN (Below.refl _ _) _)))).out.mono ?_
        rintro e w1 ⟨rfl, n2, rfl⟩
        rw [HD2.out]
        go_wp2
        go_loopw [6, 7] (fun x i wr => ∃ k : Nat, k ≤ A.length ∧ i = .int .i64 k ∧ OwnC AnyB w.heap.size 54 wr x (diffL A B k) ∧ (diffL A B k).length ≤ 7000 * k ∧ Hid (∀ j, j < k → fitsK (A.getD j []) (B.getD j [])) ∧ Below w.heap.size w wr) (fun _ i _ => A.length - (intOf i).toNat)
        case atStart => exact ⟨0, by omega, rfl, by simpa [diffL] using OwnC.nil _ _ _ _, by simp [diffL], hid (fun j h => by omega), below_drewN (Below.refl _ _) _⟩
        case round =>
          obtain ⟨k, hk, rfl, hown, hlen, hfit, hbl⟩ := hrel
          by_cases hlt : k < A.length
          · have hltB : k < B.length := by omega
            have HT := hid (diffL_succ A B k)
            have HN : Hid (¬ fitsK A[k] B[k] → ¬ diffOk A B) := hid (fun h q => h (by have := q.2.2.2 k hlt; rwa [getD_eq hlt, getD_eq hltB] at this))
            have HF1 : Hid (fitsK A[k] B[k] → ∀ j, j < k + 1 → fitsK (A.getD j []) (B.getD j [])) := hid (fun h j hj => by
              by_cases e : j < k
              · exact hfit.out j e
              · obtain rfl : j = k := by omega
                rw [getD_eq hlt, getD_eq hltB]; exact h)
            have hsa := shaped_kind H12.out.1 (List.getElem_mem hlt)
            have hsb := shaped_kind H12.out.2.1 (List.getElem_mem hltB)
            rw [getD_eq hlt, getD_eq hltB] at HT
            have hu1 : WorldV (fun b => (S b ∨ T b) ∧ b < w.heap.size) wr (.slice aa A.length ca) A := hu0.keep (KeepS.below hbl)
            have hv1 : WorldV (fun b => (S b ∨ T b) ∧ b < w.heap.size) wr (.slice ab B.length cb) B := hv0.keep (KeepS.below hbl)
            obtain ⟨ua, hca, hba, hra⟩ := hu1.at hlt
            obtain ⟨vb, hcb, hbb, hrb⟩ := hv1.at hltB
            generalize diffL A B k = pre at *
            generalize A[k] = a at *
            generalize B[k] = b at *
            have hra0 := hra
            have hrb0 := hrb
            obtain ⟨ak, cka, rfl, hoka1, hcapa1, hmaxa1⟩ := hra.form
            obtain ⟨bk, ckb, rfl, hokb1, hcapb1, hmaxb1⟩ := hrb.form
            clear hra hrb
            have hk0 : (0 : Int) ≤ k := by omega
            have hk1 : (k : Int) < A.length := by omega
            have hk2 : (k : Int) < B.length := by omega
            have hla := hsa.1
            have hlb := hsb.1
            have hbl0 := hbl.size
            obtain ⟨wo, rfl⟩ : ∃ wo : World, wo = wr := ⟨_, rfl⟩
            have three : (a.length = 0 ∨ (0 < a.length ∧ b.length = 0)) ∨ (0 < a.length ∧ 0 < b.length ∧ (a.headD []).length ≠ (b.headD []).length) ∨ (0 < a.length ∧ 0 < b.length ∧ (a.headD []).length = (b.headD []).length) := by omega
            rcases three with (ha0 | ⟨ha0, hb0⟩) | ⟨ha0, hb0, hne⟩ | ⟨ha0, hb0, heq⟩
            case' inr.inl =>
              have HX := hid (HN.out (fun h => hne (h ha0 hb0)))
              obtain ⟨ua0, hca0, hba0, hra1⟩ := hra0.at ha0
              obtain ⟨vb0, hcb0, hbb0, hrb1⟩ := hrb0.at hb0
              rw [headD_eq [] ha0, headD_eq [] hb0] at hne
              rw [Nat.add_zero] at hca0 hcb0
              generalize a[0] = a0 at *
              generalize b[0] = b0 at *
              obtain ⟨ak0, cka0, rfl, -, -, -⟩ := hra1.form
              obtain ⟨bk0, ckb0, rfl, -, -, -⟩ := hrb1.form
              have d1 : ((a0.length : Int) != (b0.length : Int)) = true := bneT (by omega)
              have d2 : decide ((0 : Int) < a.length) = true := by simpa using ha0
              have d3 : decide ((0 : Int) < b.length) = true := by simpa using hb0
              clear HF1 HT HN hne hra1 hrb1
              go_wp2
              go_quiet (fail)
              go_wp2
              go_ret2
              exact ⟨.slice none 0 0, by unfold diffE; rw [if_neg HX.out]; rfl, by unfold diffC; rw [if_neg HX.out]; exact ChV.nil _ _, below_drewN hbl _⟩
            case' inr.inr =>
              have HFK : Hid (fitsK a b) := hid (fun _ _ => heq)
              obtain ⟨ua0, hca0, hba0, hra1⟩ := hra0.at ha0
              obtain ⟨vb0, hcb0, hbb0, hrb1⟩ := hrb0.at hb0
              rw [headD_eq [] ha0, headD_eq [] hb0] at heq
              rw [Nat.add_zero] at hca0 hcb0
              generalize a[0] = a0 at *
              generalize b[0] = b0 at *
              obtain ⟨ak0, cka0, rfl, -, -, -⟩ := hra1.form
              obtain ⟨bk0, ckb0, rfl, -, -, -⟩ := hrb1.form
              have d1 : ((a0.length : Int) != (b0.length : Int)) = false := bneF (by omega)
              have d2 : decide ((0 : Int) < a.length) = true := by simpa using ha0
              have d3 : decide ((0 : Int) < b.length) = true := by simpa using hb0
              clear HN heq hra1 hrb1
              go_wp2
              go_quiet (fail)
              go_wp2
              clear d1 d2 d3 hca0 hcb0 hba0 hbb0
            case' inl.inl =>
              have HFK : Hid (fitsK a b) := hid (fun h _ => by omega)
              have d2 : decide ((0 : Int) < a.length) = false := decide_eq_false (by omega)
              have hal : a.length ≤ 0 := by omega
              clear HN ha0
              go_wp2
            case' inl.inr =>
              have HFK : Hid (fitsK a b) := hid (fun _ h => by omega)
              have d2 : decide ((0 : Int) < a.length) = true := by simpa using ha0
              have d3 : decide ((0 : Int) < b.length) = false := decide_eq_false (by omega)
              have hbz : b.length ≤ 0 := by omega
              clear HN hb0
              go_wp2
            case inl.inl =>
              have hra1 : ∀ n, RowsV (fun b => (S b ∨ T b) ∧ b < w.heap.size) (wo.drewN n) (.slice ak a.length cka) a := fun n => hra0.keep (KeepS.below (below_drewN (Below.refl _ _) _))
              have hrb1 : ∀ n, RowsV (fun b => (S b ∨ T b) ∧ b < w.heap.size) (wo.drewN n) (.slice bk b.length ckb) b := fun n => hrb0.keep (KeepS.below (below_drewN (Below.refl _ _) _))
              have HF2 := hid (HF1.out HFK.out)
              have ha10 : ∀ r ∈ a, r.length ≤ 10 := fun r hr => (hsa.2 r hr).1
              have hb10 : ∀ r ∈ b, r.length ≤ 10 := fun r hr => (hsb.2 r hr).1
              have hab : ∀ i (h1 : i < a.length) (h2 : i < b.length), a[i].length ≤ b[i].length := fun i h1 h2 => by
                rw [(hsa.2 _ (List.getElem_mem h1)).2.2, (hsb.2 _ (List.getElem_mem h2)).2.2, HFK.out (by omega) (by omega)]
                exact Nat.le_refl _
              have HAB := hid hab
              have HA10 := hid ha10
              have HB10 := hid hb10
              have HRA := hid hra1
              have HRB := hid hrb1
              clear hab ha10 hb10 hra1 hrb1 HF1 HFK hsa hsb hu1 hv1 CA CB
              refine wp_region_quiet_tail 9 (by kernel_rfl) (by kernel_rfl) ?_
              simp only [List.take_succ_cons, List.take_zero, List.drop_succ_cons, List.drop_zero]
              repeat (go_big_quiet_step (fail))
              refine wpQuiet_nil ?_
              go_wp2_with fail
              refine (list_any k a b 0 hla hlb HA10.out HB10.out (Nat.zero_le _) (Nat.zero_le _) (fun i h1 h2 h => absurd h (Nat.not_lt_zero _)) _ _ (fun b => (S b ∨ T b) ∧ b < w.heap.size) (fun b => (S b ∨ T b) ∧ b < w.heap.size) _ (HRA.out _) (HRB.out _)).mono ?_
              rintro e w2 ⟨x, rfl, hx, hb2⟩
              have hb3 : Below wo.heap.size wo w2 := (below_drewN (Below.refl _ _) _).trans hb2
              have hx1 : ChV (fun b => b < w.heap.size ∨ wo.heap.size ≤ b) w2 x (bestM k a b 0) := ChV.mono hx (fun b _ hb => by
                rcases hb with (hb | hb) | hb
                · exact .inl hb.2
                · exact .inl hb.2
                · exact .inr hb)
              clear hx hb2
              go_wp2
              go_loopw [8, 9] (fun x i wr => ∃ p : Nat, p ≤ a.length ∧ p ≤ b.length ∧ i = .int .i64 ((p : Int) + 1) ∧ ChV (fun b => b < w.heap.size ∨ wo.heap.size ≤ b) wr x (bestM k a b p) ∧ Below wo.heap.size wo wr) (fun _ i _ => (a.length + 1 - intOf i).toNat)
              case atStart => exact ⟨0, Nat.zero_le _, Nat.zero_le _, rfl, hx1, hb3⟩
              case round =>
                obtain ⟨p, hpa, hpb, rfl, hbest, hb4⟩ := hrel
                have hb4s := hb4.size
                have hca4 := cell_later hb4 hca
                have hcb4 := cell_later hb4 hcb
                have hba4 : slb aa < wr.heap.size := by omega
                have hbb4 : slb ab < wr.heap.size := by omega
                obtain ⟨ax, cx, rfl, -, -, -⟩ := hbest.form
                have HK : Hid (kindDiff k a b = bestM k a b p) := hid (by unfold kindDiff; rw [show min a.length b.length = p from by omega])
                have hlen5 := bestM_len (kind := k) (b := b) HA10.out p hpa
                rw [HK.out] at HT
                generalize bestM k a b p = ds at *
                obtain ⟨-, hokx, us', l1, l2, l3, l4⟩ := hbest.news
                have hown4 := hown.below hb4
                have hb5 := hbl.trans (hb4.mono hbl.size)
                have hu4 : ∀ j (h1 : j < us'.length) (h2 : j < ds.length), IntsV (fun b => AnyB b ∧ some b ≠ u6.ownBlock) wr us'[j] ds[j].values := fun j h1 h2 =>
                  IntsV.mono (l4 j h1 h2) (fun b _ hb => ⟨trivial, fun e => by
                    have := hown.lt b e
                    rcases hb with hb | hb <;> omega⟩)
                clear hbest
                go_wp2_with (at_builtin; go_must (refine wpList_appC rfl _ _ rfl Try.app34 rfl hown4 rfl hokx ds us' l1 rfl l2 l3 hu4 (by omega) (by omega) ?_))
                intro v' w3 hown5 ht
                rw [← HT.out] at hown5
                have hb6 : Below w.heap.size w w3 := hb5.trans (ht.below (by omega) (fun b hb' => (hown4.lt b hb').1))
                have hlen6 : (diffL A B (k + 1)).length ≤ 7000 * (k + 1) := by rw [HT.out, List.length_append]; omega
                clear hown4 hown hb4 hb5 hu4 l1 l2 l3 l4 ht hlen5 hlen HK hca4 hcb4
                go_wp2
                go_roundw
                case rel => exact ⟨k + 1, by omega, by go_num, hown5, hlen6, HF2, hb6⟩
                case measure => simp [intOf]; omega
            case inl.inr =>
              have hra1 : ∀ n, RowsV (fun b => (S b ∨ T b) ∧ b < w.heap.size) (wo.drewN n) (.slice ak a.length cka) a := fun n => hra0.keep (KeepS.below (below_drewN (Below.refl _ _) _))
              have hrb1 : ∀ n, RowsV (fun b => (S b ∨ T b) ∧ b < w.heap.size) (wo.drewN n) (.slice bk b.length ckb) b := fun n => hrb0.keep (KeepS.below (below_drewN (Below.refl _ _) _))
              have HF2 := hid (HF1.out HFK.out)
              have ha10 : ∀ r ∈ a, r.length ≤ 10 := fun r hr => (hsa.2 r hr).1
              have hb10 : ∀ r ∈ b, r.length ≤ 10 := fun r hr => (hsb.2 r hr).1
              have hab : ∀ i (h1 : i < a.length) (h2 : i < b.length), a[i].length ≤ b[i].length := fun i h1 h2 => by
                rw [(hsa.2 _ (List.getElem_mem h1)).2.2, (hsb.2 _ (List.getElem_mem h2)).2.2, HFK.out (by omega) (by omega)]
                exact Nat.le_refl _
              have HAB := hid hab
              have HA10 := hid ha10
              have HB10 := hid hb10
              have HRA := hid hra1
              have HRB := hid hrb1
              clear hab ha10 hb10 hra1 hrb1 HF1 HFK hsa hsb hu1 hv1 CA CB
              refine wp_region_quiet_tail 9 (by kernel_rfl) (by kernel_rfl) ?_
              simp only [List.take_succ_cons, List.take_zero, List.drop_succ_cons, List.drop_zero]
              repeat (go_big_quiet_step (fail))
              refine wpQuiet_nil ?_
              go_wp2_with fail
              refine (list_any k a b 0 hla hlb HA10.out HB10.out (Nat.zero_le _) (Nat.zero_le _) (fun i h1 h2 h => absurd h (Nat.not_lt_zero _)) _ _ (fun b => (S b ∨ T b) ∧ b < w.heap.size) (fun b => (S b ∨ T b) ∧ b < w.heap.size) _ (HRA.out _) (HRB.out _)).mono ?_
              rintro e w2 ⟨x, rfl, hx, hb2⟩
              have hb3 : Below wo.heap.size wo w2 := (below_drewN (Below.refl _ _) _).trans hb2
              have hx1 : ChV (fun b => b < w.heap.size ∨ wo.heap.size ≤ b) w2 x (bestM k a b 0) := ChV.mono hx (fun b _ hb => by
                rcases hb with (hb | hb) | hb
                · exact .inl hb.2
                · exact .inl hb.2
                · exact .inr hb)
              clear hx hb2
              go_wp2
              go_loopw [8, 9] (fun x i wr => ∃ p : Nat, p ≤ a.length ∧ p ≤ b.length ∧ i = .int .i64 ((p : Int) + 1) ∧ ChV (fun b => b < w.heap.size ∨ wo.heap.size ≤ b) wr x (bestM k a b p) ∧ Below wo.heap.size wo wr) (fun _ i _ => (a.length + 1 - intOf i).toNat)
              case atStart => exact ⟨0, Nat.zero_le _, Nat.zero_le _, rfl, hx1, hb3⟩
              case round =>
                obtain ⟨p, hpa, hpb, rfl, hbest, hb4⟩ := hrel
                have hb4s := hb4.size
                have hca4 := cell_later hb4 hca
                have hcb4 := cell_later hb4 hcb
                have hba4 : slb aa < wr.heap.size := by omega
                have hbb4 : slb ab < wr.heap.size := by omega
                obtain ⟨ax, cx, rfl, -, -, -⟩ := hbest.form
                have HK : Hid (kindDiff k a b = bestM k a b p) := hid (by unfold kindDiff; rw [show min a.length b.length = p from by omega])
                have hlen5 := bestM_len (kind := k) (b := b) HA10.out p hpa
                rw [HK.out] at HT
                generalize bestM k a b p = ds at *
                obtain ⟨-, hokx, us', l1, l2, l3, l4⟩ := hbest.news
                have hown4 := hown.below hb4
                have hb5 := hbl.trans (hb4.mono hbl.size)
                have hu4 : ∀ j (h1 : j < us'.length) (h2 : j < ds.length), IntsV (fun b => AnyB b ∧ some b ≠ u6.ownBlock) wr us'[j] ds[j].values := fun j h1 h2 =>
                  IntsV.mono (l4 j h1 h2) (fun b _ hb => ⟨trivial, fun e => by
                    have := hown.lt b e
                    rcases hb with hb | hb <;> omega⟩)
                clear hbest
                go_wp2_with (at_builtin; go_must (refine wpList_appC rfl _ _ rfl Try.app34 rfl hown4 rfl hokx ds us' l1 rfl l2 l3 hu4 (by omega) (by omega) ?_))
                intro v' w3 hown5 ht
                rw [← HT.out] at hown5
                have hb6 : Below w.heap.size w w3 := hb5.trans (ht.below (by omega) (fun b hb' => (hown4.lt b hb').1))
                have hlen6 : (diffL A B (k + 1)).length ≤ 7000 * (k + 1) := by rw [HT.out, List.length_append]; omega
                clear hown4 hown hb4 hb5 hu4 l1 l2 l3 l4 ht hlen5 hlen HK hca4 hcb4
                go_wp2
                go_roundw
                case rel => exact ⟨k + 1, by omega, by go_num, hown5, hlen6, HF2, hb6⟩
                case measure => simp [intOf]; omega
            case inr.inr =>
              have hra1 : ∀ n, RowsV (fun b => (S b ∨ T b) ∧ b < w.heap.size) (wo.drewN n) (.slice ak a.length cka) a := fun n => hra0.keep (KeepS.below (below_drewN (Below.refl _ _) _))
              have hrb1 : ∀ n, RowsV (fun b => (S b ∨ T b) ∧ b < w.heap.size) (wo.drewN n) (.slice bk b.length ckb) b := fun n => hrb0.keep (KeepS.below (below_drewN (Below.refl _ _) _))
              have HF2 := hid (HF1.out HFK.out)
              have ha10 : ∀ r ∈ a, r.length ≤ 10 := fun r hr => (hsa.2 r hr).1
              have hb10 : ∀ r ∈ b, r.length ≤ 10 := fun r hr => (hsb.2 r hr).1
              have hab : ∀ i (h1 : i < a.length) (h2 : i < b.length), a[i].length ≤ b[i].length := fun i h1 h2 => by
                rw [(hsa.2 _ (List.getElem_mem h1)).2.2, (hsb.2 _ (List.getElem_mem h2)).2.2, HFK.out (by omega) (by omega)]
                exact Nat.le_refl _
              have HAB := hid hab
              have HA10 := hid ha10
              have HB10 := hid hb10
              have HRA := hid hra1
              have HRB := hid hrb1
              clear hab ha10 hb10 hra1 hrb1 HF1 HFK hsa hsb hu1 hv1 CA CB
              refine wp_region_quiet_tail 9 (by kernel_rfl) (by kernel_rfl) ?_
              simp only [List.take_succ_cons, List.take_zero, List.drop_succ_cons, List.drop_zero]
              repeat (go_big_quiet_step (fail))
              refine wpQuiet_nil ?_
              go_wp2_with fail
              refine (list_any k a b 0 hla hlb HA10.out HB10.out (Nat.zero_le _) (Nat.zero_le _) (fun i h1 h2 h => absurd h (Nat.not_lt_zero _)) _ _ (fun b => (S b ∨ T b) ∧ b < w.heap.size) (fun b => (S b ∨ T b) ∧ b < w.heap.size) _ (HRA.out _) (HRB.out _)).mono ?_
              rintro e w2 ⟨x, rfl, hx, hb2⟩
              have hb3 : Below wo.heap.size wo w2 := (below_drewN (Below.refl _ _) _).trans hb2
              have hx1 : ChV (fun b => b < w.heap.size ∨ wo.heap.size ≤ b) w2 x (bestM k a b 0) := ChV.mono hx (fun b _ hb => by
                rcases hb with (hb | hb) | hb
                · exact .inl hb.2
                · exact .inl hb.2
                · exact .inr hb)
              clear hx hb2
              go_wp2
              go_loopw [8, 9] (fun x i wr => ∃ p : Nat, p ≤ a.length ∧ p ≤ b.length ∧ i = .int .i64 ((p : Int) + 1) ∧ ChV (fun b => b < w.heap.size ∨ wo.heap.size ≤ b) wr x (bestM k a b p) ∧ Below wo.heap.size wo wr) (fun _ i _ => (a.length + 1 - intOf i).toNat)
              case atStart => exact ⟨0, Nat.zero_le _, Nat.zero_le _, rfl, hx1, hb3⟩
              case round =>
                obtain ⟨p, hpa, hpb, rfl, hbest, hb4⟩ := hrel
                have hb4s := hb4.size
                have hca4 := cell_later hb4 hca
                have hcb4 := cell_later hb4 hcb
                have hba4 : slb aa < wr.heap.size := by omega
                have hbb4 : slb ab < wr.heap.size := by omega
                obtain ⟨ax, cx, rfl, -, -, -⟩ := hbest.form
                by_cases hp1 : p < a.length
                · by_cases hp2 : p < b.length
                  · have hra2 : ∀ n, Hid (RowsV (fun b => (S b ∨ T b) ∧ b < w.heap.size) (wr.drewN n) (.slice ak a.length cka) a) := fun n => hid (RowsV.keep hra0 (KeepS.below (below_drewN hb4 _)))
                    have hrb2 : ∀ n, Hid (RowsV (fun b => (S b ∨ T b) ∧ b < w.heap.size) (wr.drewN n) (.slice bk b.length ckb) b) := fun n => hid (RowsV.keep hrb0 (KeepS.below (below_drewN hb4 _)))
                    have HC : Hid (∀ (x : Value) (W : World), ChV (fun b => b < w.heap.size ∨ wo.heap.size ≤ b) W x (bestM k a b p) → (bestM k a b p).length < (listL k a b (p + 1)).length → ChV (fun b => b < w.heap.size ∨ wo.heap.size ≤ b) W x (bestM k a b (p + 1))) := hid (fun x W h h2 => by
                      show ChV _ W x (if _ then _ else _)
                      rw [if_neg (by omega)]; exact h)
                    have HC2 : Hid (∀ (x : Value) (W : World), ChV (fun b => b < w.heap.size ∨ wo.heap.size ≤ b) W x (listL k a b (p + 1)) → (listL k a b (p + 1)).length ≤ (bestM k a b p).length → ChV (fun b => b < w.heap.size ∨ wo.heap.size ≤ b) W x (bestM k a b (p + 1))) := hid (fun x W h h2 => by
                      show ChV _ W x (if _ then _ else _)
                      rw [if_pos h2]; exact h)
                    have HL := hid (fun n => list_any k a b (p + 1) hla hlb HA10.out HB10.out hp1 hp2 (fun i h1 h2 _ => HAB.out i h1 h2) _ _ (fun b => (S b ∨ T b) ∧ b < w.heap.size) (fun b => (S b ∨ T b) ∧ b < w.heap.size) _ (hra2 n).out (hrb2 n).out)
                    have hlenb := bestM_len (kind := k) (b := b) HA10.out p hpa
                    have hlenl := listL_len (kind := k) (b := b) HA10.out hp1
                    generalize bestM k a b p = ds at *
                    generalize listL k a b (p + 1) = ls at *
                    go_wp2
                    refine wp_region_quiet_tail 10 (by kernel_rfl) (by kernel_rfl) ?_
                    simp only [List.take_succ_cons, List.take_zero, List.drop_succ_cons, List.drop_zero]
                    repeat (go_big_quiet_step (fail))
                    refine wpQuiet_nil ?_
                    go_wp2_with fail
                    refine (HL.out _).mono ?_
                    rintro e w3 ⟨y, rfl, hy, hb5⟩
                    have hb6 : Below wo.heap.size wo w3 := hb4.trans (((below_drewN (Below.refl _ _) _).trans hb5).mono hb4s)
                    have hy1 : ChV (fun b => b < w.heap.size ∨ wo.heap.size ≤ b) w3 y ls := ChV.mono hy (fun b _ hb => by
                      rcases hb with (hb | hb) | hb
                      · exact .inl hb.2
                      · exact .inl hb.2
                      · exact .inr (Nat.le_trans hb4s hb))
                    have hbest3 : ChV (fun b => b < w.heap.size ∨ wo.heap.size ≤ b) w3 (.slice ax ds.length cx) ds := ChV.keep hbest (KeepS.below ((below_drewN (Below.refl _ _) _).trans hb5))
                    clear hy hb5 hbest
                    obtain ⟨ay, cy, rfl, -, -, -⟩ := hy1.form
                    by_cases hle : ls.length ≤ ds.length
                    · have hfin := hid (HC2.out _ _ hy1 hle)
                      clear HC HC2 HL hy1 hbest3 hra2 hrb2
                      go_wp2
                      go_roundw
                      case rel => exact ⟨p + 1, hp1, hp2, by go_num, hfin.out, hb6⟩
                      case measure => simp [intOf]; omega
                    · have hfin := hid (HC.out _ _ hbest3 (by omega))
                      clear HC HC2 HL hy1 hbest3 hra2 hrb2
                      go_wp2
                      go_roundw
                      case rel => exact ⟨p + 1, hp1, hp2, by go_num, hfin.out, hb6⟩
                      case measure => simp [intOf]; omega
                  · have HK : Hid (kindDiff k a b = bestM k a b p) := hid (by unfold kindDiff; rw [show min a.length b.length = p from by omega])
                    have hlen5 := bestM_len (kind := k) (b := b) HA10.out p hpa
                    rw [HK.out] at HT
                    generalize bestM k a b p = ds at *
                    obtain ⟨-, hokx, us', l1, l2, l3, l4⟩ := hbest.news
                    have hown4 := hown.below hb4
                    have hb5 := hbl.trans (hb4.mono hbl.size)
                    have hu4 : ∀ j (h1 : j < us'.length) (h2 : j < ds.length), IntsV (fun b => AnyB b ∧ some b ≠ u6.ownBlock) wr us'[j] ds[j].values := fun j h1 h2 =>
                      IntsV.mono (l4 j h1 h2) (fun b _ hb => ⟨trivial, fun e => by
                        have := hown.lt b e
                        rcases hb with hb | hb <;> omega⟩)
                    clear hbest
                    go_wp2_with (at_builtin; go_must (refine wpList_appC rfl _ _ rfl Try.app34 rfl hown4 rfl hokx ds us' l1 rfl l2 l3 hu4 (by omega) (by omega) ?_))
                    intro v' w3 hown5 ht
                    rw [← HT.out] at hown5
                    have hb6 : Below w.heap.size w w3 := hb5.trans (ht.below (by omega) (fun b hb' => (hown4.lt b hb').1))
                    have hlen6 : (diffL A B (k + 1)).length ≤ 7000 * (k + 1) := by rw [HT.out, List.length_append]; omega
                    clear hown4 hown hb4 hb5 hu4 l1 l2 l3 l4 ht hlen5 hlen HK hca4 hcb4
                    go_wp2
                    go_roundw
                    case rel => exact ⟨k + 1, by omega, by go_num, hown5, hlen6, HF2, hb6⟩
                    case measure => simp [intOf]; omega
                · have HK : Hid (kindDiff k a b = bestM k a b p) := hid (by unfold kindDiff; rw [show min a.length b.length = p from by omega])
                  have hlen5 := bestM_len (kind := k) (b := b) HA10.out p hpa
                  rw [HK.out] at HT
                  generalize bestM k a b p = ds at *
                  obtain ⟨-, hokx, us', l1, l2, l3, l4⟩ := hbest.news
                  have hown4 := hown.below hb4
                  have hb5 := hbl.trans (hb4.mono hbl.size)
                  have hu4 : ∀ j (h1 : j < us'.length) (h2 : j < ds.length), IntsV (fun b => AnyB b ∧ some b ≠ u6.ownBlock) wr us'[j] ds[j].values := fun j h1 h2 =>
                    IntsV.mono (l4 j h1 h2) (fun b _ hb => ⟨trivial, fun e => by
                      have := hown.lt b e
                      rcases hb with hb | hb <;> omega⟩)
                  clear hbest
                  go_wp2_with (at_builtin; go_must (refine wpList_appC rfl _ _ rfl Try.app34 rfl hown4 rfl hokx ds us' l1 rfl l2 l3 hu4 (by omega) (by omega) ?_))
                  intro v' w3 hown5 ht
                  rw [← HT.out] at hown5
                  have hb6 : Below w.heap.size w w3 := hb5.trans (ht.below (by omega) (fun b hb' => (hown4.lt b hb').1))
                  have hlen6 : (diffL A B (k + 1)).length ≤ 7000 * (k + 1) := by rw [HT.out, List.length_append]; omega
                  clear hown4 hown hb4 hb5 hu4 l1 l2 l3 l4 ht hlen5 hlen HK hca4 hcb4
                  go_wp2
                  go_roundw
                  case rel => exact ⟨k + 1, by omega, by go_num, hown5, hlen6, HF2, hb6⟩
                  case measure => simp [intOf]; omega
          · have HOK : Hid (diffOk A B) := hid ⟨H12.out.1, H12.out.2.1, H12.out.2.2, fun j hj => hfit.out j (by omega)⟩
            obtain rfl : k = A.length := by omega
            have hres : ChV AnyB wr u6 (diffC A B) := by unfold diffC; rw [if_pos HOK.out]; exact ChV.mono hown.sl (fun _ _ _ => trivial)
            have HE : Hid (diffE A B = 0) := hid (by unfold diffE; rw [if_pos HOK.out])
            clear hown
            go_wp2
            go_ret2
            exact ⟨u6, by rw [HE.out]; rfl, hres, hbl⟩
      · have HX : Hid (¬ diffOk A B) := hid (fun q => h3 q.2.2.1)
        have d3 : ((A.length : Int) != (B.length : Int)) = true := bneT (by omega)
        clear h3
        go_enter Try.func7, Try.ntmps7
        go_wp2_with fail
        refine (CA _ hu0).out.mono ?_
        rintro e w1 ⟨rfl, n1, rfl⟩
        rw [HD1.out]
        go_wp2_with fail
        refine (CB _ (hv0.keep (KeepS.below (below_drewN (Below.refl _ _) _)))).out.mono ?_
        rintro e w1 ⟨rfl, n2, rfl⟩
        rw [HD2.out]
        go_wp2
        go_ret2
        exact ⟨.slice none 0 0, by unfold diffE; rw [if_neg HX.out]; rfl, by unfold diffC; rw [if_neg HX.out]; exact ChV.nil _ _, below_drewN (Below.refl _ _) _⟩
    · have HX : Hid (¬ diffOk A B) := hid (fun q => h2 q.2.1)
      have HD := hid (decide_eq_false h2)
      clear h2
      go_enter Try.func7, Try.ntmps7
      go_wp2_with fail
      refine (CA _ hu0).out.mono ?_
      rintro e w1 ⟨rfl, n1, rfl⟩
      rw [HD1.out]
      go_wp2_with fail
      refine (CB _ (hv0.keep (KeepS.below (below_drewN (Below.refl _ _) _)))).out.mono ?_
      rintro e w1 ⟨rfl, n2, rfl⟩
      rw [HD.out]
      go_wp2
      go_ret2
      exact ⟨.slice none 0 0, by unfold diffE; rw [if_neg HX.out]; rfl, by unfold diffC; rw [if_neg HX.out]; exact ChV.nil _ _, below_drewN (Below.refl _ _) _⟩
  · have HX : Hid (¬ diffOk A B) := hid (fun q => h1 q.1)
    have HD := hid (decide_eq_false h1)
    clear h1
    go_enter Try.func7, Try.ntmps7
    go_wp2_with fail
    refine (CA _ hu0).out.mono ?_
    rintro e w1 ⟨rfl, n1, rfl⟩
    rw [HD.out]
    go_wp2
    go_ret2
    exact ⟨.slice none 0 0, by unfold diffE; rw [if_neg HX.out]; rfl, by unfold diffC; rw [if_neg HX.out]; exact ChV.nil _ _, below_drewN (Below.refl _ _) _⟩

end Go.Proofs.Yteepdnamkcgndaa

namespace Go.Proofs.Yteepdnamkcgndaa
open Go.RowKit

set_option maxHeartbeats 1000000 in
/-- The closure: does a record not fit? -/
theorem bad_any (rows : List (List Int)) (r : List Int) (h0 : 0 < rows.length) (u : Value) (g : Nat) (v : Value) (S T : Nat → Prop) (w : World) (hu : IntsV S w u r) (hg : w.cell? ⟨g, 0, none⟩ = some v) (hv : RowsV T w v rows) :
    Calls Try.prog 57 #[u, .pointer (some ⟨g, 0, none⟩)] w fun e w' => e = .returned (.bool (!decide (RowOk rows r))) ∧ w = w' := by
  have hv0 := hv
  obtain ⟨ar, cr, rfl, -, -, -⟩ := hu.form
  obtain ⟨ak, ck, rfl, hokk, hcapk, hmaxk⟩ := hv.form
  clear hv hu
  obtain ⟨u0, hc0, hb0, hr0⟩ := hv0.at h0
  have HH := hid (headD_eq ([] : List Int) h0)
  have HR : Hid (decide (RowOk rows r) = (decide (1 ≤ r.length) && (decide (r.length ≤ 10) && decide (r.length = (rows.headD []).length)))) := hid (by unfold RowOk; simp)
  rw [HH.out] at HR
  rw [Nat.add_zero] at hc0
  generalize rows[0] = r0 at *
  obtain ⟨a0, c0, rfl, -, -, -⟩ := hr0.form
  clear hr0 HH
  by_cases h3 : r.length = r0.length
  · have d3 : ((r.length : Int) != (r0.length : Int)) = false := bneF (by omega)
    by_cases h1 : r.length < 1
    · have d1 : decide ((r.length : Int) < 1) = true := decide_eq_true (by omega)
      have HF : Hid ((!decide (RowOk rows r)) = true) := hid (by rw [HR.out, decide_eq_false (show ¬ 1 ≤ r.length by omega)]; rfl)
      clear h1 h3 HR
      go_enter Try.func57, Try.ntmps57
      go_wp2
      go_ret
      exact ⟨ret_bool HF.out.symm, rfl⟩
    · have d1 : decide ((r.length : Int) < 1) = false := decide_eq_false (by omega)
      by_cases h2 : 10 < r.length
      · have d2 : decide ((10 : Int) < r.length) = true := decide_eq_true (by omega)
        have HF : Hid ((!decide (RowOk rows r)) = true) := hid (by rw [HR.out, decide_eq_false (show ¬ r.length ≤ 10 by omega)]; simp)
        clear h1 h3 HR
        go_enter Try.func57, Try.ntmps57
        go_wp2
        go_ret
        exact ⟨ret_bool HF.out.symm, rfl⟩
      · have d2 : decide ((10 : Int) < r.length) = false := decide_eq_false (by omega)
        have HF : Hid ((!decide (RowOk rows r)) = false) := hid (by rw [HR.out, decide_eq_true (show r.length ≤ 10 by omega), decide_eq_true (show 1 ≤ r.length by omega), decide_eq_true h3]; rfl)
        clear h1 h3 HR
        go_enter Try.func57, Try.ntmps57
        go_wp2
        go_ret
        exact ⟨ret_bool HF.out.symm, rfl⟩
  · have d3 : ((r.length : Int) != (r0.length : Int)) = true := bneT (by omega)
    have HF : Hid ((!decide (RowOk rows r)) = true) := hid (by rw [HR.out, decide_eq_false h3]; simp)
    clear h3 HR
    go_enter Try.func57, Try.ntmps57
    go_wp2
    go_ret
    exact ⟨ret_bool HF.out.symm, rfl⟩

def allOk (rows : List (List Int)) : Prop := ∀ r ∈ rows, RowOk rows r
instance (rows : List (List Int)) : Decidable (allOk rows) := by unfold allOk; exact inferInstance

set_option maxHeartbeats 1000000 in
theorem indexF_any (rows : List (List Int)) (g : Nat) (v : Value) (T : Nat → Prop) (w : World) (hg : w.cell? ⟨g, 0, none⟩ = some v) (hv : RowsV T w v rows) :
    Calls Try.prog 73 #[v, .func (.func 57) #[] #[.pointer (some ⟨g, 0, none⟩)]] w fun e w' => ∃ i : Int, e = .returned (.int .i64 i) ∧ decide (0 ≤ i) = (!decide (allOk rows)) ∧ w = w' := by
  have hv0 := hv
  obtain ⟨ak, ck, rfl, hokk, hcapk, hmaxk⟩ := hv.form
  clear hv
  go_enter Try.func73, Try.ntmps73
  go_wp2
  go_loopw [8] (fun i wr => ∃ k : Nat, k ≤ rows.length ∧ i = .int .i64 k ∧ Hid (∀ r ∈ rows.take k, RowOk rows r) ∧ w = wr) (fun i _ => rows.length - (intOf i).toNat)
  case atStart => exact ⟨0, Nat.zero_le _, rfl, hid (by simp), rfl⟩
  case round =>
    obtain ⟨k, hk, rfl, hall, rfl⟩ := hrel
    by_cases hlt : k < rows.length
    · obtain ⟨ur, hcr, hbr, hrr⟩ := hv0.at hlt
      have HS := hid (bad_any rows rows[k] (by omega) ur g _ T T w hrr hg hv0)
      have HA : Hid (RowOk rows rows[k] → ∀ r ∈ rows.take (k + 1), RowOk rows r) := hid (fun p => forall_take_succ hlt hall.out p)
      have HN : Hid (¬ RowOk rows rows[k] → ¬ allOk rows) := hid (fun p q => p (q _ (List.getElem_mem hlt)))
      generalize rows[k] = r at *
      obtain ⟨ar, cr, rfl, -, -, -⟩ := hrr.form
      clear hrr
      by_cases hok : RowOk rows r
      · have HD := hid (decide_eq_true hok)
        have HT := hid (HA.out hok)
        clear hok HA HN
        go_wp2_with fail
        refine HS.out.mono ?_
        rintro e w' ⟨rfl, rfl⟩
        rw [HD.out]
        go_wp2
        go_roundw
        case rel => exact ⟨k + 1, by omega, by go_num, HT, trivial⟩
        case measure => simp [intOf]; omega
      · have HD := hid (decide_eq_false hok)
        have HT := hid (HN.out hok)
        clear hok HA HN
        go_wp2_with fail
        refine HS.out.mono ?_
        rintro e w' ⟨rfl, rfl⟩
        rw [HD.out]
        go_wp2
        go_ret
        exact ⟨(k : Int), rfl, by rw [decide_eq_true (by omega), decide_eq_false HT.out]; rfl, rfl⟩
    · obtain rfl : k = rows.length := by omega
      have HT : Hid (allOk rows) := hid (by have := hall.out; rw [List.take_length] at this; exact this)
      go_wp2
      go_ret
      exact ⟨-1, rfl, by rw [decide_eq_false (by omega), decide_eq_true HT.out]; rfl, rfl⟩

set_option maxHeartbeats 1000000 in
theorem containsF_any (rows : List (List Int)) (g : Nat) (v : Value) (T : Nat → Prop) (w : World) (hg : w.cell? ⟨g, 0, none⟩ = some v) (hv : RowsV T w v rows) :
    Calls Try.prog 56 #[v, .func (.func 57) #[] #[.pointer (some ⟨g, 0, none⟩)]] w fun e w' => e = .returned (.bool (!decide (allOk rows))) ∧ w = w' := by
  have HS := hid (indexF_any rows g v T w hg hv)
  go_enter Try.func56, Try.ntmps56
  go_wp2_with fail
  refine HS.out.mono ?_
  rintro e w' ⟨i, rfl, hi, rfl⟩
  have HI := hid hi
  clear hi
  go_wp2
  go_ret
  exact ⟨ret_bool HI.out, rfl⟩

set_option maxHeartbeats 1000000 in
theorem shapedP_any (W : List (List (List Int))) (hW : Small W) (u : Value) (T : Nat → Prop) (w : World) (hu : WorldV T w u W) :
    Calls Try.prog 34 #[u] w fun e w' => e = .returned (.bool (decide (ShapedW W))) ∧ Below w.heap.size w w' := by
  have hu0 := hu
  obtain ⟨a, cap, rfl, hok, hcap, hmax⟩ := hu.form
  clear hu
  have hn := hW.1
  go_enter Try.func34, Try.ntmps34
  go_wp2
  go_loopw [3, 8] (fun c i wr => ∃ k t : Nat, k ≤ W.length ∧ i = .int .i64 k ∧ c = .int .i64 t ∧ t ≤ 100000 * k ∧ Hid (t = total (W.take k)) ∧ Hid (∀ rows ∈ W.take k, allOk rows) ∧ Below w.heap.size w wr) (fun _ i _ => W.length - (intOf i).toNat)
  case atStart => exact ⟨0, 0, by omega, rfl, rfl, by omega, hid (by simp [total]), hid (by simp), Below.refl _ _⟩
  case round =>
    obtain ⟨k, t, hk, rfl, rfl, htk, ht, hall, hb⟩ := hrel
    by_cases hlt : k < W.length
    · have hu1 : WorldV T wr (.slice a W.length cap) W := hu0.keep (KeepS.below hb)
      obtain ⟨uk, hck, hbk, hrk⟩ := hu1.at hlt
      have hWk := hW.2 _ (List.getElem_mem hlt)
      have HT := hid (total_succ hlt)
      have HA : Hid (allOk W[k] → ∀ rows ∈ W.take (k + 1), allOk rows) := hid (fun p => forall_take_succ hlt hall.out p)
      have HN : Hid (¬ allOk W[k] → ¬ ShapedW W) := hid (fun p q => p (q.1 _ (List.getElem_mem hlt)))
      generalize W[k] = rows at *
      have hrows := hWk.1
      have ha1 : ∀ o, Below wr.heap.size wr (wr.alloc o) := fun o => (Below.refl _ _).alloc (Nat.le_refl _) o
      have HS : ∀ ty, Hid (Calls Try.prog 56 #[uk, .func (.func 57) #[] #[.pointer (some ⟨wr.heap.size, 0, none⟩)]] (wr.alloc (.cells #[uk] ty)) fun e w' => e = .returned (.bool (!decide (allOk rows))) ∧ wr.alloc (.cells #[uk] ty) = w') := fun ty =>
        hid (containsF_any rows wr.heap.size uk T _ (by simp) (RowsV.keep hrk (KeepS.below (ha1 _))))
      obtain ⟨ak, ck, rfl, hokk, hcapk, hmaxk⟩ := hrk.form
      clear hrk
      by_cases hok1 : allOk rows
      · have HD := hid (decide_eq_true hok1)
        have HT2 := hid (HA.out hok1)
        have HT3 : Hid (t + rows.length = total (W.take (k + 1))) := hid (by rw [HT.out, ht.out])
        clear HA HN hok1
        go_wp2_with fail
        refine (HS _).out.mono ?_
        rintro e w' ⟨rfl, rfl⟩
        rw [HD.out]
        have hb2 := hb.trans ((ha1 (.cells #[.slice ak rows.length ck] 46)).mono hb.size)
        clear ha1 hck HS
        go_wp2
        go_roundw
        case rel => exact ⟨k + 1, t + rows.length, by omega, by go_num, by go_num, by omega, HT3, HT2, hb2⟩
        case measure => simp [intOf]; omega
      · have HD := hid (decide_eq_false hok1)
        have HF := hid (HN.out hok1)
        clear HA HN hok1
        go_wp2_with fail
        refine (HS _).out.mono ?_
        rintro e w' ⟨rfl, rfl⟩
        rw [HD.out]
        have hb2 := hb.trans ((ha1 (.cells #[.slice ak rows.length ck] 46)).mono hb.size)
        clear ha1 hck HS
        go_wp2
        go_ret
        exact ⟨ret_bool (decide_eq_false HF.out).symm, hb2⟩
    · obtain rfl : k = W.length := by omega
      have hall1 := hall.out
      have ht1 := ht.out
      rw [List.take_length] at hall1 ht1
      have HF : Hid (decide (ShapedW W) = (decide ((W.length : Int) ≤ 6) && decide ((t : Int) ≤ 512))) := hid (by
        rw [← Bool.decide_and]
        refine decide_eq_decide.2 ⟨fun q => ⟨by have := q.2.1; omega, by have := q.2.2; omega⟩, fun q => ⟨hall1, by have := q.1; omega, by have := q.2; omega⟩⟩)
      clear hall ht hall1 ht1
      by_cases h1 : (W.length : Int) ≤ 6
      · go_wp2
        go_ret
        exact ⟨ret_bool (by rw [HF.out, decide_eq_true h1]; rfl), hb⟩
      · go_wp2
        go_ret
        exact ⟨ret_bool (by rw [HF.out, decide_eq_false (by omega)]; rfl), hb⟩

end Go.Proofs.Yteepdnamkcgndaa

namespace Go.Proofs.Yteepdnamkcgndaa
open Go.RowKit

/-- How many values are set up to the record m. -/
def setsN (a b : List (List Int)) (m : Nat) : Nat := (sets 0 a b m).length
def sameM (a b : List (List Int)) : Nat → Nat × Nat
  | 0 => (a.length + b.length, 0)
  | i + 1 => if setsN a b (i + 1) + a.length + b.length - 2 * (i + 1) ≤ (sameM a b i).1 then (setsN a b (i + 1) + a.length + b.length - 2 * (i + 1), i + 1) else sameM a b i
def sameL (a b : List (List Int)) : Nat := (sameM a b (min a.length b.length)).2

theorem setAt_some {kind i kind' i' : Int} {r s : List Int} {k : Nat} : (setAt kind i r s k).isSome = (setAt kind' i' r s k).isSome := by
  unfold setAt; split <;> rfl
theorem filt_len {kind i kind' i' : Int} {r s : List Int} (n : Nat) : ((List.range n).filterMap (setAt kind i r s)).length = ((List.range n).filterMap (setAt kind' i' r s)).length := by
  induction n with
  | zero => rfl
  | succ n ih =>
    rw [List.range_succ, List.filterMap_append, List.filterMap_append, List.length_append, List.length_append, ih]
    congr 1
    have h := setAt_some (kind := kind) (i := i) (kind' := kind') (i' := i') (r := r) (s := s) (k := n)
    cases h1 : setAt kind i r s n <;> cases h2 : setAt kind' i' r s n <;> simp [h1, h2] at h ⊢
theorem sets_len_eq (kind : Int) (a b : List (List Int)) : ∀ m, (sets kind a b m).length = setsN a b m
  | 0 => by simp [sets, setsN]
  | m + 1 => by
    have ih := sets_len_eq kind a b m
    unfold setsN at ih ⊢
    rw [sets_succ, sets_succ, List.length_append, List.length_append, ih]
    congr 1
    unfold setR
    exact filt_len _
theorem setsN_succ (a b : List (List Int)) (m : Nat) : setsN a b (m + 1) = setsN a b m + ((List.range (a.getD m []).length).filterMap (setAt 0 0 (a.getD m []) (b.getD m []))).length := by
  unfold setsN
  rw [sets_succ, List.length_append]
  congr 1
  unfold setR
  exact filt_len _
theorem listL_length {kind : Int} {a b : List (List Int)} {m : Nat} (h1 : m ≤ a.length) (h2 : m ≤ b.length) : (listL kind a b m).length = setsN a b m + a.length + b.length - 2 * m := by
  unfold listL takes adds
  simp only [List.length_append, List.length_map, List.length_range, sets_len_eq]
  omega
/-- The best changes are those up to the record that same tells. -/
theorem best_same {kind : Int} {a b : List (List Int)} : ∀ i, i ≤ a.length → i ≤ b.length → (sameM a b i).2 ≤ i ∧ bestM kind a b i = listL kind a b (sameM a b i).2 ∧ (sameM a b i).1 = (bestM kind a b i).length
  | 0, _, _ => by
    refine ⟨Nat.le_refl _, rfl, ?_⟩
    show a.length + b.length = (listL kind a b 0).length
    rw [listL_length (Nat.zero_le _) (Nat.zero_le _)]
    simp [setsN, sets]
  | i + 1, h1, h2 => by
    obtain ⟨g1, g2, g3⟩ := best_same (kind := kind) (a := a) (b := b) i (by omega) (by omega)
    have hl := listL_length (kind := kind) (a := a) (b := b) h1 h2
    unfold sameM bestM
    rw [g3, hl]
    split
    · exact ⟨Nat.le_refl _, rfl, hl.symm⟩
    · exact ⟨by omega, g2, g3⟩
theorem kindDiff_eq (kind : Int) (a b : List (List Int)) : kindDiff kind a b = listL kind a b (sameL a b) ∧ sameL a b ≤ a.length ∧ sameL a b ≤ b.length := by
  obtain ⟨g1, g2, _⟩ := best_same (kind := kind) (a := a) (b := b) (min a.length b.length) (by omega) (by omega)
  unfold sameL
  exact ⟨g2, by omega, by omega⟩

theorem setsN_le (a b : List (List Int)) (ha : ∀ r ∈ a, r.length ≤ 10) (m : Nat) : setsN a b m ≤ 10 * m := sets_len 0 a b ha m

set_option maxHeartbeats 2000000 in
theorem same_any (a b : List (List Int)) (ha : a.length ≤ 512) (hb : b.length ≤ 512) (ha10 : ∀ r ∈ a, r.length ≤ 10) (hab : ∀ i (h1 : i < a.length) (h2 : i < b.length), a[i].length ≤ b[i].length) (u v : Value) (S T : Nat → Prop) (w : World) (hu : RowsV S w u a) (hv : RowsV T w v b) :
    Calls Try.prog 36 #[u, v] w fun e w' => e = .returned (.int .i64 (sameL a b)) ∧ w = w' := by
  have hu0 := hu
  have hv0 := hv
  obtain ⟨aa, ca, rfl, hoka, hcapa, hmaxa⟩ := hu.form
  obtain ⟨ab, cb, rfl, hokb, hcapb, hmaxb⟩ := hv.form
  clear hu hv
  obtain ⟨mn, hmn⟩ : ∃ mn, mn = min a.length b.length := ⟨_, rfl⟩
  have hmn1 : mn ≤ a.length := by omega
  have hmn2 : mn ≤ b.length := by omega
  have HMN : Hid (sameL a b = (sameM a b mn).2) := hid (by unfold sameL; rw [hmn])
  have HM3 : Hid ((min (a.length : Int) (b.length : Int)) = (mn : Int)) := hid (by omega)
  have HB1 := hid (fun i (h : i ≤ mn) => (best_same (kind := 0) (a := a) (b := b) i (by omega) (by omega)).1)
  have HB2 : Hid (∀ i, i ≤ mn → (sameM a b i).1 ≤ 7000) := hid (fun i h => by
    rw [(best_same (kind := 0) (a := a) (b := b) i (by omega) (by omega)).2.2]
    have := bestM_len (kind := 0) (b := b) ha10 i (by omega)
    omega)
  rcases Nat.lt_or_ge b.length a.length with hle | hle
  case' inl => have hmn3 : b.length ≤ mn := by omega
  case' inr => have hmn3 : a.length ≤ mn := by omega
  all_goals
    clear hmn
    go_enter Try.func36, Try.ntmps36
    go_wp2
    go_loopw [5, 6, 7, 22] (fun be m c i wr => ∃ k : Nat, k ≤ mn ∧ i = .int .i64 k ∧ be = .int .i64 ((sameM a b k).1 : Nat) ∧ m = .int .i64 ((sameM a b k).2 : Nat) ∧ c = .int .i64 (setsN a b k : Nat) ∧ w = wr) (fun _ _ _ i _ => mn - (intOf i).toNat)
    case atStart => exact ⟨0, Nat.zero_le _, rfl, by simp [sameM], by simp [sameM], by simp [setsN, sets], rfl⟩
    case round =>
      obtain ⟨k, hk, rfl, rfl, rfl, rfl, rfl⟩ := hrel
      by_cases hlt : k < mn
      · have hia : k < a.length := by omega
        have hib : k < b.length := by omega
        have hab1 := hab k hia hib
        have hr10 := ha10 _ (List.getElem_mem hia)
        have HT := hid (setsN_succ a b k)
        have HS : Hid (sameM a b (k + 1) = if setsN a b (k + 1) + a.length + b.length - 2 * (k + 1) ≤ (sameM a b k).1 then (setsN a b (k + 1) + a.length + b.length - 2 * (k + 1), k + 1) else sameM a b k) := hid rfl
        have hsn1 := setsN_le a b ha10 k
        have hsn2 := setsN_le a b ha10 (k + 1)
        have hb1 := HB1.out k hk
        have hb2 := HB2.out k hk
        rw [getD_eq hia, getD_eq hib] at HT
        obtain ⟨ur, hcr, hbr, hrr⟩ := hu0.at hia
        obtain ⟨vr, hdr, hbr', hsr⟩ := hv0.at hib
        generalize a[k] = r at *
        generalize b[k] = s at *
        generalize hsn1e : setsN a b (k + 1) = sn1 at *
        have HSN1 := hid hsn1e
        clear hsn1e
        generalize setsN a b k = sn at *
        generalize hsm1e : sameM a b (k + 1) = sm1 at *
        have HSM1 := hid hsm1e
        clear hsm1e
        generalize sameM a b k = sm at *
        obtain ⟨be, m⟩ := sm
        simp only at hb1 hb2
        have hrr0 := hrr
        have hsr0 := hsr
        obtain ⟨ar, cr, rfl, hokr, hcapr, hmaxr⟩ := hrr.form
        obtain ⟨br, dr, rfl, hoks, hcaps, hmaxs⟩ := hsr.form
        clear hrr hsr hab
        have hi0 : (0 : Int) ≤ k := by omega
        have hi1 : (k : Int) < a.length := by omega
        have hi2 : (k : Int) < b.length := by omega
        go_wp2
        go_loopw [7, 30] (fun c j w2 => ∃ q : Nat, q ≤ r.length ∧ j = .int .i64 q ∧ c = .int .i64 ((sn + ((List.range q).filterMap (setAt 0 0 r s)).length : Nat) : Int) ∧ w = w2) (fun _ j _ => r.length - (intOf j).toNat)
        case atStart => exact ⟨0, by omega, rfl, by simp, rfl⟩
        case round =>
          obtain ⟨q, hq, rfl, rfl, rfl⟩ := hrel
          by_cases hqr : q < r.length
          · obtain ⟨x1, hx1, hbx, hx2⟩ := SlV.at hrr0 hqr
            obtain ⟨y1, hy1, hby, hy2⟩ := SlV.at hsr0 (show q < s.length by omega)
            have hf : setAt 0 0 r s q = if r[q] = s[q]'(by omega) then none else some ⟨0, 0, q, r[q], s[q]'(by omega), []⟩ := by
              unfold setAt; rw [getD_eq hqr, getD_eq (show q < s.length by omega)]
            have hfl : ((List.range q).filterMap (setAt 0 0 r s)).length ≤ q := by
              have := List.length_filterMap_le (setAt 0 0 r s) (List.range q)
              simpa using this
            generalize r[q] = x at *
            generalize s[q]'(by omega) = y at *
            subst hx2; subst hy2
            have hk0 : (0 : Int) ≤ q := by omega
            have hk1 : (q : Int) < r.length := by omega
            have hk2 : (q : Int) < s.length := by omega
            by_cases hxy : x = y
            · have HE := hid (filt_succ_none (f := setAt 0 0 r s) (k := q) (by rw [hf, if_pos hxy]))
              have hd : (y != x) = false := bneF hxy.symm
              rw [HE.out] at hfl ⊢
              generalize hfl2 : ((List.range (q + 1)).filterMap (setAt 0 0 r s)).length = fl at *
              have HFL := hid hfl2
              clear hf HE hxy hfl2
              go_wp2
              go_roundw
              case rel => exact ⟨q + 1, by omega, by go_num, by rw [HFL.out], by first | rfl | trivial⟩
              case measure => simp [intOf]; omega
            · have HE := hid (filt_succ_some (f := setAt 0 0 r s) (k := q) (by rw [hf, if_neg hxy]))
              have hd : (y != x) = true := bneT (fun e => hxy e.symm)
              have HFL : Hid (((List.range q).filterMap (setAt 0 0 r s)).length + 1 = ((List.range (q + 1)).filterMap (setAt 0 0 r s)).length) := hid (by rw [← HE.out, List.length_append]; rfl)
              clear hf HE hxy
              generalize ((List.range q).filterMap (setAt 0 0 r s)).length = fl at *
              go_wp2
              go_roundw
              case rel => exact ⟨q + 1, by omega, by go_num, by rw [← HFL.out]; go_num, by first | rfl | trivial⟩
              case measure => simp [intOf]; omega
          · obtain rfl : q = r.length := by omega
            have hle2 := List.length_filterMap_le (setAt 0 0 r s) (List.range r.length)
            simp only [List.length_range] at hle2
            generalize ((List.range r.length).filterMap (setAt 0 0 r s)).length = fl at *
            have HT1 : sn1 = sn + fl := HT.out
            subst HT1
            clear HT
            by_cases hle3 : sn + fl + a.length + b.length - 2 * (k + 1) ≤ be
            · have HS1 : Hid ((sm1.1 : Int) = (sn : Int) + fl + a.length + b.length - 2 * (k + 1) ∧ sm1.2 = k + 1) := hid (by rw [HS.out, if_pos hle3]; exact ⟨by simp only []; omega, rfl⟩)
              have hle4 : (sn : Int) + fl + a.length + b.length - 2 * (k + 1) ≤ be := by omega
              clear HS hle3
              go_wp2
              go_roundw
              case rel => exact ⟨k + 1, by omega, by go_num, by rw [HSM1.out, HS1.out.1], by rw [HSM1.out, HS1.out.2]; go_num, by rw [HSN1.out], by first | rfl | trivial⟩
              case measure => simp [intOf]; omega
            · have HS1 : Hid (sm1 = (be, m)) := hid (by rw [HS.out, if_neg hle3])
              have hle4 : ¬ (sn : Int) + fl + a.length + b.length - 2 * (k + 1) ≤ be := by omega
              clear HS hle3
              go_wp2
              go_roundw
              case rel => exact ⟨k + 1, by omega, by go_num, by rw [HSM1.out, HS1.out], by rw [HSM1.out, HS1.out], by rw [HSN1.out], by first | rfl | trivial⟩
              case measure => simp [intOf]; omega
      · obtain rfl : k = mn := by omega
        go_wp2
        go_ret
        exact ⟨by rw [HMN.out]; rfl, rfl⟩

end Go.Proofs.Yteepdnamkcgndaa

namespace Go.Proofs.Yteepdnamkcgndaa
open Go.RowKit

set_option maxHeartbeats 1000000 in
theorem clone_any (xs : List Int) (hx : xs.length ≤ 100000) (v : Value) (S : Nat → Prop) (w : World) (hv : IntsV S w v xs) :
    Calls Try.prog 28 #[v] w fun e w' => ∃ x, e = .returned x ∧ IntsF (w.heap.size ≤ ·) w' x xs ∧ Below w.heap.size w w' := by
  have hv0 := hv
  obtain ⟨a, cap, rfl, hok, hcap, hmax⟩ := hv.form
  clear hv
  cases a with
  | none =>
    have hz : xs = [] := by
      rcases Nat.eq_zero_or_pos xs.length with h | h
      · exact List.eq_nil_of_length_eq_zero h
      · obtain ⟨b, o, e⟩ := hok h; cases e
    subst hz
    have hq : ∀ W, (binOp .eql 22 (.slice none 0 cap) (.slice none 0 0)).run Try.prog W = .ok (.bool true) W := fun W => Lib.run_eql_slice_nil W 22 3 none 0 cap 0 0 (by kernel_rfl)
    go_enter Try.func28, Try.ntmps28
    go_wp2
    go_ret
    exact ⟨_, rfl, IntsF.nil _ _, Below.refl _ _⟩
  | some ad =>
    have hq : ∀ W, (binOp .eql 22 (.slice (some ad) xs.length cap) (.slice none 0 0)).run Try.prog W = .ok (.bool false) W := fun W => Lib.run_eql_slice_nil W 22 3 (some ad) xs.length cap 0 0 (by kernel_rfl)
    have hI : IntsF (w.heap.size ≤ ·) (w.alloc (.cells #[] 3)) (.slice (some ⟨w.heap.size, 0, none⟩) 0 0) [] :=
      ⟨World.ownsRow_made w #[] 0 (Nat.zero_le _) (Nat.zero_le _) (by simp), fun b hb => by simp [Value.ownBlock] at hb; omega⟩
    have hrr1 : IntsV S (w.alloc (.cells #[] 3)) (.slice (some ad) xs.length cap) xs := IntsV.keep hv0 (KeepS.below ((Below.refl _ _).alloc (Nat.le_refl _) _))
    go_enter Try.func28, Try.ntmps28
    go_wp2_with (at_builtin; go_must (refine wpList_appI rfl _ _ rfl Try.app22 rfl hI (Below.refl _ _) rfl hrr1 (by simp; omega) ?_))
    intro v1 w1 hI1 ht1
    have hI2 : IntsF (w.heap.size ≤ ·) w1 v1 xs := by
      have := steady_intsF.mono hI1 (fun b _ hb => grow_from (by simp) b hb)
      simpa using this
    have hb3 : Below w.heap.size w w1 := ((Below.refl _ _).alloc (Nat.le_refl _) _).trans (ht1.below (by simp) (fun b hb => by simp [Value.ownBlock] at hb; omega))
    clear hI hI1 hrr1 ht1 hq
    go_wp2
    go_ret
    exact ⟨_, rfl, hI2, hb3⟩

end Go.Proofs.Yteepdnamkcgndaa
