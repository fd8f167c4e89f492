/- Least of the program, on valid problems. -/
import Derived.Test.YtjaejnacdanpkaaDoorC40
import Derived.Test.YtjaejnacdanpkaaDoorB25
import Derived.Test.YtjaejnacdanpkaaDoorB31
import Derived.Test.YtjaejnacdanpkaaDoorBCov
import Derived.Maps.RangeWalk
namespace Go.Proofs.YtjaejnacdanpkaaDoor
open Go.RowKit

attribute [local go_sem] Oper.semAt_some

theorem sub_back {α : Type} (l m : List α) (hl : l.Nodup) (h : ∀ x ∈ l, x ∈ m) (hlen : m.length ≤ l.length) : ∀ x ∈ m, x ∈ l := by
  classical
  intro x hx
  by_cases hxl : x ∈ l
  · exact hxl
  · have := nodup_len (x :: l) m (List.nodup_cons.2 ⟨hxl, hl⟩) (fun y hy => by
      rcases List.mem_cons.1 hy with rfl | hy
      · exact hx
      · exact h y hy)
    simp at this
    omega

/-- Every key of a map of combinations is one of them. -/
theorem MapS.open {m : Nat} (hm : m ≤ 8) {w : World} {b : Nat} {S : List (List Int)} (h : MapS m w b S) :
    ∃ D : DataW Nat, w.ownsMap Tryd.prog 69 (plainElem Tryd.prog 4) b S.length D ∧ (∀ c ∈ S, Maps.has D (klc c) = true) ∧ ∀ kl, Maps.has D kl = true → ∃ c ∈ S, kl = klc c := by
  obtain ⟨D, h1, h2, h3, h4, h5⟩ := h
  refine ⟨D, h1, fun c hc => by rw [(h5 c (h3 c hc)).1]; exact decide_eq_true hc, fun kl hk => ?_⟩
  obtain ⟨es, rfl, hp⟩ := h1.tidy lawK
  have hsub : ∀ x ∈ S.map klc, x ∈ es.map (·.1) := by
    intro x hx
    obtain ⟨c, hc, rfl⟩ := List.mem_map.1 hx
    have := (h5 c (h3 c hc)).1
    rw [decide_eq_true hc, Maps.has_eq, List.any_eq_true] at this
    obtain ⟨p, hp, hk⟩ := this
    exact List.mem_map.2 ⟨p, hp, WideAt.sameKey_eq hk⟩
  have hnd : (S.map klc).Nodup := by
    unfold List.Nodup
    rw [List.pairwise_map]
    exact h2.imp_of_mem (fun {a b} ha hb hne e => hne (klc_inj hm (h3 a ha) (h3 b hb) e))
  have hback := sub_back (S.map klc) (es.map (·.1)) hnd hsub (by rw [Maps.size_eq] at h4; simp [h4])
  rw [Maps.has_eq, List.any_eq_true] at hk
  obtain ⟨p, hp, hk⟩ := hk
  obtain ⟨c, hc, e⟩ := List.mem_map.1 (hback p.1 (List.mem_map.2 ⟨p, hp, rfl⟩))
  exact ⟨c, hc, by rw [e]; exact (WideAt.sameKey_eq hk).symm⟩

theorem ranges_same {P : Program} {k : TypeId} {R : Value → Option (DataW Nat × List MemPlace)} {w w' : World} {b r n : Nat} {D : DataW Nat} {left : Lit → Bool} {cnt : Nat} (h : w.ranges P k R b r n D left cnt)
    (hb : w'.heap[b]? = w.heap[b]?) (hr : w'.heap[r]? = w.heap[r]?) : w'.ranges P k R b r n D left cnt := by
  obtain ⟨es, clock, since, seen, c0, h1, h2, h3, h4, h5, rest⟩ := h
  exact ⟨es, clock, since, seen, c0, by rw [hb]; exact h1, h2, h3, h4, by rw [hr]; exact h5, rest⟩

theorem supp_snoc : ∀ (l : List Int) (x : Int), Cov.supp (l ++ [x]) = Cov.supp l + (if 0 ≤ x then 2 ^ l.length else 0)
  | [], x => by simp [Cov.supp]
  | y :: l, x => by
    show (if 0 ≤ y then 1 else 0) + 2 * Cov.supp (l ++ [x]) = ((if 0 ≤ y then 1 else 0) + 2 * Cov.supp l) + (if 0 ≤ x then 2 ^ (y :: l).length else 0)
    rw [supp_snoc l x, List.length_cons, Nat.pow_succ]
    generalize 2 ^ l.length = q
    by_cases h : 0 ≤ x
    · simp only [if_pos h]; omega
    · simp only [if_neg h]; omega
theorem supp_rep (c : List Int) : ∀ n, Cov.supp (c ++ List.replicate n (-1)) = Cov.supp c
  | 0 => by simp
  | n + 1 => by
    rw [List.replicate_succ', ← List.append_assoc, supp_snoc, if_neg (by decide), supp_rep c n]; rfl
theorem supp_keyL (c : List Int) : Cov.supp (keyL c) = Cov.supp c := supp_rep c _

theorem index8 (x0 x1 x2 x3 x4 x5 x6 x7 : Int) (j : Nat) (x : Int) (h : [x0, x1, x2, x3, x4, x5, x6, x7][j]? = some x) (X : World) :
    (Instr.index 69 (.agg #[.int .i64 x0, .int .i64 x1, .int .i64 x2, .int .i64 x3, .int .i64 x4, .int .i64 x5, .int .i64 x6, .int .i64 x7]) (.int .i64 j)).run Tryd.prog X = .ok (.int .i64 x) X := by
  rcases j with _ | _ | _ | _ | _ | _ | _ | _ | j
  all_goals first | (simp at h; subst h; kernel_rfl) | (simp at h)

/-- Block b is a map that counts sets. -/
def CntM (w : World) (b n : Nat) (f : Nat → Nat) : Prop :=
  ∃ D : DataW Nat, w.ownsMap Tryd.prog 67 (plainElem Tryd.prog 3) b n D ∧ (∀ s : Nat, s < 256 → D.atKey (.int .u64 (s : Int)) (.lit (.int .i64 0)) = .lit (.int .i64 (f s))) ∧ ∀ s, f s ≤ n
theorem underU : Tryd.prog.underlying 67 = some (.int .u64) := by kernel_rfl
theorem underI : Tryd.prog.underlying 3 = some (.int .i64) := by kernel_rfl
theorem underM : Tryd.prog.underlying 80 = some (.map 67 3) := by kernel_rfl
theorem lawU : Maps.Keyed Tryd.prog 67 := Maps.int_keyed underU
theorem zeroI (w : World) : (zeroValue 3).run Tryd.prog w = .ok (.int .i64 0) w := by kernel_rfl
theorem wfU {s : Nat} (h : s < 256) : (Lit.int .u64 (s : Int)).wf = true := by
  have h1 : IntKind.u64.min = 0 := by decide
  have h2 : IntKind.u64.max = 18446744073709551615 := by decide
  simp only [Lit.wf, h1, h2]
  simp
  omega
theorem wfI {q : Nat} (h : q ≤ 1000000001) : (Lit.int .i64 (q : Int)).wf = true := by
  have h1 : IntKind.i64.min = -9223372036854775808 := by decide
  have h2 : IntKind.i64.max = 9223372036854775807 := by decide
  simp only [Lit.wf, h1, h2]
  simp
  omega
theorem CntM.made (w : World) : CntM (w.alloc (.map #[] 0)) w.heap.size 0 (fun _ => 0) :=
  ⟨.map [], World.ownsMap_made _ _ _ _, fun _ _ => rfl, fun _ => Nat.le_refl _⟩
theorem CntM.keep {w w' : World} {b n : Nat} {f : Nat → Nat} (h : CntM w b n f) (hk : w'.heap[b]? = w.heap[b]?) : CntM w' b n f := by
  obtain ⟨D, ⟨es, clock, hb, F, r⟩, r2⟩ := h
  exact ⟨D, ⟨es, clock, by rw [hk]; exact hb, F, r⟩, r2⟩
theorem CntM.obj {w : World} {b n : Nat} {f : Nat → Nat} (h : CntM w b n f) : ∃ es cl, w.heap[b]? = some (.map es cl) := by
  obtain ⟨D, ⟨es, clock, hb, _⟩, _⟩ := h
  exact ⟨_, _, hb⟩
theorem CntM.congr {w : World} {b n : Nat} {f g : Nat → Nat} (h : CntM w b n f) (he : ∀ s, f s = g s) : CntM w b n g := by
  have : f = g := funext he
  rw [← this]; exact h
theorem CntM.look {w : World} {b n : Nat} {f : Nat → Nat} (h : CntM w b n f) {s : Nat} (hs : s < 256) :
    (Instr.lookup 80 (.map (some b)) (.int .u64 (s : Int)) false).run Tryd.prog w = .ok (.int .i64 (f s : Int)) w := by
  obtain ⟨D, h1, h2, _⟩ := h
  obtain ⟨c, hrun, hat, _⟩ := h1.lookup_int lawU underM underI (zeroI w) (Maps.keyOf_int_mk underU (wfU hs))
  rw [h2 s hs] at hat
  have : (f s : Int) = c := by simpa using hat
  rw [this]
  exact hrun
theorem CntM.store {w : World} {b n : Nat} {f : Nat → Nat} (h : CntM w b n f) (hn : n ≤ 1000000000) {s : Nat} (hs : s < 256) :
    ∃ w', (Instr.mapUpdate 80 (.map (some b)) (.int .u64 (s : Int)) (.int .i64 ((f s : Int) + 1))).run Tryd.prog w = .ok () w' ∧ CntM w' b (n + 1) (fun x => if s = x then f s + 1 else f x) ∧ Turns (· = b) w w' := by
  obtain ⟨D, h1, h2, h3⟩ := h
  have hfs := h3 s
  have e1 : ((f s : Int) + 1) = ((f s + 1 : Nat) : Int) := by push_cast; rfl
  obtain ⟨w', hrun, hown, ht⟩ := h1.store lawU underM (small_lt hn) (Maps.keyOf_int_mk underU (wfU hs)) (plainElem_int underI (wfI (q := f s + 1) (by omega)))
  refine ⟨w', by rw [e1]; exact hrun, ⟨_, hown, fun x hx => ?_, fun x => ?_⟩, Turns.of_grown ht.grown (fun b' e => by cases e; rfl)⟩
  · show (D.put _ _).atKey _ _ = DataW.lit (Lit.int .i64 ((if s = x then f s + 1 else f x : Nat) : Int))
    by_cases e : s = x
    · subst e
      rw [if_pos rfl, Maps.atKey_put_same h1.isMap (lawU.key (Maps.keyOf_int_mk underU (wfU hs)))]
    · rw [if_neg e, Maps.atKey_put_other (by simpa using fun e' : (x : Int) = s => e (by omega)), h2 x hx]
  · by_cases e : s = x
    · simp only [if_pos e]; omega
    · simp only [if_neg e]; have := h3 x; omega

/-- How many of some combinations have values at the features of a set. -/
def cntN (l : List (List Int)) (s : Nat) : Nat := (l.filter fun d => decide (Cov.supp d = s)).length
theorem cntN_snoc (l : List (List Int)) (c : List Int) (s : Nat) : cntN (l ++ [c]) s = if Cov.supp c = s then cntN l (Cov.supp c) + 1 else cntN l s := by
  unfold cntN
  rw [List.filter_append, List.length_append]
  by_cases h : Cov.supp c = s
  · subst h; simp
  · rw [if_neg h]; simp [h]
theorem leastL_cnt (l : List (List Int)) (c : List Int) : ((Cov.leastL (l ++ [c]) : Nat) : Int) = max (Cov.leastL l : Int) ((cntN l (Cov.supp c) + 1 : Nat) : Int) := by
  rw [Cov.leastL_snoc]
  show ((max (Cov.leastL l) (cntN l (Cov.supp c) + 1) : Nat) : Int) = _
  omega

set_option maxRecDepth 100000 in
set_option maxHeartbeats 8000000 in
theorem pleast_any (ns : List Nat) (hns : ∀ n ∈ ns, n ≤ 8) (hl0 : 0 < ns.length) (hl : ns.length ≤ 8) (F : List (List Int)) (hF : GapsF ns.length F) (hFl : F.length ≤ 12) (tn : Nat) (htn : tn ≤ 100) (hv : validE (szI ns) F tn = 0) (sa : Option Addr) (sc : Nat) (fa : Option Addr) (fc : Nat) (S T : Nat → Prop) (w : World)
    (hsz : IntsV S w (.slice sa ns.length sc) (szI ns)) (hf : RowsV T w (.slice fa F.length fc) F) (hT : TabD w) :
    Calls Tryd.prog 20 #[.slice sa ns.length sc, .slice fa F.length fc, .int .i64 tn] w fun e w' => e = .returned (.tuple #[.int .i64 (Cov.leastL (Cov.openL ns F tn) : Nat), .int .i64 0]) ∧ Below w.heap.size w w' := by
  have hsz0 : IntsV (· < w.heap.size) w (.slice sa ns.length sc) (szI ns) := IntsV.mono hsz (fun b h _ => h)
  have hf0 : RowsV (· < w.heap.size) w (.slice fa F.length fc) F := RowsV.mono hf (fun b h _ => h)
  obtain ⟨sa', sc', es, hoks, hcaps, hmaxs⟩ := hsz.form
  rw [List.length_map] at es hoks hcaps
  cases es
  obtain ⟨fa', fc', ef, hokf, hcapf, hmaxf⟩ := hf.form
  cases ef
  obtain ⟨W1, hW1⟩ : ∃ W1, W1 = w.alloc (.cells #[.slice sa ns.length sc, .slice fa F.length fc, .int .i64 tn] 57) := ⟨_, rfl⟩
  have hb1 : Below w.heap.size w W1 := by rw [hW1]; exact (Below.refl _ _).alloc (Nat.le_refl _) _
  have hs1 : W1.heap.size = w.heap.size + 1 := by rw [hW1]; simp
  have p0 : W1.heap[w.heap.size]? = some (.cells #[.slice sa ns.length sc, .slice fa F.length fc, .int .i64 tn] 57 (0, 0)) := by rw [hW1]; exact heap_new _ _ rfl
  have HVal := hid (by have := pvalid_any (szI ns) (by simp; omega) F tn sa sc fa fc (· < w.heap.size) (· < w.heap.size) W1 (by simpa using hsz0.keep (KeepS.of_below hb1 (fun _ h => h))) (hf0.keep (KeepS.of_below hb1 (fun _ h => h))); rw [hv, List.length_map] at this; exact this)
  have HPos := hid (fun X (hb : Below w.heap.size w X) => ppossible_any ns hns hl0 hl F hF hFl tn htn sa sc fa fc (· < w.heap.size) (· < w.heap.size) X (hsz0.keep (KeepS.of_below hb (fun _ h => h))) (hf0.keep (KeepS.of_below hb (fun _ h => h))) (hT.below hb hT.lt))
  have H1 := hid (And.intro hb1 (And.intro hs1 p0))
  have HNS := hid hns
  clear hsz hf hsz0 hf0 hT hb1 p0 hF hns hs1 hv
  go_enter Tryd.func20, Tryd.ntmps20
  go_wp2_with fail
  rw [← hW1]
  clear hW1
  refine HVal.out.mono ?_
  rintro e W2 ⟨rfl, hb2⟩
  obtain ⟨hb1, hs1, p0⟩ := H1.out
  have r0 := (hb2.block _ (by omega)).trans p0
  have c0 := cell_of_row _ _ 0 _ _ (0, 0) r0
  have c1 := cell_of_row _ _ 1 _ _ (0, 0) r0
  have c2 := cell_of_row _ _ 2 _ _ (0, 0) r0
  simp only [List.getElem?_toArray, List.getElem?_cons_zero, List.getElem?_cons_succ] at c0 c1 c2
  have hbw2 : Below w.heap.size w W2 := hb1.trans (hb2.mono (by omega))
  have HP2 := hid (HPos.out W2 hbw2)
  have hs2 := hb2.size
  have H2 := hid (And.intro hbw2 (And.intro hs2 hs1))
  clear hb1 hs1 p0 r0 hbw2 hs2 hb2 HVal
  go_wp2_with fail
  refine HP2.out.mono ?_
  rintro e W3 ⟨bm, xr, SS, rfl, m1, m2, m3, m4, m5⟩
  obtain ⟨xa, xc, rfl, -, -, -⟩ := m3.form
  obtain ⟨hbw2, hs2, hs1⟩ := H2.out
  have hw3 : w.heap.size < W3.heap.size := by have := m5.size; omega
  have hbw3 : Below w.heap.size w W3 := hbw2.trans (m5.mono (by omega))
  have hbm : bm < W3.heap.size := m1.lt
  have hbm0 : w.heap.size ≤ bm := by omega
  have hSn := m1.nodup
  have hSk := m1.keyC
  obtain ⟨D, hD, hD2, hD3⟩ := m1.open hl
  have hown := hD.alloc (.map #[] 0)
  have HC0 := hid (CntM.made W3)
  have HB3 := hid (And.intro hbw3 (And.intro hSn (And.intro hSk (And.intro hD2 (And.intro hD3 m2)))))
  clear c0 c1 c2 HPos H1 H2 HP2 hbw2 hs2 hs1 hbw3 hSn hSk hD hD2 hD3 m1 m2 m3 m4 m5
  have hmm := @run_makeMap Tryd.prog
  go_wp2_with (first
    | (at_range; refine wpList_range_own _ rfl _ 59 rfl 69 4 lawK underK _ bm _ _ rfl hown ?_; intro w0 hrg0 hg0 hs0)
    | fail)
  go_frame
  obtain ⟨V0, hV0⟩ : ∃ V0, V0 = W3.alloc (.map #[] 0) := ⟨_, rfl⟩
  rw [← hV0] at hrg0 hg0 hs0 HC0
  have hz0 : V0.heap.size = W3.heap.size + 1 := by rw [hV0]; simp
  have hb0 : Below w.heap.size w V0 := by rw [hV0]; exact HB3.out.1.alloc (by omega) _
  obtain ⟨r, hr⟩ : ∃ r, r = V0.heap.size := ⟨_, rfl⟩
  obtain ⟨bc, hbc⟩ : ∃ bc, bc = W3.heap.size := ⟨_, rfl⟩
  rw [← hr] at hrg0 hs0
  have hrS : (W3.alloc (.map #[] 0)).heap.size = r := by rw [← hV0, hr]
  rw [hrS]
  rw [← hbc] at HC0 hz0 hw3 ⊢
  have ht0 : Turns (· = r) V0 w0 := Turns.of_grown hg0 (fun b hb => by cases hb)
  have hbw0 : Below w.heap.size w w0 := hb0.trans (ht0.below (by omega) (fun b hb => by rw [hb]; omega))
  have HC1 := HC0.out.keep (ht0.block bc (by omega) (by omega))
  have HI0 := hid (And.intro hrg0 (And.intro HC1 hbw0))
  have HSm : Hid (SS.length ≤ 43046721) := hid (set_small HNS.out hl HB3.out.2.1 (fun c hc => (Cov.mem_asked.1 (List.mem_filter.1 ((HB3.out.2.2.2.2.2 c).1 hc)).1).1))
  have HR : Hid (w.heap.size < bc ∧ bm < bc ∧ r = bc + 1 ∧ w.heap.size ≤ bm ∧ bc < w0.heap.size ∧ r < w0.heap.size) := hid ⟨hw3, by omega, by omega, hbm0, by omega, by omega⟩
  clear hV0 hz0 hb0 hrS ht0 hbw0 HC1 HC0 hrg0 hg0 hs0 hr hbc hmm hown hbm hbm0 hw3
  go_loopw [13] (fun mo wr => ∃ (pre : List (List Int)) (left : Lit → Bool) (cnt : Nat), mo = .int .i64 (Cov.leastL pre : Nat) ∧ Hid (wr.ranges Tryd.prog 69 (plainElem Tryd.prog 4) bm r SS.length D left cnt ∧ CntM wr bc pre.length (cntN pre) ∧
      pre.Nodup ∧ (∀ c ∈ pre, c ∈ SS) ∧ (∀ c ∈ SS, c ∉ pre → left (klc c) = true) ∧ (∀ kl, left kl = true → ∃ c ∈ SS, c ∉ pre ∧ kl = klc c) ∧ Below w.heap.size w wr ∧ w0.heap.size ≤ wr.heap.size)) (fun _ wr => wr.rangeLeft bm r)
  case atStart =>
    obtain ⟨q1, q2, q3⟩ := HI0.out
    exact ⟨[], _, _, rfl, hid ⟨q1, q2, List.nodup_nil, fun c h => absurd h (by simp), fun c hc _ => HB3.out.2.2.2.1 c hc, fun kl h => by
      obtain ⟨c, hc, e⟩ := HB3.out.2.2.2.2.1 kl h
      exact ⟨c, hc, by simp, e⟩, q3, Nat.le_refl _⟩⟩
  case round =>
    obtain ⟨pre, left, cnt, rfl, HP⟩ := hrel
    have hrg := HP.out.1
    go_wp2_with (first
      | (at_next; refine wpList_next_ranges _ rfl _ rfl 69 lawK _ id id (fun key _ _ => ⟨key, rfl⟩) (fun v _ _ => ⟨v, rfl⟩) bm r SS.length D left cnt rfl hrg ?_ ?_)
      | fail)
    · intro _ hl0'
      have HE : Hid (Cov.leastL pre = Cov.leastL (Cov.openL ns F tn)) := hid (by
        obtain ⟨-, -, p3, p4, p5, -, -, -⟩ := HP.out
        refine Cov.leastL_perm p3 (List.Pairwise.filter _ (Cov.nodup_of_sorted (Cov.asked_sorted ns tn))) fun x => ?_
        rw [← HB3.out.2.2.2.2.2 x]
        refine ⟨p4 x, fun hx => ?_⟩
        by_cases hp : x ∈ pre
        · exact hp
        · have := p5 x hx hp
          rw [hl0'] at this
          cases this)
      have HBw := hid HP.out.2.2.2.2.2.2.1
      clear hrg hl0'
      go_wp2
      go_ret2
      exact ⟨by rw [HE.out]; rfl, HBw.out⟩
    · intro key val kl yd yp w1 cnt1 hkey hlx hvv hat hrg1 hlt1 hg1 hs1 hen
      try simp only [id] at hkey hen ⊢
      obtain ⟨c, hc, hcp, rfl⟩ := HP.out.2.2.2.2.2.1 kl hlx
      have hKC : KeyC ns.length c := HB3.out.2.2.1 c hc
      obtain rfl : key = keyV c := lawK.inj hkey (klc_ok hl hKC)
      obtain ⟨x0, x1, x2, x3, x4, x5, x6, x7, he⟩ := eight (keyL c) (keyL_len c (by rw [hKC.1]; exact hl))
      have hkv : keyV c = .agg #[.int .i64 x0, .int .i64 x1, .int .i64 x2, .int .i64 x3, .int .i64 x4, .int .i64 x5, .int .i64 x6, .int .i64 x7] := by unfold keyV; rw [he]; rfl
      rw [hkv] at hen ⊢
      have HGe : Hid (∀ (j : Nat) (x : Int), [x0, x1, x2, x3, x4, x5, x6, x7][j]? = some x → -1 ≤ x) := hid (fun j x hx => by
        rw [← he] at hx
        have hm := List.mem_of_getElem? hx
        unfold keyL at hm
        rcases List.mem_append.1 hm with hm | hm
        · exact (hKC.2 x hm).1
        · rw [(List.mem_replicate.1 hm).2]; decide)
      have HIx := hid (index8 x0 x1 x2 x3 x4 x5 x6 x7)
      have ht1 : Turns (· = r) wr w1 := Turns.of_grown hg1 (fun b hb => by cases hb; rfl)
      obtain ⟨U, hU⟩ : ∃ U, U = w1.alloc (.cells #[.int .i64 x0, .int .i64 x1, .int .i64 x2, .int .i64 x3, .int .i64 x4, .int .i64 x5, .int .i64 x6, .int .i64 x7] 69) := ⟨_, rfl⟩
      have u0 : U.heap[w1.heap.size]? = some (.cells #[.int .i64 x0, .int .i64 x1, .int .i64 x2, .int .i64 x3, .int .i64 x4, .int .i64 x5, .int .i64 x6, .int .i64 x7] 69 (0, 0)) := by rw [hU]; exact heap_new _ _ rfl
      have ub : Below w1.heap.size w1 U := by rw [hU]; exact (Below.refl _ _).alloc (Nat.le_refl _) _
      have HSu : Hid (Cov.supp [x0, x1, x2, x3, x4, x5, x6, x7] = Cov.supp c) := hid (by rw [← he]; exact supp_keyL c)
      have HS2 : Hid (Cov.supp c < 256) := hid (Nat.lt_of_lt_of_le (Cov.supp_lt c) (Nat.le_trans (Nat.pow_le_pow_right (by omega) (show c.length ≤ 8 by rw [hKC.1]; exact hl)) (by decide)))
      have HN : Hid (U.ranges Tryd.prog 69 (plainElem Tryd.prog 4) bm r SS.length D (fun z => left z && !z.sameKey (klc c)) cnt1 ∧ CntM U bc pre.length (cntN pre) ∧ Below w.heap.size w U ∧ w0.heap.size ≤ U.heap.size) := by
        obtain ⟨p1, p2, -, -, -, -, p7, p8⟩ := HP.out
        obtain ⟨q1, q2, q3, q4, q5, q6⟩ := HR.out
        refine hid ⟨ranges_same hrg1 (ub.block _ (by omega)) (ub.block _ (by omega)), p2.keep ((ub.block _ (by omega)).trans (ht1.block _ (by show ¬ bc = r; omega) (by omega))), ?_, by have := ub.size; omega⟩
        exact (p7.trans (ht1.below p7.size (fun b hb => by rw [hb]; omega))).trans (ub.mono (by have := p7.size; omega))
      have HLt := hid hlt1
      rw [hU] at u0
      have HUe := hid hU
      have d0 := cell_of_row _ _ 0 _ _ (0, 0) u0
      have d1 := cell_of_row _ _ 1 _ _ (0, 0) u0
      have d2 := cell_of_row _ _ 2 _ _ (0, 0) u0
      have d3 := cell_of_row _ _ 3 _ _ (0, 0) u0
      have d4 := cell_of_row _ _ 4 _ _ (0, 0) u0
      have d5 := cell_of_row _ _ 5 _ _ (0, 0) u0
      have d6 := cell_of_row _ _ 6 _ _ (0, 0) u0
      have d7 := cell_of_row _ _ 7 _ _ (0, 0) u0
      simp only [List.getElem?_toArray, List.getElem?_cons_zero, List.getElem?_cons_succ] at d0 d1 d2 d3 d4 d5 d6 d7
      have HC := hid (And.intro hc (And.intro hcp hKC))
      have HHr := hid (And.intro hrg1 hrg)
      have hlen : [x0, x1, x2, x3, x4, x5, x6, x7].length = 8 := rfl
      have HL8 : Hid (∃ L, L = [x0, x1, x2, x3, x4, x5, x6, x7]) := hid ⟨_, rfl⟩
      clear hU u0 ub ht1 hkey hlx hvv hat hrg1 hlt1 hg1 hs1 hkv he hc hcp hKC hrg
      go_wp2
      rw [← HUe.out]
      clear d0 d1 d2 d3 d4 d5 d6 d7 hen
      go_loopw [15, 40] (fun s i wr => ∃ j : Nat, j ≤ 8 ∧ i = .int .i64 j ∧ s = .int .u64 (Cov.supp ([x0, x1, x2, x3, x4, x5, x6, x7].take j) : Nat) ∧ wr = U) (fun _ i _ => 8 - (intOf i).toNat)
      case atStart => exact ⟨0, by omega, rfl, rfl, rfl⟩
      case round =>
        obtain ⟨j, hj, rfl, rfl, hwU⟩ := hrel
        rw [hwU]
        clear hwU
        by_cases hlt : j < 8
        · obtain ⟨x, hx⟩ : ∃ x, [x0, x1, x2, x3, x4, x5, x6, x7][j]? = some x := ⟨_, List.getElem?_eq_getElem (by rw [hlen]; exact hlt)⟩
          have hix := HIx.out j x hx
          have hge := HGe.out j x hx
          have hlt' : (j : Int) < 8 := by omega
          have hj0 : (0 : Int) ≤ j := by omega
          have HTk : Hid (Cov.supp ([x0, x1, x2, x3, x4, x5, x6, x7].take (j + 1)) = Cov.supp ([x0, x1, x2, x3, x4, x5, x6, x7].take j) + (if 0 ≤ x then 2 ^ j else 0)) := hid (by
            rw [List.take_add_one, hx]
            show Cov.supp (_ ++ [x]) = _
            rw [supp_snoc, List.length_take, hlen, show min j 8 = j by omega])
          have hs : Cov.supp ([x0, x1, x2, x3, x4, x5, x6, x7].take j) < 2 ^ j := by
            have := Cov.supp_lt ([x0, x1, x2, x3, x4, x5, x6, x7].take j)
            rw [List.length_take, hlen, show min j 8 = j by omega] at this
            exact this
          clear hx
          generalize Cov.supp ([x0, x1, x2, x3, x4, x5, x6, x7].take j) = s at *
          by_cases hx1 : x = -1
          · have dx : (x != -1) = false := bneF hx1
            have HN2 : Hid (Cov.supp ([x0, x1, x2, x3, x4, x5, x6, x7].take (j + 1)) = s) := hid (by rw [HTk.out, if_neg (by omega)]; rfl)
            clear hs HTk hx1
            go_wp2
            go_roundw
            case rel => exact ⟨j + 1, by omega, by go_num, by rw [HN2.out], trivial⟩
            case measure => simp [intOf]; omega
          · have dx : (x != -1) = true := bneT hx1
            have hpj : 2 ^ j < 256 := Nat.lt_of_lt_of_le (Nat.pow_lt_pow_right (by omega) hlt) (by decide)
            have hsh : IntKind.u64.wrap ((2 : Int) ^ j) = ((2 ^ j : Nat) : Int) := by
              have e : ((2 : Int) ^ j) = ((2 ^ j : Nat) : Int) := by push_cast; rfl
              rw [e]
              generalize 2 ^ j = q at *
              rw [IntKind.wrap_u64]
              omega
            have hor : bits .or .u64 (s : Int) ((2 ^ j : Nat) : Int) = ((s ||| 2 ^ j : Nat) : Int) := bits_or_u64_nat s (2 ^ j) (by omega) (by omega)
            have HN2 : Hid (Cov.supp ([x0, x1, x2, x3, x4, x5, x6, x7].take (j + 1)) = s ||| 2 ^ j) := hid (by rw [HTk.out, if_pos (by omega), or_add s j hs])
            have hjj : j < 64 := by omega
            have hs256 : s < 256 := by omega
            obtain ⟨Q, hQ⟩ : ∃ Q, Q = 2 ^ j := ⟨_, rfl⟩
            rw [← hQ] at hsh hor HN2
            obtain ⟨O, hO⟩ : ∃ O, O = s ||| Q := ⟨_, rfl⟩
            rw [← hO] at hor HN2
            clear hQ hO hs HTk hx1 hpj
            go_wp2
            go_roundw
            case rel => exact ⟨j + 1, by omega, by go_num, by rw [HN2.out], trivial⟩
            case measure => simp [intOf]; omega
        · obtain rfl : j = 8 := by omega
          have e8 : [x0, x1, x2, x3, x4, x5, x6, x7].take 8 = [x0, x1, x2, x3, x4, x5, x6, x7] := rfl
          rw [e8, HSu.out]
          have hs256 := HS2.out
          have HLC := hid (leastL_cnt pre c)
          have HCn := hid (fun s => cntN_snoc pre c s)
          obtain ⟨n1, n2, n3, n4⟩ := HN.out
          have hpl : pre.length ≤ 1000000000 := by
            have h1 := nodup_len pre SS HP.out.2.2.1 HP.out.2.2.2.1
            have h2 := HSm.out
            omega
          have hcb : cntN pre (Cov.supp c) ≤ pre.length := List.length_filter_le _ _
          have hml : Cov.leastL pre ≤ pre.length := Cov.leastL_le (fun d _ => List.length_filter_le _ _)
          have hlook := n2.look hs256
          obtain ⟨U2, hrun, hm2, ht2⟩ := n2.store hpl hs256
          have hlook2 := hm2.look hs256
          simp only [if_true] at hlook2
          have hR := HR.out
          have HFin : Hid (U2.ranges Tryd.prog 69 (plainElem Tryd.prog 4) bm r SS.length D (fun z => left z && !z.sameKey (klc c)) cnt1 ∧ CntM U2 bc (pre ++ [c]).length (cntN (pre ++ [c])) ∧ Below w.heap.size w U2 ∧ w0.heap.size ≤ U2.heap.size) :=
            hid ⟨ranges_same n1 (ht2.block _ (by omega) (by omega)) (ht2.block _ (by omega) (by omega)), by
              rw [List.length_append]
              exact hm2.congr (fun s => (HCn.out s).symm), n3.trans (ht2.below n3.size (fun b hb => by rw [hb]; omega)), by have := ht2.size; omega⟩
          generalize Cov.supp c = s at *
          generalize cntN pre s = q at *
          clear n1 n2 n3 n4 hm2 ht2
          go_wp2
          go_roundw
          case rel =>
            obtain ⟨p1, p2, p3, p4, p5, p6, p7, p8⟩ := HP.out
            obtain ⟨q1, q2, q3, q4⟩ := HFin.out
            obtain ⟨hc, hcp, hKC⟩ := HC.out
            refine ⟨pre ++ [c], _, cnt1, by rw [HLC.out]; go_num, hid ⟨q1, q2, List.nodup_append.2 ⟨p3, by simp, fun a ha b hb e => ?_⟩, fun d hd => ?_, fun d hd hdp => ?_, fun kl hkl => ?_, q3, q4⟩⟩
            · rw [List.mem_singleton.1 hb] at e
              exact hcp (e ▸ ha)
            · rcases List.mem_append.1 hd with h | h
              · exact p4 d h
              · rw [List.mem_singleton.1 h]; exact hc
            · rw [List.mem_append, List.mem_singleton, not_or] at hdp
              rw [p5 d hd hdp.1, Maps.sameKey_ne (fun e => hdp.2 (klc_inj hl (HB3.out.2.2.1 d hd) hKC e))]
              rfl
            · rw [Bool.and_eq_true] at hkl
              obtain ⟨d, hd, hdp, rfl⟩ := p6 kl hkl.1
              refine ⟨d, hd, ?_, rfl⟩
              rw [List.mem_append, List.mem_singleton, not_or]
              refine ⟨hdp, fun e => ?_⟩
              subst e
              have := hkl.2
              rw [WideAt.sameKey_self (isKey_of (klc_ok hl hKC))] at this
              exact absurd this (by decide)
          case measure =>
            have h1 := HFin.out.1.left_eq
            have h2 := HHr.out.2.left_eq
            have h3 := HLt.out
            omega

end Go.Proofs.YtjaejnacdanpkaaDoor
