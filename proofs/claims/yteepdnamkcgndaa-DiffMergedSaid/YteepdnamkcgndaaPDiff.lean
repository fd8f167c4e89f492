/- Diff of the program. -/
import Derived.Test.YteepdnamkcgndaaA4
import Derived.Test.YteepdnamkcgndaaA3
namespace Go.Proofs.Yteepdnamkcgndaa
open Go.RowKit

attribute [local go_sem] Oper.semAt_some

/-- What holds between two kinds. -/
structure PD (w : World) (A B : List (List (List Int))) (Bo : Nat) (k : Nat) (ds : List Deferred) (wr : World) : Prop where
  out : ∃ v, wr.heap[Bo]? = some (.cells #[v] 34 (0, 0)) ∧ OwnC (intB wr) w.heap.size 59 wr v (diffL A B k)
  len : (diffL A B k).length ≤ 7000 * k
  marks : Marks w.heap.size wr.heap.size ds wr
  fit : ∀ j, j < k → fitsK (A.getD j []) (B.getD j [])
  below : Below w.heap.size w wr

/-- What holds between two changes of a kind. -/
structure PI (w : World) (pre0 : List Chg) (Bo nB : Nat) (ds : List Deferred) (pre : List Chx) (W : World) : Prop where
  out : ∃ v, W.heap[Bo]? = some (.cells #[v] 34 (0, 0)) ∧ OwnC (intB W) w.heap.size 59 W v (pre0 ++ chs pre)
  marks : Marks w.heap.size nB ds W
  below : Below w.heap.size w W

theorem PI.turn {w : World} {pre0 : List Chg} {Bo nB : Nat} {ds : List Deferred} {pre : List Chx} {W W' : World} (h : PI w pre0 Bo nB ds pre W) {A : Nat → Obj → Prop} (ht : TurnT A w.heap.size W W')
    (h1 : ∀ b c fr, ¬ A b (.cells c 34 fr)) (h2 : ∀ b c fr, ¬ A b (.cells c 59 fr)) (h3 : ∀ b c fr, ¬ A b (.cells c 3 fr)) (h4 : ∀ b o, b < nB → A b o → ¬ book o) : PI w pre0 Bo nB ds pre W' := by
  obtain ⟨v, hv, ho⟩ := h.out
  exact ⟨⟨v, ht.2 _ _ hv (h1 _ _ _), ho.turn ht h3 h2⟩, h.marks.turn ht h4, h.below.trans ht.1⟩

set_option maxRecDepth 100000 in
set_option maxHeartbeats 4000000 in
theorem pdiff_any (A B : List (List (List Int))) (hA : Small A) (hB : Small B) (u v : Value) (S T : Nat → Prop) (w : World) (hu : WorldV S w u A) (hv : WorldV T w v B) :
    Calls Try.prog 16 #[u, v] w fun e w' => ∃ x, e = .returned (.tuple #[x, .int .i64 (diffE A B)]) ∧ ChV AnyB w' x (diffC A B) ∧ Below w.heap.size w w' := by
  have hu0 : WorldV (fun b => b < w.heap.size) w u A := WorldV.mono hu (fun b hb _ => hb)
  have hv0 : WorldV (fun b => b < w.heap.size) w v B := WorldV.mono hv (fun b hb _ => hb)
  obtain ⟨aa, ca, rfl, hoka, hcapa, hmaxa⟩ := hu.form
  obtain ⟨ab, cb, rfl, hokb, hcapb, hmaxb⟩ := hv.form
  clear hu hv
  have CA := fun W (h : WorldV (fun b => b < w.heap.size) W (.slice aa A.length ca) A) => hid (shapedP_any A hA _ _ W h)
  have CB := fun W (h : WorldV (fun b => b < w.heap.size) W (.slice ab B.length cb) B) => hid (shapedP_any B hB _ _ W h)
  have HBad : Hid (¬ diffOk A B → ∃ x, (Ending.returned (.tuple #[.slice none 0 0, .int .i64 2])) = .returned (.tuple #[x, .int .i64 (diffE A B)]) ∧ ∀ W : World, ChV AnyB W x (diffC A B)) := hid (fun h => ⟨.slice none 0 0, by unfold diffE; rw [if_neg h], fun W => by unfold diffC; rw [if_neg h]; exact ChV.nil _ _⟩)
  rw [← callsIn_wide (n := 5)]
  refine callsIn_of_wp_marks Try.func16 rfl trivial ?_ rfl
  simp only [Try.ntmps16, List.size_toArray, List.length_cons, List.length_nil, Nat.reduceAdd, Nat.reduceSub, Array.replicate_succ, Array.replicate_zero, List.push_toArray, List.append_toArray, List.nil_append, List.cons_append]
  rw [wpIn_wide]
  by_cases h1 : ShapedW A
  · have HD1 := hid (decide_eq_true h1)
    by_cases h2 : ShapedW B
    · have HD2 := hid (decide_eq_true h2)
      by_cases h3 : A.length = B.length
      · have d3 : ((A.length : Int) != (B.length : Int)) = false := bneF (by omega)
        have hAB : A.length ≤ B.length := by omega
        have H12 := hid (show ShapedW A ∧ ShapedW B ∧ A.length = B.length from ⟨h1, h2, h3⟩)
        have hA6 := h1.2.1
        clear h1 h2 h3
        go_wp2_with fail
        refine (CA _ hu0).out.mono ?_
        rintro e w1 ⟨rfl, hb1⟩
        rw [HD1.out]
        go_wp2_with fail
        refine (CB _ (hv0.keep (KeepS.below hb1))).out.mono ?_
        rintro e w2 ⟨rfl, hb2'⟩
        have hb2 : Below w.heap.size w w2 := hb1.trans (hb2'.mono hb1.size)
        rw [HD2.out]
        clear hb1 hb2'
        go_wp2
        obtain ⟨Bo, hBo⟩ : ∃ Bo, Bo = w2.heap.size := ⟨_, rfl⟩
        have hBn : w.heap.size ≤ Bo := by rw [hBo]; exact hb2.size
        rw [← hBo]
        have HP0 : Hid (PD w A B Bo 0 [] (w2.alloc (.cells #[.slice none 0 0] 34))) :=
          hid ⟨⟨.slice none 0 0, heap_new _ _ hBo, by simpa [diffL] using OwnC.nil _ _ _ _⟩, by simp [diffL], Marks.nil _ _ _, fun j h => absurd h (Nat.not_lt_zero _), hb2.alloc hb2.size _⟩
        refine wp_loop (fun a' wr => ∃ (k : Nat) (ds : List Deferred) (u2 u3 u4 u5 u7 u8 u9 u10 u11 u12 u13 u14 u15 u16 u17 u18 u19 u20 u21 u22 u23 u24 u27 u28 u29 u30 u31 u32 u33 u34 u35 u36 u37 u38 u39 u40 u41 u42 u43 u44 u45 u46 u47 u48 u49 u50 u51 u52 u53 u54 u55 u56 u57 u58 u59 u60 u61 u62 u63 u64 u65 u66 u67 u68 u69 u70 u71 u72 u73 u74 u75 u76 u77 u78 u79 u80 u81 u82 u83 u84 u85 : Value), (k ≤ A.length ∧ Hid (PD w A B Bo k ds wr)) ∧ a' = { tmps := #[.slice aa A.length ca, .slice ab B.length cb, u2, u3, u4, u5, .pointer (some ⟨Bo, 0, none⟩), u7, u8, u9, u10, u11, u12, u13, u14, u15, u16, u17, u18, u19, u20, u21, u22, u23, u24, .int .i64 A.length, .int .i64 k, u27, u28, u29, u30, u31, u32, u33, u34, u35, u36, u37, u38, u39, u40, u41, u42, u43, u44, u45, u46, u47, u48, u49, u50, u51, u52, u53, u54, u55, u56, u57, u58, u59, u60, u61, u62, u63, u64, u65, u66, u67, u68, u69, u70, u71, u72, u73, u74, u75, u76, u77, u78, u79, u80, u81, u82, u83, u84, u85], defers := ds }) (fun a' _ => A.length - (intOf (a'.tmps.getD 26 undef)).toNat) ⟨0, [], _, _, _, _, _, _, _, _, _, _, _, _, _, _, _, _, _, _, _, _, _, _, _, _, _, _, _, _, _, _, _, _, _, _, _, _, _, _, _, _, _, _, _, _, _, _, _, _, _, _, _, _, _, _, _, _, _, _, _, _, _, _, _, _, _, _, _, _, _, _, _, _, _, _, _, _, _, _, _, _, _, ⟨Nat.zero_le _, HP0⟩, rfl⟩ ?_
        intro _ wr hinv
        obtain ⟨k, hinv⟩ := hinv
        obtain ⟨ds, hinv⟩ := hinv
        obtain ⟨u2, hinv⟩ := hinv
        obtain ⟨u3, hinv⟩ := hinv
        obtain ⟨u4, hinv⟩ := hinv
        obtain ⟨u5, hinv⟩ := hinv
        obtain ⟨u7, hinv⟩ := hinv
        obtain ⟨u8, hinv⟩ := hinv
        obtain ⟨u9, hinv⟩ := hinv
        obtain ⟨u10, hinv⟩ := hinv
        obtain ⟨u11, hinv⟩ := hinv
        obtain ⟨u12, hinv⟩ := hinv
        obtain ⟨u13, hinv⟩ := hinv
        obtain ⟨u14, hinv⟩ := hinv
        obtain ⟨u15, hinv⟩ := hinv
        obtain ⟨u16, hinv⟩ := hinv
        obtain ⟨u17, hinv⟩ := hinv
        obtain ⟨u18, hinv⟩ := hinv
        obtain ⟨u19, hinv⟩ := hinv
        obtain ⟨u20, hinv⟩ := hinv
        obtain ⟨u21, hinv⟩ := hinv
        obtain ⟨u22, hinv⟩ := hinv
        obtain ⟨u23, hinv⟩ := hinv
        obtain ⟨u24, hinv⟩ := hinv
        obtain ⟨u27, hinv⟩ := hinv
        obtain ⟨u28, hinv⟩ := hinv
        obtain ⟨u29, hinv⟩ := hinv
        obtain ⟨u30, hinv⟩ := hinv
        obtain ⟨u31, hinv⟩ := hinv
        obtain ⟨u32, hinv⟩ := hinv
        obtain ⟨u33, hinv⟩ := hinv
        obtain ⟨u34, hinv⟩ := hinv
        obtain ⟨u35, hinv⟩ := hinv
        obtain ⟨u36, hinv⟩ := hinv
        obtain ⟨u37, hinv⟩ := hinv
        obtain ⟨u38, hinv⟩ := hinv
        obtain ⟨u39, hinv⟩ := hinv
        obtain ⟨u40, hinv⟩ := hinv
        obtain ⟨u41, hinv⟩ := hinv
        obtain ⟨u42, hinv⟩ := hinv
        obtain ⟨u43, hinv⟩ := hinv
        obtain ⟨u44, hinv⟩ := hinv
        obtain ⟨u45, hinv⟩ := hinv
        obtain ⟨u46, hinv⟩ := hinv
        obtain ⟨u47, hinv⟩ := hinv
        obtain ⟨u48, hinv⟩ := hinv
        obtain ⟨u49, hinv⟩ := hinv
        obtain ⟨u50, hinv⟩ := hinv
        obtain ⟨u51, hinv⟩ := hinv
        obtain ⟨u52, hinv⟩ := hinv
        obtain ⟨u53, hinv⟩ := hinv
        obtain ⟨u54, hinv⟩ := hinv
        obtain ⟨u55, hinv⟩ := hinv
        obtain ⟨u56, hinv⟩ := hinv
        obtain ⟨u57, hinv⟩ := hinv
        obtain ⟨u58, hinv⟩ := hinv
        obtain ⟨u59, hinv⟩ := hinv
        obtain ⟨u60, hinv⟩ := hinv
        obtain ⟨u61, hinv⟩ := hinv
        obtain ⟨u62, hinv⟩ := hinv
        obtain ⟨u63, hinv⟩ := hinv
        obtain ⟨u64, hinv⟩ := hinv
        obtain ⟨u65, hinv⟩ := hinv
        obtain ⟨u66, hinv⟩ := hinv
        obtain ⟨u67, hinv⟩ := hinv
        obtain ⟨u68, hinv⟩ := hinv
        obtain ⟨u69, hinv⟩ := hinv
        obtain ⟨u70, hinv⟩ := hinv
        obtain ⟨u71, hinv⟩ := hinv
        obtain ⟨u72, hinv⟩ := hinv
        obtain ⟨u73, hinv⟩ := hinv
        obtain ⟨u74, hinv⟩ := hinv
        obtain ⟨u75, hinv⟩ := hinv
        obtain ⟨u76, hinv⟩ := hinv
        obtain ⟨u77, hinv⟩ := hinv
        obtain ⟨u78, hinv⟩ := hinv
        obtain ⟨u79, hinv⟩ := hinv
        obtain ⟨u80, hinv⟩ := hinv
        obtain ⟨u81, hinv⟩ := hinv
        obtain ⟨u82, hinv⟩ := hinv
        obtain ⟨u83, hinv⟩ := hinv
        obtain ⟨u84, hinv⟩ := hinv
        obtain ⟨u85, hinv⟩ := hinv
        obtain ⟨⟨hk, hP⟩, ha⟩ := hinv
        subst ha
        try dsimp only
        clear HP0 hb2 CA CB hBo
        by_cases hlt : k < A.length
        · have hltB : k < B.length := by omega
          have HT := hid (diffL_succ A B k)
          have HN : Hid (¬ fitsK A[k] B[k] → ¬ diffOk A B) := hid (fun h q => h (by have := q.2.2.2 k hlt; rwa [getD_eq hlt, getD_eq hltB] at this))
          have HF1 : Hid (fitsK A[k] B[k] → ∀ j, j < k + 1 → fitsK (A.getD j []) (B.getD j [])) := hid (fun h j hj => by
            by_cases e : j < k
            · exact hP.out.fit j e
            · obtain rfl : j = k := by omega
              rw [getD_eq hlt, getD_eq hltB]; exact h)
          have hsa := shaped_kind H12.out.1 (List.getElem_mem hlt)
          have hsb := shaped_kind H12.out.2.1 (List.getElem_mem hltB)
          rw [getD_eq hlt, getD_eq hltB] at HT
          have hu1 : WorldV (fun b => b < w.heap.size) wr (.slice aa A.length ca) A := hu0.keep (KeepS.of_below hP.out.below (fun _ h => h))
          have hv1 : WorldV (fun b => b < w.heap.size) wr (.slice ab B.length cb) B := hv0.keep (KeepS.of_below hP.out.below (fun _ h => h))
          obtain ⟨ua, hca, hba, hra⟩ := hu1.at hlt
          obtain ⟨vb, hcb, hbb, hrb⟩ := hv1.at hltB
          have HLk := hid (show ∀ m, diffL A B k = m → m.length ≤ 7000 * k from fun m h => h ▸ hP.out.len)
          generalize A[k] = a at *
          generalize B[k] = b at *
          have hra0 := hra
          have hrb0 := hrb
          obtain ⟨ak, cka, rfl, hoka1, hcapa1, hmaxa1⟩ := hra.form
          obtain ⟨bk, ckb, rfl, hokb1, hcapb1, hmaxb1⟩ := hrb.form
          clear hra hrb hu1 hv1
          have hk0 : (0 : Int) ≤ k := by omega
          have hk1 : (k : Int) < A.length := by omega
          have hk2 : (k : Int) < B.length := by omega
          have hla := hsa.1
          have hlb := hsb.1
          obtain ⟨wo, rfl⟩ : ∃ wo : World, wo = wr := ⟨_, rfl⟩
          have three : (a.length = 0 ∨ (0 < a.length ∧ b.length = 0)) ∨ (0 < a.length ∧ 0 < b.length ∧ (a.headD []).length ≠ (b.headD []).length) ∨ (0 < a.length ∧ 0 < b.length ∧ (a.headD []).length = (b.headD []).length) := by omega
          rcases three with (ha0 | ⟨ha0, hb0⟩) | ⟨ha0, hb0, hne⟩ | ⟨ha0, hb0, heq⟩
          case' inr.inl =>
            have HX := hid (HN.out (fun h => hne (h ha0 hb0)))
            obtain ⟨ua0, hca0, hba0, hra1⟩ := hra0.at ha0
            obtain ⟨vb0, hcb0, hbb0, hrb1⟩ := hrb0.at hb0
            rw [headD_eq [] ha0, headD_eq [] hb0] at hne
            rw [Nat.add_zero] at hca0 hcb0
            generalize a[0] = a0 at *
            generalize b[0] = b0 at *
            obtain ⟨ak0, cka0, rfl, -, -, -⟩ := hra1.form
            obtain ⟨bk0, ckb0, rfl, -, -, -⟩ := hrb1.form
            have d1 : ((a0.length : Int) != (b0.length : Int)) = true := bneT (by omega)
            have d2 : decide ((0 : Int) < a.length) = true := by simpa using ha0
            have d3 : decide ((0 : Int) < b.length) = true := by simpa using hb0
            clear HF1 HT HN hne hra1 hrb1
          case' inr.inr =>
            have HFK : Hid (fitsK a b) := hid (fun _ _ => heq)
            obtain ⟨ua0, hca0, hba0, hra1⟩ := hra0.at ha0
            obtain ⟨vb0, hcb0, hbb0, hrb1⟩ := hrb0.at hb0
            rw [headD_eq [] ha0, headD_eq [] hb0] at heq
            rw [Nat.add_zero] at hca0 hcb0
            generalize a[0] = a0 at *
            generalize b[0] = b0 at *
            obtain ⟨ak0, cka0, rfl, -, -, -⟩ := hra1.form
            obtain ⟨bk0, ckb0, rfl, -, -, -⟩ := hrb1.form
            have d1 : ((a0.length : Int) != (b0.length : Int)) = false := bneF (by omega)
            have d2 : decide ((0 : Int) < a.length) = true := by simpa using ha0
            have d3 : decide ((0 : Int) < b.length) = true := by simpa using hb0
            clear HN heq hra1 hrb1
          case' inl.inl =>
            have HFK : Hid (fitsK a b) := hid (fun h _ => by omega)
            have d2 : decide ((0 : Int) < a.length) = false := decide_eq_false (by omega)
            have d2n : decide (0 < a.length) = false := decide_eq_false (by omega)
            clear HN ha0
          case' inl.inr =>
            have HFK : Hid (fitsK a b) := hid (fun _ h => by omega)
            have d2 : decide ((0 : Int) < a.length) = true := by simpa using ha0
            have d3 : decide ((0 : Int) < b.length) = false := decide_eq_false (by omega)
            have d3n : decide (0 < b.length) = false := decide_eq_false (by omega)
            clear HN hb0
          case inr.inl =>
            go_wp2
            go_quiet (fail)
            go_wp2
            exact leave_marks rfl (hP.out.marks.turn ((TurnT.refl (fun _ _ => False) 0 wo).drewN nq) (fun _ _ _ h => h.elim)) (fun w' ht => by
              obtain ⟨x, e1, e2⟩ := HBad.out HX.out
              exact ⟨x, e1, e2 _, (below_drewN hP.out.below nq).trans ht.1⟩)
          all_goals
            have HF2 := hid (HF1.out HFK.out)
            have ha10 : ∀ r ∈ a, r.length ≤ 10 := fun r hr => (hsa.2 r hr).1
            have hb10 : ∀ r ∈ b, r.length ≤ 10 := fun r hr => (hsb.2 r hr).1
            have hab : ∀ i (h1 : i < a.length) (h2 : i < b.length), a[i].length ≤ b[i].length := fun i h1 h2 => by
              rw [(hsa.2 _ (List.getElem_mem h1)).2.2, (hsb.2 _ (List.getElem_mem h2)).2.2, HFK.out (by omega) (by omega)]
              exact Nat.le_refl _
            have HAB := hid hab
            have HA10 := hid ha10
            have HB10 := hid hb10
            have HRA := hid hra0
            have HRB := hid hrb0
            clear hab ha10 hb10 HF1 HFK hsa hsb hra0 hrb0
            go_wp2
            go_quiet (fail)
            go_wp2
            try clear d1
            try clear d3
            try clear d3n
            try clear d2n
            clear d2
            have hg := Grew.cellN (w := wo) (n := nq)
            refine wp_region_grew 17 1 (by kernel_rfl) (by kernel_rfl) ?_
            simp only [List.take_succ_cons, List.take_zero, List.drop_succ_cons, List.drop_zero, Nat.reduceAdd]
            repeat (go_big_quiet_step (fail))
            refine wpQuiet_nil ?_
            unfold wpChain
            go_wp2_with fail
            refine (same_any a b hla hlb HA10.out HAB.out _ _ (fun b => b < w.heap.size) (fun b => b < w.heap.size) _ (HRA.out.keep (KeepS.below (below_drewN (below_drewN (Below.refl _ _) nq) 1))) (HRB.out.keep (KeepS.below (below_drewN (below_drewN (Below.refl _ _) nq) 1)))).mono ?_
            rintro e w3 ⟨rfl, rfl⟩
            have hbw : Below wo.heap.size wo ((wo.drewN nq).drewN 1) := below_drewN (below_drewN (Below.refl _ _) nq) 1
            have hbg : Below (wo.drewN nq).heap.size (wo.drewN nq) ((wo.drewN nq).drewN 1) := below_drewN (Below.refl _ _) 1
            generalize ((wo.drewN nq).drewN 1) = wq at *
            clear hg
            go_wp2
            refine qn_mk ⟨InGrew.of hbg, ?_⟩
            unfold wpChain
            go_wp2_with fail
            refine (changes_any k (sameL a b) ak bk a.length cka b.length ckb wq).mono ?_
            rintro e w4 ⟨rfl, hb4, c0, c1, c2, c3⟩
            clear hbg
            go_wp2
            have hbw4 : Below wo.heap.size wo w4 := hbw.trans (hb4.mono hbw.size)
            have hn0 : w.heap.size ≤ w4.heap.size := Nat.le_trans hP.out.below.size hbw4.size
            have HL0 := hid (HLk.out _ rfl)
            generalize hpre : diffL A B k = pre0 at *
            have HI0 : Hid (PI w pre0 Bo w4.heap.size ds [] w4) := by
              obtain ⟨v, hv, ho⟩ := hP.out.out
              rw [hpre] at ho
              exact hid (PI.turn (A := fun _ _ => False) (W := wo) ⟨⟨v, hv, by simpa [chs] using ho⟩, hP.out.marks.mono hbw4.size, hP.out.below⟩ (TurnT.of_below hbw4 hP.out.below.size) (fun _ _ _ h => h) (fun _ _ _ h => h) (fun _ _ _ h => h) (fun _ _ _ h => h.elim))
            have HSeq : Hid (IterG Try.prog 4 w.heap.size w4.heap.size 58 #[.pointer (some ⟨wq.heap.size + 3, 0, none⟩), .pointer (some ⟨wq.heap.size + 1, 0, none⟩), .pointer (some ⟨wq.heap.size + 2, 0, none⟩), .pointer (some ⟨wq.heap.size, 0, none⟩)] Chx.enc (Chx.ok w.heap.size) bodyT iterT
                (fun xs _ => chs xs = listL k a b (sameL a b)) w4) := hid (by
              intro l J W hb hJt hY h0
              rw [callsIn_wide]
              have q0 := (hb.block _ (Array.getElem?_eq_some_iff.1 c0).1).trans c0
              have q1 := (hb.block _ (Array.getElem?_eq_some_iff.1 c1).1).trans c1
              have q2 := (hb.block _ (Array.getElem?_eq_some_iff.1 c2).1).trans c2
              have q3 := (hb.block _ (Array.getElem?_eq_some_iff.1 c3).1).trans c3
              have hbW : Below wo.heap.size wo W := hbw4.trans (hb.mono hbw4.size)
              have hkd := kindDiff_eq k a b
              refine (iter_any k a b (sameL a b) hkd.2.1 hkd.2.2 hla hlb HA10.out HB10.out HAB.out w.heap.size w4.heap.size _ _ _ _ l 3 _ _ (fun b => b < w.heap.size) (fun _ h => h) J W
                (Nat.le_trans hn0 hb.size) (HRA.out.keep (KeepS.below hbW)) (HRB.out.keep (KeepS.below hbW)) q3 q1 q2 q0 hJt hY h0).mono ?_
              rintro e W' ⟨he, xs, hx, hj⟩
              exact ⟨he, xs, hx, hj⟩)
            rw [← wpIn_wide (n := 5)]
            refine wpIn_range (α := Chx) (n0 := w.heap.size) (gf := 58) rfl (fn_enters Try.func58 (by kernel_rfl) rfl) (encs := Chx.enc) (fun _ => rfl) (G := Chx.ok w.heap.size) (bA := bodyT) (iA := iterT)
              (S := fun xs _ => chs xs = listL k a b (sameL a b)) HSeq.out hn0 cellsOf_book cellsOf_book (PI w pre0 Bo w4.heap.size ds) ?hI (fun _ _ _ h _ => h) HI0.out ?hround ?hdone
            case hI =>
              intro pre X Y hp ht
              exact hp.turn ht (by simp [cellsOf, ofT, isBook, book]) (by simp [cellsOf, ofT, isBook, book]) (by simp [cellsOf, ofT, isBook, book]) (fun b o hb h => by
                rcases h with h | h
                · exact cellsOf_book _ _ h
                · have := h.1; omega)
            case hround =>
              rintro l pre ⟨⟨ck, ci, cf, co, cn, vs⟩, ax, cx⟩ W hW hI hG
              obtain ⟨hlen, hint⟩ := hG
              simp only [Chx.enc, Chx.sl, Chg.val] at hint ⊢
              simp only [List.zip_toArray, List.zip_cons_cons, List.zip_nil_left]
              gi_wp2
              refine ⟨(TurnT.refl _ _ _).alloc (Nat.le_trans hn0 hW) _, fun W2 ht2 hs2 => ?_⟩
              have hWn := Nat.le_trans hn0 hW
              have ht0 : TurnT (isBook w4.heap.size) w.heap.size W W2 := ((TurnT.refl _ _ _).alloc hWn _).trans ht2
              have hI2 := hI.turn ht0 (by simp [isBook, book]) (by simp [isBook, book]) (by simp [isBook, book]) (fun b o hb h => by have := h.1; omega)
              have hbx : W2.heap[W.heap.size]? = some (.cells #[.int .i64 ck, .int .i64 ci, .int .i64 cf, .int .i64 co, .int .i64 cn, .slice ax vs.length cx] 59 (0, 0)) := ht2.2 _ _ (World.alloc_heap_new _ _) (by simp [isBook, book])
              have hint2 := IntsF.turn hint ht0 (by simp [isBook, book])
              have x0 : W2.cell? ⟨W.heap.size, 0, none⟩ = some (.int .i64 ck) := by simp [World.cell?, hbx]
              have x1 : W2.cell? ⟨W.heap.size, 1, none⟩ = some (.int .i64 ci) := by simp [World.cell?, hbx]
              have x2 : W2.cell? ⟨W.heap.size, 2, none⟩ = some (.int .i64 cf) := by simp [World.cell?, hbx]
              have x3 : W2.cell? ⟨W.heap.size, 3, none⟩ = some (.int .i64 co) := by simp [World.cell?, hbx]
              have x4 : W2.cell? ⟨W.heap.size, 4, none⟩ = some (.int .i64 cn) := by simp [World.cell?, hbx]
              have x5 : W2.cell? ⟨W.heap.size, 5, none⟩ = some (.slice ax vs.length cx) := by simp [World.cell?, hbx]
              obtain ⟨vo, hvo, hown⟩ := hI2.out
              have hvc := (one_cell hvo).1
              have hvf := (one_cell hvo).2
              have hlen2 : (pre0 ++ chs pre).length + 1 ≤ 1000000000 := by
                have := HL0.out
                have := chs_len pre
                rw [List.length_append]; omega
              have hs3 : w.heap.size ≤ W2.heap.size := hI2.below.size
              have hu2 := IntsF.zoneI (B := vo.ownBlock) hint2 (fun b hb => by
                obtain ⟨c, fr, e⟩ := hown.block hb.symm
                exact ⟨c, fr, _, by decide, e⟩)
              have HOW := hid hown
              clear hs2
              gi_wp2_with (gi_at_builtin; go_must (refine wpListIn_appC1 rfl _ _ rfl Try.app30 rfl hown rfl ⟨ck, ci, cf, co, cn, vs⟩ (.slice ax vs.length cx) rfl rfl hu2 hlen2 hs3 ?_))
              intro v' w5 h5 t5
              have h6 := OwnC.zone HOW.out (by decide) h5 t5
              obtain ⟨av, cv, hv', -, -, -⟩ := h6.sl.form
              generalize (pre0 ++ (chs pre ++ [(⟨ck, ci, cf, co, cn, vs⟩ : Chg)])).length = L at hv'
              subst hv'
              have hvo5 : w5.heap[Bo]? = some (.cells #[vo] 34 (0, 0)) := by
                rw [t5.block Bo (fun e => by
                  obtain ⟨c, fr, e2⟩ := HOW.out.block e
                  rw [hvo] at e2
                  simp at e2) (Array.getElem?_eq_some_iff.1 hvo).1]
                exact hvo
              have hvc5 := (one_cell hvo5).1
              have hvf5 := (one_cell hvo5).2
              have ht5 : TurnT bodyT w.heap.size W2 w5 := (TurnT.refl _ _ _).grown hs3 t5 (fun b hb => ⟨(HOW.out.lt b hb).1, fun o ho => by
                obtain ⟨c, fr, e2⟩ := HOW.out.block hb
                rw [e2] at ho
                cases ho
                simp [cellsOf, ofT]⟩)
              have ht6 : TurnT (cellsOf [34]) w.heap.size w5 (w5.setCell ⟨Bo, 0, none⟩ (.slice av L cv)) := TurnT.setCell (TurnT.refl _ _ _) hvo5 (by simp [cellsOf, ofT]) hBn _
              have ht7 := ht5.trans (ht6.mono (A' := bodyT) (fun b o h => by
                cases o <;> simp_all [cellsOf, ofT]))
              have HP7 : Hid (TurnT bodyT w.heap.size W2 (w5.setCell ⟨Bo, 0, none⟩ (.slice av L cv)) ∧ PI w pre0 Bo w4.heap.size ds (pre ++ [(⟨ck, ci, cf, co, cn, vs⟩, ax, cx)]) (w5.setCell ⟨Bo, 0, none⟩ (.slice av L cv))) :=
                hid ⟨ht7, ⟨_, one_set _ hvo5, by
                  have := h6.turn ht6 (by simp [cellsOf, ofT]) (by simp [cellsOf, ofT])
                  simpa [chs] using this⟩, hI2.marks.turn ht7 (fun b o _ h => cellsOf_book b o h), hI2.below.trans ht7.1⟩
              clear h5 h6 t5 ht5 ht6 ht7 hown HOW hvo hvo5 hu2 hint2 hint x0 x1 x2 x3 x4 x5 hbx ht0 ht2 hI hI2
              gi_wp2
              exact HP7.out
            case hdone =>
              intro D xs W hD hxs hp hk
              have HPD : Hid (PD w A B Bo (k + 1) ({ target := .collected D, args := #[] } :: ds) W) := by
                have hkd := kindDiff_eq k a b
                have hlk := listL_len (kind := k) (b := b) HA10.out hkd.2.1
                have he : diffL A B (k + 1) = pre0 ++ chs xs := by rw [HT.out, hxs, ← hkd.1]
                obtain ⟨v, hv, ho⟩ := hp.out
                refine hid ⟨⟨v, hv, by rw [he]; exact ho⟩, ?_, hp.marks.push hD (Nat.le_trans hn0 hD) hk, HF2.out, hp.below⟩
                rw [he, hxs, List.length_append]
                have := HL0.out
                omega
              clear hp hk
              go_wp2
              refine ⟨⟨k + 1, _, _, _, _, _, _, _, _, _, _, _, _, _, _, _, _, _, _, _, _, _, _, _, _, _, _, _, _, _, _, _, _, _, _, _, _, _, _, _, _, _, _, _, _, _, _, _, _, _, _, _, _, _, _, _, _, _, _, _, _, _, _, _, _, _, _, _, _, _, _, _, _, _, _, _, _, _, _, _, _, _, _, ⟨by omega, HPD⟩, rfl⟩, ?_⟩
              simp [intOf]
              omega
        · have HOK : Hid (diffOk A B) := hid ⟨H12.out.1, H12.out.2.1, H12.out.2.2, fun j hj => hP.out.fit j (by omega)⟩
          obtain rfl : k = A.length := by omega
          have HE : Hid (diffE A B = 0) := hid (by unfold diffE; rw [if_pos HOK.out])
          obtain ⟨vo, hvo, hown⟩ := hP.out.out
          have hvc := (one_cell hvo).1
          have HOW := hid hown
          clear hvo hown
          go_wp2
          refine leave_marks rfl hP.out.marks (fun w' ht => ⟨vo, by rw [HE.out]; rfl, ?_, hP.out.below.trans ht.1⟩)
          unfold diffC
          rw [if_pos HOK.out]
          exact ChV.mono (OwnC.turn HOW.out ht (by simp [isBook, book]) (by simp [isBook, book])).sl (fun _ _ _ => trivial)
      · have HX := hid (HBad.out (fun q => h3 q.2.2.1))
        have d3 : ((A.length : Int) != (B.length : Int)) = true := bneT (by omega)
        clear h3
        go_wp2_with fail
        refine (CA _ hu0).out.mono ?_
        rintro e w1 ⟨rfl, hb1⟩
        rw [HD1.out]
        go_wp2_with fail
        refine (CB _ (hv0.keep (KeepS.below hb1))).out.mono ?_
        rintro e w2 ⟨rfl, hb2'⟩
        have hb2 : Below w.heap.size w w2 := hb1.trans (hb2'.mono hb1.size)
        rw [HD2.out]
        clear hb1 hb2'
        go_wp2
        refine leave_marks rfl (Marks.nil w.heap.size 0 _) (fun w' ht => ?_)
        obtain ⟨x, e1, e2⟩ := HX.out
        exact ⟨x, e1, e2 _, hb2.trans ht.1⟩
    · have HX := hid (HBad.out (fun q => h2 q.2.1))
      have HD := hid (decide_eq_false h2)
      clear h2
      go_wp2_with fail
      refine (CA _ hu0).out.mono ?_
      rintro e w1 ⟨rfl, hb1⟩
      rw [HD1.out]
      go_wp2_with fail
      refine (CB _ (hv0.keep (KeepS.below hb1))).out.mono ?_
      rintro e w2 ⟨rfl, hb2'⟩
      have hb2 : Below w.heap.size w w2 := hb1.trans (hb2'.mono hb1.size)
      rw [HD.out]
      clear hb1 hb2'
      go_wp2
      refine leave_marks rfl (Marks.nil w.heap.size 0 _) (fun w' ht => ?_)
      obtain ⟨x, e1, e2⟩ := HX.out
      exact ⟨x, e1, e2 _, hb2.trans ht.1⟩
  · have HX := hid (HBad.out (fun q => h1 q.1))
    have HD := hid (decide_eq_false h1)
    clear h1
    go_wp2_with fail
    refine (CA _ hu0).out.mono ?_
    rintro e w1 ⟨rfl, hb1⟩
    rw [HD.out]
    go_wp2
    refine leave_marks rfl (Marks.nil w.heap.size 0 _) (fun w' ht => ?_)
    obtain ⟨x, e1, e2⟩ := HX.out
    exact ⟨x, e1, e2 _, hb1.trans ht.1⟩

end Go.Proofs.Yteepdnamkcgndaa
