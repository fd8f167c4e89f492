/- Made of the reference: a small problem. -/
import Derived.Test.YtjaejnacdanpkaaDoorC16
import Derived.Test.YtjaejnacdanpkaaDoorB31
namespace Go.Proofs.YtjaejnacdanpkaaDoor
open Go.RowKit

attribute [local go_sem] Oper.semAt_some

/-- A problem's row of cells. -/
theorem row3 {W : World} {B : Nat} {x y z : Value} {t : TypeId} (h : W.heap[B]? = some (.cells #[x, y, z] t (0, 0))) :
    W.cell? ⟨B, 0, none⟩ = some x ∧ W.cell? ⟨B, 1, none⟩ = some y ∧ W.cell? ⟨B, 2, none⟩ = some z ∧ W.frozen? ⟨B, 0, none⟩ = false ∧ W.frozen? ⟨B, 1, none⟩ = false ∧ W.frozen? ⟨B, 2, none⟩ = false := by
  simp [World.cell?, World.frozen?, h]
theorem row3_set {W : World} {B : Nat} {x y z : Value} {t : TypeId} (h : W.heap[B]? = some (.cells #[x, y, z] t (0, 0))) (u : Value) :
    (W.setCell ⟨B, 0, none⟩ u).heap[B]? = some (.cells #[u, y, z] t (0, 0)) ∧ (W.setCell ⟨B, 1, none⟩ u).heap[B]? = some (.cells #[x, u, z] t (0, 0)) ∧ (W.setCell ⟨B, 2, none⟩ u).heap[B]? = some (.cells #[x, y, u] t (0, 0)) := by
  obtain ⟨hlt, hk⟩ := Array.getElem?_eq_some_iff.1 h
  refine ⟨?_, ?_, ?_⟩
  all_goals
    show (W.heap.modify B _)[B]? = _
    rw [Array.getElem?_eq_getElem (by rw [Array.size_modify]; exact hlt), Array.getElem_modify_self, hk]
    rfl

theorem intsF_row {w : World} {b : Nat} {xs : List Int} (h : w.heap[b]? = some (.cells (xs.map (Value.int .i64)).toArray 3 (0, 0))) (hn : xs.length ≤ 1000000000) : IntsF (· = b) w (.slice (some ⟨b, 0, none⟩) xs.length xs.length) xs := by
  refine ⟨⟨by simp, .inr ⟨b, xs.length, _, by simp, Nat.zero_le _, h, by simp, by unfold maxLen; omega, by simp, by simp [List.take_of_length_le]⟩⟩, fun b' hb' => ?_⟩
  simp [Value.ownBlock] at hb'
  omega
theorem load_made {w : World} {g : Nat} {x y z : Value} {tmps : Array Value} (h : w.heap[g]? = some (.cells #[x, y, z] 25 (0, 0))) (hp : tmps[2]? = some (.pointer (some ⟨g, 0, none⟩))) :
    (results Tryd.f9 tmps).run Tryd.prog w = .ok (.agg #[x, y, z]) w := by
  obtain ⟨h0, h1, h2, -⟩ := row3 h
  simp [results, Tryd.results9, go_sem, hp, h0, h1, h2]

set_option maxRecDepth 100000 in
set_option maxHeartbeats 8000000 in
theorem made_any (l : List Int) (hl : Fit l) (v : Value) (S : Nat → Prop) (w : World) (hv : IntsV S w v l) :
    Calls Tryd.prog 9 #[v] w fun e w' => ∃ (ns : List Nat) (F : List (List Int)) (tn : Nat) (sv fv : Value), e = .returned (.agg #[sv, fv, .int .i64 tn]) ∧ (∀ n ∈ ns, 1 ≤ n ∧ n ≤ 3) ∧ 2 ≤ ns.length ∧ ns.length ≤ 4 ∧ F.length ≤ 4 ∧
      (∀ f ∈ F, Cov.comboB ns f = true ∧ Cov.vals f ≠ 0) ∧ 2 ≤ tn ∧ tn ≤ 3 ∧ tn ≤ ns.length ∧ IntsV (w.heap.size ≤ ·) w' sv (szI ns) ∧ RowsV (w.heap.size ≤ ·) w' fv F ∧ Below w.heap.size w w' := by
  obtain ⟨a, cap, rfl, hok, hcap, hmax⟩ := hv.form
  have HAt := hid (fun X (hX : Below w.heap.size w X) i most h3 h4 hi => at_any l hl (.slice a l.length cap) i most S X (hv.keep (KeepS.below hX)) h3 h4 hi)
  have hb0 : Below w.heap.size w (w.alloc (.cells #[.slice none 0 0, .slice none 0 0, .int .i64 0] 25)) := (Below.refl _ _).alloc (Nat.le_refl _) _
  clear hv
  go_enter Tryd.func9, Tryd.ntmps9
  go_wp2_with fail
  refine (HAt.out _ hb0 0 4 (by decide) (by decide) (by decide)).mono ?_
  rintro e w1 ⟨rfl, rfl⟩
  have h0 := atI_lt l (Int.toNat 0) 4 (by decide)
  generalize atI l (Int.toNat 0) 4 = a0 at *
  obtain ⟨q, hq⟩ : ∃ q : Nat, a0.tdiv 3 = (q : Int) ∧ q ≤ 1 := ⟨(a0.tdiv 3).toNat, by
    have : a0 = 0 ∨ a0 = 1 ∨ a0 = 2 ∨ a0 = 3 := by omega
    rcases this with rfl | rfl | rfl | rfl <;> decide⟩
  have hq1 := hq.1
  have hq2 := hq.2
  have ha0 : Below w.heap.size w ((w.alloc (.cells #[.slice none 0 0, .slice none 0 0, .int .i64 0] 25)).alloc (.cells #[.slice none 0 0, .slice none 0 0, .int .i64 (2 + (q : Int))] 25)) := hb0.alloc (by simp) _
  obtain ⟨W1, hW1⟩ : ∃ W1, W1 = (w.alloc (.cells #[.slice none 0 0, .slice none 0 0, .int .i64 0] 25)).alloc (.cells #[.slice none 0 0, .slice none 0 0, .int .i64 (2 + (q : Int))] 25) := ⟨_, rfl⟩
  have p0 : W1.heap[w.heap.size]? = some (.cells #[.slice none 0 0, .slice none 0 0, .int .i64 0] 25 (0, 0)) := by rw [hW1]; exact heap_step _ (heap_new _ _ rfl)
  have p1 : W1.heap[w.heap.size + 1]? = some (.cells #[.slice none 0 0, .slice none 0 0, .int .i64 (2 + (q : Int))] 25 (0, 0)) := by rw [hW1]; exact heap_new _ _ (by simp)
  have hs1 : W1.heap.size = w.heap.size + 2 := by rw [hW1]; simp
  rw [← hW1] at ha0
  go_wp2_with fail
  rw [← hW1]
  refine (HAt.out _ ha0 1 3 (by decide) (by decide) (by decide)).mono ?_
  rintro e w1 ⟨rfl, rfl⟩
  have h1 := atI_lt l (Int.toNat 1) 3 (by decide)
  generalize atI l (Int.toNat 1) 3 = a1 at *
  obtain ⟨m1, rfl⟩ := Int.eq_ofNat_of_zero_le h1.1
  have H1 := hid (And.intro p0 (And.intro p1 (And.intro ha0 hs1)))
  have HQ := hid hq2
  clear hW1 p0 p1 ha0 hq1 hq hb0 h0 hq2 hs1
  go_wp2
  obtain ⟨n, hn⟩ : ∃ n : Nat, n = m1 + 2 := ⟨_, rfl⟩
  have hn2 : (2 + (m1 : Int)) = (n : Int) := by omega
  rw [hn2]
  have hn3 : 2 ≤ n := by omega
  have hn4 : n ≤ 4 := by omega
  clear hn2 hn h1
  go_loopw [5] (fun i wr => ∃ (ns : List Nat) (v : Value), i = .int .i64 ns.length ∧ ns.length ≤ n ∧ Hid ((∀ x ∈ ns, 1 ≤ x ∧ x ≤ 3) ∧ IntsF (W1.heap.size ≤ ·) wr v (szI ns) ∧ wr.heap[w.heap.size + 1]? = some (.cells #[v, .slice none 0 0, .int .i64 (2 + (q : Int))] 25 (0, 0)) ∧
      wr.heap[w.heap.size]? = some (.cells #[.slice none 0 0, .slice none 0 0, .int .i64 0] 25 (0, 0)) ∧ Below w.heap.size w wr ∧ W1.heap.size ≤ wr.heap.size)) (fun i _ => n - (intOf i).toNat)
  case atStart =>
    obtain ⟨p0, p1, ha0, hs1⟩ := H1.out
    exact ⟨[], _, rfl, by simp, hid ⟨by simp, IntsF.nil _ _, p1, p0, ha0, Nat.le_refl _⟩⟩
  case round =>
    obtain ⟨ns, v, rfl, hk, HR⟩ := hrel
    have hs1 : w.heap.size + 2 ≤ W1.heap.size := Nat.le_of_eq H1.out.2.2.2.symm
    by_cases hlt : ns.length < n
    · obtain ⟨r1, r2, r3, r4, r5, r6⟩ := HR.out
      obtain ⟨va, vc, rfl, -, -, -⟩ := r2.sl.form
      rw [List.length_map] at *
      have hk0 : (0 : Int) ≤ (ns.length : Int) := by omega
      have hk1 : (ns.length : Int) < (n : Int) := by omega
      have hk4 : (ns.length : Int) ≤ 4 := by omega
      have c0 : ∀ Y : Held (fun W => Below wr.heap.size wr W), Y.1.cell? ⟨w.heap.size + 1, 0, none⟩ = some (.slice va ns.length vc) := fun Y => by rw [Y.2.cell (p := ⟨w.heap.size + 1, 0, none⟩) (by show w.heap.size + 1 < _; omega), (row3 r3).1]
      have hX : Below w.heap.size w (wr.drewN 1) := below_drewN r5 1
      have HA2 := hid (HAt.out (wr.drewN 1) hX (2 + ns.length) 3 (by decide) (by decide) (by omega))
      clear r1 r2 r3 r4 r5 r6 hX
      go_wp2
      refine wp_region_held 8 [(true, 0), (true, 1), (true, 2), (true, 3), (true, 4), (false, 5), (true, 6), (false, 7)] (fun W => Below wr.heap.size wr W) (by kernel_rfl) (by kernel_rfl) (below_drewN (Below.refl _ _) 1) ?_
      intro hne
      refine wpSteps_pre 5 (by decide) ?_
      simp only [List.take_succ_cons, List.take_zero]
      repeat (go_big_quiet_step (fail))
      refine wpQuiet_nil ?_
      refine wpSteps_one rfl ?_
      clear c0
      go_wp2_with fail
      refine HA2.out.mono ?_
      rintro e w5 ⟨rfl, rfl⟩
      have h2 := atI_lt l (Int.toNat (2 + ns.length)) 3 (by decide)
      generalize atI l (Int.toNat (2 + ns.length)) 3 = a2 at *
      go_wp2
      refine qn_mk ⟨InHeld.of (below_drewN (Below.refl _ _) 1), ?_⟩
      refine wpSteps_quiet rfl ?_
      repeat (go_big_quiet_step (fail))
      refine wpQuiet_nil ?_
      refine wpSteps_one rfl ?_
      obtain ⟨m2, rfl⟩ := Int.eq_ofNat_of_zero_le h2.1
      go_wp2
      have hal : Below wr.heap.size wr ((wr.drewN 1).alloc (.cells #[.int .i64 (1 + (m2 : Int))] 3)) := (below_drewN (Below.refl wr.heap.size wr) 1).alloc (Nat.le_refl _) _
      have h1F := (int1F (wr.drewN 1) (1 + (m2 : Int))).sl
      refine qn_mk ⟨InHeld.of hal, ?_⟩
      refine wpSteps_done ?_
      simp only [List.drop_succ_cons, List.drop_zero]
      go_wp2_with (at_builtin; go_must (refine wpList_appI rfl _ _ rfl Tryd.app22 rfl HR.out.2.1 hal rfl h1F (by simp; omega) ?_))
      intro v8 w8 hI8 ht8
      obtain ⟨r1, r2, r3, r4, r5, r6⟩ := HR.out
      have hlo : ∀ b, some b = (Value.slice va ns.length vc).ownBlock → W1.heap.size ≤ b := fun b hb => r2.2 b hb.symm
      have hsz := hal.size
      have k8 : ∀ {b o}, wr.heap[b]? = some o → b < W1.heap.size → w8.heap[b]? = some o := fun {b o} h hb =>
        (ht8.block b (fun hob => by have := hlo b hob; omega) (by have := (Array.getElem?_eq_some_iff.1 h).1; omega)).trans ((hal.block b (Array.getElem?_eq_some_iff.1 h).1).trans h)
      have x3 := k8 r3 (by omega)
      have x4 := k8 r4 (by omega)
      have hb8 : Below wr.heap.size wr w8 ∨ True := .inr trivial
      have hbw8 : Below w.heap.size w w8 := (r5.trans (hal.mono r5.size)).trans (ht8.below (by omega) (fun b hb => by have := hlo b hb; omega))
      have f0 := (row3 x3).2.2.2.1
      have e0 := (row3 x3).1
      have HNew : Hid ((∀ x ∈ ns ++ [m2 + 1], 1 ≤ x ∧ x ≤ 3) ∧ IntsF (W1.heap.size ≤ ·) (w8.setCell ⟨w.heap.size + 1, 0, none⟩ v8) v8 (szI (ns ++ [m2 + 1])) ∧ (w8.setCell ⟨w.heap.size + 1, 0, none⟩ v8).heap[w.heap.size + 1]? = some (.cells #[v8, .slice none 0 0, .int .i64 (2 + (q : Int))] 25 (0, 0)) ∧
          (w8.setCell ⟨w.heap.size + 1, 0, none⟩ v8).heap[w.heap.size]? = some (.cells #[.slice none 0 0, .slice none 0 0, .int .i64 0] 25 (0, 0)) ∧ Below w.heap.size w (w8.setCell ⟨w.heap.size + 1, 0, none⟩ v8) ∧ W1.heap.size ≤ (w8.setCell ⟨w.heap.size + 1, 0, none⟩ v8).heap.size) := by
        refine hid ⟨fun x hx => ?_, ?_, (row3_set x3 v8).1, (Below.heap_setCell _ _ _ _ (by show w.heap.size ≠ w.heap.size + 1; omega)).trans x4, hbw8.setCell (by show w.heap.size ≤ w.heap.size + 1; omega) _, by have := ht8.size; simp; omega⟩
        · rcases List.mem_append.1 hx with hx | hx
          · exact r1 x hx
          · rw [List.mem_singleton.1 hx]; omega
        · have h8 := steady_intsF.mono hI8 (S' := (W1.heap.size ≤ ·)) (fun b _ hb => grow_from r6 b hb)
          have e8 : szI ns ++ [1 + (m2 : Int)] = szI (ns ++ [m2 + 1]) := by
            unfold szI
            rw [List.map_append]
            simp
            omega
          rw [e8] at h8
          exact steady_intsF.keep h8 (fun b (hb : W1.heap.size ≤ b) _ => Below.heap_setCell _ _ _ _ (by show b ≠ w.heap.size + 1; omega))
      obtain ⟨va8, vl8, vc8, rfl⟩ : ∃ a l c, v8 = .slice a l c := by obtain ⟨a, c', h, -⟩ := hI8.sl.form; exact ⟨_, _, _, h⟩
      clear hI8 ht8 r1 r2 r3 r4 r5 r6 hlo k8 hb8 hbw8 x3 x4 hal h1F HA2 hne
      go_wp2
      go_roundw
      case rel => exact ⟨ns ++ [m2 + 1], _, by simp, by simp; omega, HNew⟩
      case measure => simp [intOf]; omega
    · obtain ⟨r1, r2, r3, r4, r5, r6⟩ := HR.out
      obtain rfl : n = ns.length := by omega
      obtain ⟨va, vc, rfl, hokv, hcapv, hmaxv⟩ := r2.sl.form
      rw [List.length_map] at *
      have c2 := (row3 r3).2.2.1
      have hq5 := HQ.out
      have f2 := (row3 r3).2.2.2.2.2
      by_cases hgt : (ns.length : Int) < 2 + (q : Int)
      · have HZ0 : Hid ((∀ x ∈ ns, 1 ≤ x ∧ x ≤ 3) ∧ IntsF (W1.heap.size ≤ ·) (wr.setCell ⟨w.heap.size + 1, 2, none⟩ (.int .i64 2)) (.slice va ns.length vc) (szI ns) ∧ (wr.setCell ⟨w.heap.size + 1, 2, none⟩ (.int .i64 2)).heap[w.heap.size + 1]? = some (.cells #[.slice va ns.length vc, .slice none 0 0, .int .i64 ((2 : Nat) : Int)] 25 (0, 0)) ∧
          (wr.setCell ⟨w.heap.size + 1, 2, none⟩ (.int .i64 2)).heap[w.heap.size]? = some (.cells #[.slice none 0 0, .slice none 0 0, .int .i64 0] 25 (0, 0)) ∧ Below w.heap.size w (wr.setCell ⟨w.heap.size + 1, 2, none⟩ (.int .i64 2)) ∧ W1.heap.size ≤ (wr.setCell ⟨w.heap.size + 1, 2, none⟩ (.int .i64 2)).heap.size) :=
          hid ⟨r1, steady_intsF.keep r2 (fun b (hb : W1.heap.size ≤ b) _ => Below.heap_setCell _ _ _ _ (by show b ≠ w.heap.size + 1; omega)), (row3_set r3 _).2.2, (Below.heap_setCell _ _ _ _ (by show w.heap.size ≠ w.heap.size + 1; omega)).trans r4, r5.setCell (by show w.heap.size ≤ w.heap.size + 1; omega) _, by simp; omega⟩
        clear r1 r2 r3 r4 r5 r6
        go_wp2_with fail
        clear c2 f2
        obtain ⟨tn, htn⟩ : ∃ tn : Nat, tn = 2 := ⟨_, rfl⟩
        have HTn : Hid (2 ≤ tn ∧ tn ≤ 3 ∧ tn ≤ ns.length) := hid (by omega)
        generalize wr.setCell ⟨w.heap.size + 1, 2, none⟩ (.int .i64 2) = wZ at *
        have htn2 : ((2 : Nat) : Int) = (tn : Int) := by omega
        rw [htn2] at HZ0
        clear htn htn2
        have HZ := HZ0
        clear HZ0
        have hN5 := hid HZ.out.2.2.2.2.1
        have hgW : Hid (w.heap.size + 2 ≤ W1.heap.size) := hid hs1
        have hgZ : Hid (w.heap.size + 1 < wZ.heap.size) := hid (by have := HZ.out.2.2.2.2.2; omega)
        go_wp2_with fail
        refine (HAt.out wZ hN5.out 6 5 (by decide) (by decide) (by decide)).mono ?_
        rintro e w1 ⟨rfl, rfl⟩
        have h5 := atI_lt l (Int.toNat 6) 5 (by decide)
        generalize atI l (Int.toNat 6) 5 = a5 at *
        obtain ⟨M, rfl⟩ := Int.eq_ofNat_of_zero_le h5.1
        have hM4 : M ≤ 4 := by omega
        clear h5 hN5
        go_wp2
        go_loopw [7] (fun i wr => ∃ (k : Nat) (F : List (List Int)) (fv : Value), i = .int .i64 k ∧ k ≤ M ∧ Hid (F.length ≤ k ∧ (∀ f ∈ F, Cov.comboB ns f = true ∧ Cov.vals f ≠ 0) ∧ IntsV (fun b => W1.heap.size ≤ b ∧ b < wZ.heap.size) wr (.slice va ns.length vc) (szI ns) ∧
            OwnS wZ.heap.size (fun b => wZ.heap.size ≤ b ∧ b < wr.heap.size ∧ ¬ OB fv b) wr fv F ∧ wr.heap[w.heap.size + 1]? = some (.cells #[.slice va ns.length vc, fv, .int .i64 tn] 25 (0, 0)) ∧
            wr.heap[w.heap.size]? = some (.cells #[.slice none 0 0, .slice none 0 0, .int .i64 0] 25 (0, 0)) ∧ Below w.heap.size w wr ∧ wZ.heap.size ≤ wr.heap.size)) (fun i _ => M - (intOf i).toNat)
        case atStart =>
          obtain ⟨z1, z2, z3, z4, z5, z6⟩ := HZ.out
          exact ⟨0, [], _, rfl, by omega, hid ⟨by simp, by simp, IntsV.mono z2.sl (fun b h1 h2 => ⟨h2, h1⟩), OwnS.nil _ _ _, z3, z4, z5, Nat.le_refl _⟩⟩
        case round =>
          obtain ⟨k, F, fv, rfl, hk, HP⟩ := hrel
          obtain ⟨fa, fl, fc, rfl⟩ : ∃ a l c, fv = .slice a l c := by obtain ⟨a, c', h, -⟩ := (HP.out.2.2.2.1.sl (S := fun _ => True) (fun _ _ => trivial) (fun _ _ _ => trivial)).form; exact ⟨_, _, _, h⟩
          by_cases hlt2 : k < M
          · have hk0 : (0 : Int) ≤ k := by omega
            have hk1 : (k : Int) < (M : Int) := by omega
            have hk4 : (k : Int) ≤ 4 := by omega
            have hn0 : (0 : Int) ≤ (ns.length : Int) := by omega
            have hmk := fun W => run_mkZero (P := Tryd.prog) (t := 22) (e := 3) (b := 8) (by kernel_rfl) (by kernel_rfl) (by omega) ns.length (by omega) W
            have HC0 : Hid ((wr.alloc (.cells (zeroCells ns.length) 3)).heap[wr.heap.size]? = some (.cells ((List.replicate ns.length (0 : Int)).map (Value.int .i64)).toArray 3 (0, 0)) ∧ Below wr.heap.size wr (wr.alloc (.cells (zeroCells ns.length) 3))) := hid ⟨heap_new _ _ rfl, (Below.refl _ _).alloc (Nat.le_refl _) _⟩
            generalize hWo : wr = Wo at *
            clear hWo
            go_wp2
            clear hmk
            go_loopw [9] (fun i wr => ∃ (j : Nat) (c : List Int), i = .int .i64 j ∧ j ≤ ns.length ∧ Hid (c.length = ns.length ∧ (∀ i (h : i < c.length) (h' : i < ns.length), i < j → -1 ≤ c[i] ∧ c[i] < (ns[i] : Int)) ∧ wr.heap[Wo.heap.size]? = some (.cells (c.map (Value.int .i64)).toArray 3 (0, 0)) ∧ Below Wo.heap.size Wo wr)) (fun i _ => ns.length - (intOf i).toNat)
            case atStart => exact ⟨0, List.replicate ns.length 0, rfl, by omega, hid ⟨by simp, fun i _ _ h => absurd h (by omega), HC0.out.1, HC0.out.2⟩⟩
            case round =>
              obtain ⟨j, c, rfl, hj, HC⟩ := hrel
              by_cases hlt3 : j < ns.length
              · have hj0 : (0 : Int) ≤ j := by omega
                have hj1 : (j : Int) < ns.length := by omega
                have hj4 : (j : Int) ≤ 4 := by omega
                obtain ⟨p1, p2, p3, p4, p5, p6, p7, p8⟩ := HP.out
                obtain ⟨q1, q2, q3, q4⟩ := HC.out
                have hsl : j < (szI ns).length := by simpa [szI] using hlt3
                have p3' : IntsV (fun b => W1.heap.size ≤ b ∧ b < wZ.heap.size) Wo (.slice va (szI ns).length vc) (szI ns) := by rw [List.length_map]; exact p3
                obtain ⟨u, hcu, hbu, hu⟩ := p3'.at hsl
                have hu2 : u = .int .i64 (ns[j] : Int) := by rw [hu]; simp [szI]
                subst hu2
                clear hu
                have hnj := HZ.out.1 ns[j] (List.getElem_mem hlt3)
                have g1 : wr.heap[w.heap.size + 1]? = _ := (q4.block _ (Array.getElem?_eq_some_iff.1 p5).1).trans p5
                have c1 := (row3 g1).1
                have c2 : wr.cell? ⟨slb va, slo va + j, none⟩ = some (.int .i64 (ns[j] : Int)) := (q4.cell (p := ⟨slb va, slo va + j, none⟩) hbu).trans hcu
                have hzc : j < c.length := by rw [q1]; exact hlt3
                have c3 : wr.cell? ⟨Wo.heap.size, j, none⟩ = some (.int .i64 c[j]) := by rw [cell_of_row _ _ _ _ _ (0, 0) q3]; simp [hzc]
                have c4 : wr.frozen? ⟨Wo.heap.size, j, none⟩ = false := by simp [World.frozen?, q3]
                have hX : Below w.heap.size w wr := p7.trans (q4.mono p7.size)
                have hslv : slb va < Wo.heap.size := hbu
                have HG : Hid (∀ x : Int, (wr.setCell ⟨Wo.heap.size, j, none⟩ (.int .i64 x)).heap[Wo.heap.size]? = some (.cells ((c.set j x).map (Value.int .i64)).toArray 3 (0, 0)) ∧ Below Wo.heap.size Wo (wr.setCell ⟨Wo.heap.size, j, none⟩ (.int .i64 x))) := hid (fun x => by
                  refine ⟨?_, q4.setCell (Nat.le_refl _) _⟩
                  rw [heap_setCell_same _ _ _ _ _ _ q3]
                  simp [List.map_set])
                have HG2 : Hid (∀ (W : World) (c' : List Int) (x : Int), W.heap[Wo.heap.size]? = some (.cells (c'.map (Value.int .i64)).toArray 3 (0, 0)) → (W.setCell ⟨Wo.heap.size, j, none⟩ (.int .i64 x)).heap[Wo.heap.size]? = some (.cells ((c'.set j x).map (Value.int .i64)).toArray 3 (0, 0))) := hid (fun W c' x h => by
                  rw [heap_setCell_same _ _ _ _ _ _ h]
                  simp [List.map_set])
                have HQ1 := hid (And.intro q1 q2)
                have hgs := p8
                have hgw : w.heap.size + 1 < Wo.heap.size := (Array.getElem?_eq_some_iff.1 p5).1
                have HG1 := hid p5
                have HcW := hid hcu
                obtain ⟨N, hN⟩ : ∃ N : Nat, N = ns[j] := ⟨_, rfl⟩
                rw [← hN] at hnj c2 hcu HcW
                have HNj := hid hN
                clear p1 p2 p3 p3' p4 p5 p6 p7 p8 q1 q2 q3 q4 g1 hcu hbu hN hsl
                go_wp2_with fail
                refine (HAt.out wr hX (7 + 4 * (k : Int) + (j : Int)) ((N : Int) + 2) (by omega) (by omega) (by omega)).mono ?_
                rintro e w1 ⟨rfl, rfl⟩
                generalize hA : atI l _ ((N : Int) + 2) = A
                have hA2 : 0 ≤ A ∧ A < (N : Int) + 2 := by rw [← hA]; exact atI_lt l _ ((N : Int) + 2) (by omega)
                clear hA
                have hbV := (HG.out (A - 1)).2
                have v3 := (HG.out (A - 1)).1
                obtain ⟨V, hV⟩ : ∃ V, V = wr.setCell ⟨Wo.heap.size, j, none⟩ (.int .i64 (A - 1)) := ⟨_, rfl⟩
                rw [← hV] at hbV v3
                have hzs : j < (c.set j (A - 1)).length := by rw [List.length_set]; exact hzc
                have d3 : V.cell? ⟨Wo.heap.size, j, none⟩ = some (.int .i64 (A - 1)) := by rw [cell_of_row _ _ _ _ _ (0, 0) v3]; simp [hzc]
                have d4 : V.frozen? ⟨Wo.heap.size, j, none⟩ = false := by simp [World.frozen?, v3]
                have d1 : V.cell? ⟨w.heap.size + 1, 0, none⟩ = some (.slice va ns.length vc) := (hbV.cell (p := ⟨w.heap.size + 1, 0, none⟩) hgw).trans (row3 HG1.out).1
                have d2 : V.cell? ⟨slb va, slo va + j, none⟩ = some (.int .i64 (N : Int)) := (hbV.cell (p := ⟨slb va, slo va + j, none⟩) hslv).trans HcW.out
                have HSet : Hid (∀ x : Int, -1 ≤ x → x < (N : Int) → (c.set j x).length = ns.length ∧ ∀ i (h : i < (c.set j x).length) (h' : i < ns.length), i < j + 1 → -1 ≤ (c.set j x)[i] ∧ (c.set j x)[i] < (ns[i] : Int)) := hid (fun x h1 h2 => by
                  refine ⟨by rw [List.length_set]; exact HQ1.out.1, fun i h h' hi => ?_⟩
                  rw [List.getElem_set]
                  split
                  · rename_i e
                    subst e
                    exact ⟨h1, by rw [← HNj.out]; exact h2⟩
                  · exact HQ1.out.2 i (by rw [List.length_set] at h; exact h) h' (by omega))
                have HV := hid (And.intro v3 hbV)
                clear v3 hbV HG hX
                go_wp2
                rw [← hV]
                clear c1 c2 c3 c4
                clear hV
                by_cases hE : A - 1 = (N : Int)
                · have dE : ((A - 1) == (N : Int)) = true := beqT hE
                  clear hE
                  go_quiet (fail)
                  have d4' : (V.drewN nq).frozen? ⟨Wo.heap.size, j, none⟩ = false := d4
                  have d3' : (V.drewN nq).cell? ⟨Wo.heap.size, j, none⟩ = some (.int .i64 (A - 1)) := d3
                  have HNew := hid (And.intro (HSet.out (-1) (by omega) (by omega)).1 (And.intro (HSet.out (-1) (by omega) (by omega)).2 (And.intro (HG2.out (V.drewN nq) (c.set j (A - 1)) (-1) HV.out.1) ((below_drewN HV.out.2 nq).setCell (p := ⟨Wo.heap.size, j, none⟩) (Nat.le_refl _) (.int .i64 (-1))))))
                  rw [List.set_set] at HNew
                  clear HSet HG2 d1 d2 d3 d4
                  go_wp2
                  go_roundw
                  case rel => exact ⟨j + 1, c.set j (-1), by go_num, by omega, HNew⟩
                  case measure => simp [intOf]; omega
                · have dE : ((A - 1) == (N : Int)) = false := beqF hE
                  have HNew := fun n => hid (And.intro (HSet.out (A - 1) (by omega) (by omega)).1 (And.intro (HSet.out (A - 1) (by omega) (by omega)).2 (And.intro (show (V.drewN n).heap[Wo.heap.size]? = _ from HV.out.1) (below_drewN HV.out.2 n))))
                  clear hE HSet HG2
                  go_quiet (fail)
                  clear d1 d2 d3 d4
                  go_wp2
                  go_roundw
                  case rel => exact ⟨j + 1, c.set j (A - 1), by go_num, by omega, HNew _⟩
                  case measure => simp [intOf]; omega
              · obtain rfl : j = ns.length := by omega
                obtain ⟨p1, p2, p3, p4, p5, p6, p7, p8⟩ := HP.out
                obtain ⟨q1, q2, q3, q4⟩ := HC.out
                have hF := intsF_row q3 (by omega)
                rw [q1] at hF
                have hgw : w.heap.size + 1 < Wo.heap.size := (Array.getElem?_eq_some_iff.1 p5).1
                have g1 : wr.heap[w.heap.size + 1]? = _ := (q4.block _ hgw).trans p5
                have g0 : wr.heap[w.heap.size]? = _ := (q4.block _ (by omega)).trans p6
                have hcb : Cov.comboB ns c = true := (comboB_iff ns c q1).2 (fun i h h' => q2 i h h' h')
                have hsW := q4.size
                have hlo := p4.lt
                have hblt : Wo.heap.size < wr.heap.size := (Array.getElem?_eq_some_iff.1 q3).1
                have hown : OwnS wZ.heap.size (fun b => wZ.heap.size ≤ b ∧ b < wr.heap.size ∧ ¬ OB (.slice fa fl fc) b) wr (.slice fa fl fc) F := (p4.kept (fun b hlt _ => q4.block b hlt)).mono (fun b _ hb => ⟨hb.1, by omega, hb.2.2⟩)
                have hu : IntsV (fun b => wZ.heap.size ≤ b ∧ b < wr.heap.size ∧ ¬ OB (.slice fa fl fc) b) wr (.slice (some ⟨Wo.heap.size, 0, none⟩) ns.length ns.length) c := IntsV.mono hF.sl (fun b h1 (h2 : b = Wo.heap.size) => ⟨by omega, h1, fun h => by have := (hlo b h).2; omega⟩)
                have HVa := hid (values_any c (by omega) _ _ wr hF.sl)
                have hbw : Below w.heap.size w wr := p7.trans (q4.mono p7.size)
                have hsz3 : IntsV (fun b => W1.heap.size ≤ b ∧ b < wZ.heap.size) wr (.slice va ns.length vc) (szI ns) := p3.keep (KeepS.of_below q4 (fun b hb => by have := hb.2; omega))
                have hFl : F.length + 1 ≤ 1000000000 := by omega
                have d1 := (row3 g1).2.1
                have HR2 := hid (And.intro hsz3 (And.intro g1 (And.intro g0 (And.intro hbw (And.intro hown (And.intro hlo (And.intro hcb p8)))))))
                have HPr := hid (And.intro p1 p2)
                have hzw : wZ.heap.size ≤ wr.heap.size := by omega
                have hoE : ∀ b, b < wr.heap.size → (wZ.heap.size ≤ b ∧ b < wr.heap.size ∧ ¬ OB (.slice fa fl fc) b) → ¬ OB (.slice fa fl fc) b := fun b _ h => h.2.2
                clear p1 p2 p3 p4 p5 p6 p7 p8 q1 q2 q3 q4 hF g1 g0 hcb hlo hbw hsz3
                go_wp2_with fail
                refine HVa.out.mono ?_
                rintro e w1 ⟨rfl, hw1⟩
                rw [hw1]
                clear hw1
                by_cases hvc : Cov.vals c = 0
                · have hv0 : ¬ (0 : Int) < ((Cov.vals c : Nat) : Int) := by omega
                  clear hvc
                  generalize Cov.vals c = vv at *
                  have HN : Hid (F.length ≤ k + 1 ∧ (∀ f ∈ F, Cov.comboB ns f = true ∧ Cov.vals f ≠ 0) ∧ IntsV (fun b => W1.heap.size ≤ b ∧ b < wZ.heap.size) wr (.slice va ns.length vc) (szI ns) ∧
                    OwnS wZ.heap.size (fun b => wZ.heap.size ≤ b ∧ b < wr.heap.size ∧ ¬ OB (.slice fa fl fc) b) wr (.slice fa fl fc) F ∧ wr.heap[w.heap.size + 1]? = some (.cells #[.slice va ns.length vc, .slice fa fl fc, .int .i64 tn] 25 (0, 0)) ∧
                    wr.heap[w.heap.size]? = some (.cells #[.slice none 0 0, .slice none 0 0, .int .i64 0] 25 (0, 0)) ∧ Below w.heap.size w wr ∧ wZ.heap.size ≤ wr.heap.size) := by
                    obtain ⟨s1, s2, s3, s4, s5, s6, s7, s8⟩ := HR2.out
                    exact hid ⟨by have := HPr.out.1; omega, HPr.out.2, s1, s5, s2, s3, s4, hzw⟩
                  clear d1 hu hown hoE
                  go_wp2
                  go_roundw
                  case rel => exact ⟨k + 1, F, _, by go_num, by omega, HN⟩
                  case measure => simp [intOf]; omega
                · have hv0 : (0 : Int) < ((Cov.vals c : Nat) : Int) := by omega
                  have HVC : Hid (∀ f, f = c → Cov.vals f ≠ 0) := hid (fun f e => by rw [e]; exact hvc)
                  clear hvc
                  generalize hvv : Cov.vals c = vv at *
                  clear hvv
                  go_wp2_with (at_builtin; go_must (refine wpList_appS1 rfl _ _ rfl Tryd.app63 rfl hown hoE rfl c hu rfl hFl hzw ?_))
                  intro v8 w8 hown8 ht8 hn8
                  obtain ⟨s1, s2, s3, s4, s5, s6, s7, s8⟩ := HR2.out
                  have k8 : ∀ {b o}, wr.heap[b]? = some o → b < wZ.heap.size → w8.heap[b]? = some o := fun {b o} h hb =>
                    (ht8.block b (fun hob => by have := (s6 b hob).1; omega) (Array.getElem?_eq_some_iff.1 h).1).trans h
                  have hgz : w.heap.size + 1 < wZ.heap.size := hgZ.out
                  have x3 := k8 s2 hgz
                  have x4 := k8 s3 (by omega)
                  have f1 := (row3 x3).2.2.2.2.1
                  have e1 := (row3 x3).2.1
                  obtain ⟨va8, vl8, vc8, rfl⟩ : ∃ a l c, v8 = .slice a l c := by obtain ⟨a, c', h, -⟩ := (hown8.sl (S := fun _ => True) (fun _ _ => trivial) (fun _ _ _ => trivial)).form; exact ⟨_, _, _, h⟩
                  have hz8 := ht8.size
                  have kS : ∀ S : Nat → Prop, (∀ b, S b → b ≠ w.heap.size + 1) → KeepS S w8 (w8.setCell ⟨w.heap.size + 1, 1, none⟩ (.slice va8 vl8 vc8)) := fun S h b hb _ => Below.heap_setCell _ _ _ _ (h b hb)
                  have hlo8 := hown8.lt
                  have HN : Hid ((F ++ [c]).length ≤ k + 1 ∧ (∀ f ∈ F ++ [c], Cov.comboB ns f = true ∧ Cov.vals f ≠ 0) ∧ IntsV (fun b => W1.heap.size ≤ b ∧ b < wZ.heap.size) (w8.setCell ⟨w.heap.size + 1, 1, none⟩ (.slice va8 vl8 vc8)) (.slice va ns.length vc) (szI ns) ∧
                    OwnS wZ.heap.size (fun b => wZ.heap.size ≤ b ∧ b < (w8.setCell ⟨w.heap.size + 1, 1, none⟩ (.slice va8 vl8 vc8)).heap.size ∧ ¬ OB (.slice va8 vl8 vc8) b) (w8.setCell ⟨w.heap.size + 1, 1, none⟩ (.slice va8 vl8 vc8)) (.slice va8 vl8 vc8) (F ++ [c]) ∧ (w8.setCell ⟨w.heap.size + 1, 1, none⟩ (.slice va8 vl8 vc8)).heap[w.heap.size + 1]? = some (.cells #[.slice va ns.length vc, .slice va8 vl8 vc8, .int .i64 tn] 25 (0, 0)) ∧
                    (w8.setCell ⟨w.heap.size + 1, 1, none⟩ (.slice va8 vl8 vc8)).heap[w.heap.size]? = some (.cells #[.slice none 0 0, .slice none 0 0, .int .i64 0] 25 (0, 0)) ∧ Below w.heap.size w (w8.setCell ⟨w.heap.size + 1, 1, none⟩ (.slice va8 vl8 vc8)) ∧ wZ.heap.size ≤ (w8.setCell ⟨w.heap.size + 1, 1, none⟩ (.slice va8 vl8 vc8)).heap.size) := by
                    have hzS : (w8.setCell ⟨w.heap.size + 1, 1, none⟩ (.slice va8 vl8 vc8)).heap.size = w8.heap.size := by simp
                    refine hid ⟨by have := HPr.out.1; simp; omega, fun f hf => ?_, (s1.keep (ht8.keep (fun b hb hob => by have := (s6 b hob).1; have := hb.2; omega))).keep (kS _ (fun b hb => by have := hb.1; have := hgW.out; omega)), ?_, (row3_set x3 _).2.1, (Below.heap_setCell _ _ _ _ (by show w.heap.size ≠ w.heap.size + 1; omega)).trans x4,
                      (s4.trans (ht8.below s4.size (fun b hb => by have := (s6 b hb).1; omega))).setCell (by show w.heap.size ≤ w.heap.size + 1; omega) _, by rw [hzS]; omega⟩
                    · rcases List.mem_append.1 hf with hf | hf
                      · exact HPr.out.2 f hf
                      · rw [List.mem_singleton.1 hf]; exact ⟨s7, HVC.out c rfl⟩
                    · refine (hown8.kept (fun b _ hb => Below.heap_setCell _ _ _ _ ?_)).mono (fun b hb1 hb2 => ⟨hb2.1, hb1, fun h => ?_⟩)
                      · show b ≠ w.heap.size + 1
                        rcases hb with hb | hb
                        · have := (hlo8 b hb).1; omega
                        · have := hb.1; omega
                      · rcases hn8 b h with h | h
                        · exact hb2.2.2 h
                        · have := hb2.2.1; omega
                  clear hown8 ht8 hn8 s1 s2 s3 s4 s5 s6 s7 s8 k8 kS hlo8 x3 x4 hz8 hown hu hoE d1
                  go_wp2
                  go_roundw
                  case rel => exact ⟨k + 1, F ++ [c], _, by go_num, by omega, HN⟩
                  case measure => simp [intOf]; omega
          · obtain ⟨p1, p2, p3, p4, p5, p6, p7, p8⟩ := HP.out
            have hgW2 := hgW.out
            have hgZ2 := hgZ.out
            have e0 := (row3 p5).1
            have e1 := (row3 p5).2.1
            have e2 := (row3 p5).2.2.1
            have t1 := row3_set p6 (.slice va ns.length vc)
            have t2 := row3_set t1.1 (.slice fa fl fc)
            have t3 := row3_set t2.2.1 (.int .i64 (tn : Int))
            have HL := hid t3.2.2
            have hlo := p4.lt
            have HF : Hid ((∀ b, b ≠ w.heap.size → (((wr.setCell ⟨w.heap.size, 0, none⟩ (.slice va ns.length vc)).setCell ⟨w.heap.size, 1, none⟩ (.slice fa fl fc)).setCell ⟨w.heap.size, 2, none⟩ (.int .i64 (tn : Int))).heap[b]? = wr.heap[b]?) ∧ Below w.heap.size w (((wr.setCell ⟨w.heap.size, 0, none⟩ (.slice va ns.length vc)).setCell ⟨w.heap.size, 1, none⟩ (.slice fa fl fc)).setCell ⟨w.heap.size, 2, none⟩ (.int .i64 (tn : Int)))) :=
              hid ⟨fun b hb => (Below.heap_setCell _ _ _ _ hb).trans ((Below.heap_setCell _ _ _ _ hb).trans (Below.heap_setCell _ _ _ _ hb)), ((p7.setCell (p := ⟨w.heap.size, 0, none⟩) (Nat.le_refl _) _).setCell (p := ⟨w.heap.size, 1, none⟩) (Nat.le_refl _) _).setCell (p := ⟨w.heap.size, 2, none⟩) (Nat.le_refl _) _⟩
            have HO := hid (And.intro p1 (And.intro p2 (And.intro p3 (And.intro p4 hlo))))
            have f0 := (row3 p6).2.2.2.1
            have b0 := (row3 p6).1
            have b1 := (row3 t1.1).2.1
            have b2 := (row3 t2.2.1).2.2.1
            have f1 := (row3 t1.1).2.2.2.2.1
            have f2' := (row3 t2.2.1).2.2.2.2.2
            clear p1 p2 p3 p4 p5 p6 p7 p8 t1 t2 t3 hlo
            go_wp2
            refine bodyPost_ret (load_made HL.out rfl) rfl ⟨ns, F, tn, _, _, rfl, HZ.out.1, by omega, by omega, by have := HO.out.1; omega, HO.out.2.1, HTn.out.1, HTn.out.2.1, HTn.out.2.2, ?_, ?_, HF.out.2⟩
            · exact IntsV.mono (HO.out.2.2.1.keep (fun b hb _ => HF.out.1 b (by have := hb.1; omega))) (fun b _ hb => by have := hb.1; show w.heap.size ≤ b; omega)
            · have h4 := HO.out.2.2.2.1.kept (w' := (((wr.setCell ⟨w.heap.size, 0, none⟩ (.slice va ns.length vc)).setCell ⟨w.heap.size, 1, none⟩ (.slice fa fl fc)).setCell ⟨w.heap.size, 2, none⟩ (.int .i64 (tn : Int)))) (fun b hlt hb => HF.out.1 b (by
                rcases hb with hb | hb
                · have := (HO.out.2.2.2.2 b hb).1; omega
                · have := hb.1; omega))
              exact h4.sl (fun b hb => by have := (HO.out.2.2.2.2 b hb).1; show w.heap.size ≤ b; omega) (fun b _ hb => by have := hb.1; show w.heap.size ≤ b; omega)
      · obtain ⟨tn, htn⟩ : ∃ tn : Nat, tn = 2 + q := ⟨_, rfl⟩
        have htn2 : (2 + (q : Int)) = (tn : Int) := by omega
        rw [htn2] at r3 c2 hgt
        have HTn : Hid (2 ≤ tn ∧ tn ≤ 3 ∧ tn ≤ ns.length) := hid (by omega)
        have HZ := hid (And.intro r1 (And.intro r2 (And.intro r3 (And.intro r4 (And.intro r5 r6)))))
        clear r1 r2 r3 r4 r5 r6 htn htn2
        generalize wr = wZ at *
        go_wp2_with fail
        clear c2 f2
        have hN5 := hid HZ.out.2.2.2.2.1
        have hgW : Hid (w.heap.size + 2 ≤ W1.heap.size) := hid hs1
        have hgZ : Hid (w.heap.size + 1 < wZ.heap.size) := hid (by have := HZ.out.2.2.2.2.2; omega)
        go_wp2_with fail
        refine (HAt.out wZ hN5.out 6 5 (by decide) (by decide) (by decide)).mono ?_
        rintro e w1 ⟨rfl, rfl⟩
        have h5 := atI_lt l (Int.toNat 6) 5 (by decide)
        generalize atI l (Int.toNat 6) 5 = a5 at *
        obtain ⟨M, rfl⟩ := Int.eq_ofNat_of_zero_le h5.1
        have hM4 : M ≤ 4 := by omega
        clear h5 hN5
        go_wp2
        go_loopw [7] (fun i wr => ∃ (k : Nat) (F : List (List Int)) (fv : Value), i = .int .i64 k ∧ k ≤ M ∧ Hid (F.length ≤ k ∧ (∀ f ∈ F, Cov.comboB ns f = true ∧ Cov.vals f ≠ 0) ∧ IntsV (fun b => W1.heap.size ≤ b ∧ b < wZ.heap.size) wr (.slice va ns.length vc) (szI ns) ∧
            OwnS wZ.heap.size (fun b => wZ.heap.size ≤ b ∧ b < wr.heap.size ∧ ¬ OB fv b) wr fv F ∧ wr.heap[w.heap.size + 1]? = some (.cells #[.slice va ns.length vc, fv, .int .i64 tn] 25 (0, 0)) ∧
            wr.heap[w.heap.size]? = some (.cells #[.slice none 0 0, .slice none 0 0, .int .i64 0] 25 (0, 0)) ∧ Below w.heap.size w wr ∧ wZ.heap.size ≤ wr.heap.size)) (fun i _ => M - (intOf i).toNat)
        case atStart =>
          obtain ⟨z1, z2, z3, z4, z5, z6⟩ := HZ.out
          exact ⟨0, [], _, rfl, by omega, hid ⟨by simp, by simp, IntsV.mono z2.sl (fun b h1 h2 => ⟨h2, h1⟩), OwnS.nil _ _ _, z3, z4, z5, Nat.le_refl _⟩⟩
        case round =>
          obtain ⟨k, F, fv, rfl, hk, HP⟩ := hrel
          obtain ⟨fa, fl, fc, rfl⟩ : ∃ a l c, fv = .slice a l c := by obtain ⟨a, c', h, -⟩ := (HP.out.2.2.2.1.sl (S := fun _ => True) (fun _ _ => trivial) (fun _ _ _ => trivial)).form; exact ⟨_, _, _, h⟩
          by_cases hlt2 : k < M
          · have hk0 : (0 : Int) ≤ k := by omega
            have hk1 : (k : Int) < (M : Int) := by omega
            have hk4 : (k : Int) ≤ 4 := by omega
            have hn0 : (0 : Int) ≤ (ns.length : Int) := by omega
            have hmk := fun W => run_mkZero (P := Tryd.prog) (t := 22) (e := 3) (b := 8) (by kernel_rfl) (by kernel_rfl) (by omega) ns.length (by omega) W
            have HC0 : Hid ((wr.alloc (.cells (zeroCells ns.length) 3)).heap[wr.heap.size]? = some (.cells ((List.replicate ns.length (0 : Int)).map (Value.int .i64)).toArray 3 (0, 0)) ∧ Below wr.heap.size wr (wr.alloc (.cells (zeroCells ns.length) 3))) := hid ⟨heap_new _ _ rfl, (Below.refl _ _).alloc (Nat.le_refl _) _⟩
            generalize hWo : wr = Wo at *
            clear hWo
            go_wp2
            clear hmk
            go_loopw [9] (fun i wr => ∃ (j : Nat) (c : List Int), i = .int .i64 j ∧ j ≤ ns.length ∧ Hid (c.length = ns.length ∧ (∀ i (h : i < c.length) (h' : i < ns.length), i < j → -1 ≤ c[i] ∧ c[i] < (ns[i] : Int)) ∧ wr.heap[Wo.heap.size]? = some (.cells (c.map (Value.int .i64)).toArray 3 (0, 0)) ∧ Below Wo.heap.size Wo wr)) (fun i _ => ns.length - (intOf i).toNat)
            case atStart => exact ⟨0, List.replicate ns.length 0, rfl, by omega, hid ⟨by simp, fun i _ _ h => absurd h (by omega), HC0.out.1, HC0.out.2⟩⟩
            case round =>
              obtain ⟨j, c, rfl, hj, HC⟩ := hrel
              by_cases hlt3 : j < ns.length
              · have hj0 : (0 : Int) ≤ j := by omega
                have hj1 : (j : Int) < ns.length := by omega
                have hj4 : (j : Int) ≤ 4 := by omega
                obtain ⟨p1, p2, p3, p4, p5, p6, p7, p8⟩ := HP.out
                obtain ⟨q1, q2, q3, q4⟩ := HC.out
                have hsl : j < (szI ns).length := by simpa [szI] using hlt3
                have p3' : IntsV (fun b => W1.heap.size ≤ b ∧ b < wZ.heap.size) Wo (.slice va (szI ns).length vc) (szI ns) := by rw [List.length_map]; exact p3
                obtain ⟨u, hcu, hbu, hu⟩ := p3'.at hsl
                have hu2 : u = .int .i64 (ns[j] : Int) := by rw [hu]; simp [szI]
                subst hu2
                clear hu
                have hnj := HZ.out.1 ns[j] (List.getElem_mem hlt3)
                have g1 : wr.heap[w.heap.size + 1]? = _ := (q4.block _ (Array.getElem?_eq_some_iff.1 p5).1).trans p5
                have c1 := (row3 g1).1
                have c2 : wr.cell? ⟨slb va, slo va + j, none⟩ = some (.int .i64 (ns[j] : Int)) := (q4.cell (p := ⟨slb va, slo va + j, none⟩) hbu).trans hcu
                have hzc : j < c.length := by rw [q1]; exact hlt3
                have c3 : wr.cell? ⟨Wo.heap.size, j, none⟩ = some (.int .i64 c[j]) := by rw [cell_of_row _ _ _ _ _ (0, 0) q3]; simp [hzc]
                have c4 : wr.frozen? ⟨Wo.heap.size, j, none⟩ = false := by simp [World.frozen?, q3]
                have hX : Below w.heap.size w wr := p7.trans (q4.mono p7.size)
                have hslv : slb va < Wo.heap.size := hbu
                have HG : Hid (∀ x : Int, (wr.setCell ⟨Wo.heap.size, j, none⟩ (.int .i64 x)).heap[Wo.heap.size]? = some (.cells ((c.set j x).map (Value.int .i64)).toArray 3 (0, 0)) ∧ Below Wo.heap.size Wo (wr.setCell ⟨Wo.heap.size, j, none⟩ (.int .i64 x))) := hid (fun x => by
                  refine ⟨?_, q4.setCell (Nat.le_refl _) _⟩
                  rw [heap_setCell_same _ _ _ _ _ _ q3]
                  simp [List.map_set])
                have HG2 : Hid (∀ (W : World) (c' : List Int) (x : Int), W.heap[Wo.heap.size]? = some (.cells (c'.map (Value.int .i64)).toArray 3 (0, 0)) → (W.setCell ⟨Wo.heap.size, j, none⟩ (.int .i64 x)).heap[Wo.heap.size]? = some (.cells ((c'.set j x).map (Value.int .i64)).toArray 3 (0, 0))) := hid (fun W c' x h => by
                  rw [heap_setCell_same _ _ _ _ _ _ h]
                  simp [List.map_set])
                have HQ1 := hid (And.intro q1 q2)
                have hgs := p8
                have hgw : w.heap.size + 1 < Wo.heap.size := (Array.getElem?_eq_some_iff.1 p5).1
                have HG1 := hid p5
                have HcW := hid hcu
                obtain ⟨N, hN⟩ : ∃ N : Nat, N = ns[j] := ⟨_, rfl⟩
                rw [← hN] at hnj c2 hcu HcW
                have HNj := hid hN
                clear p1 p2 p3 p3' p4 p5 p6 p7 p8 q1 q2 q3 q4 g1 hcu hbu hN hsl
                go_wp2_with fail
                refine (HAt.out wr hX (7 + 4 * (k : Int) + (j : Int)) ((N : Int) + 2) (by omega) (by omega) (by omega)).mono ?_
                rintro e w1 ⟨rfl, rfl⟩
                generalize hA : atI l _ ((N : Int) + 2) = A
                have hA2 : 0 ≤ A ∧ A < (N : Int) + 2 := by rw [← hA]; exact atI_lt l _ ((N : Int) + 2) (by omega)
                clear hA
                have hbV := (HG.out (A - 1)).2
                have v3 := (HG.out (A - 1)).1
                obtain ⟨V, hV⟩ : ∃ V, V = wr.setCell ⟨Wo.heap.size, j, none⟩ (.int .i64 (A - 1)) := ⟨_, rfl⟩
                rw [← hV] at hbV v3
                have hzs : j < (c.set j (A - 1)).length := by rw [List.length_set]; exact hzc
                have d3 : V.cell? ⟨Wo.heap.size, j, none⟩ = some (.int .i64 (A - 1)) := by rw [cell_of_row _ _ _ _ _ (0, 0) v3]; simp [hzc]
                have d4 : V.frozen? ⟨Wo.heap.size, j, none⟩ = false := by simp [World.frozen?, v3]
                have d1 : V.cell? ⟨w.heap.size + 1, 0, none⟩ = some (.slice va ns.length vc) := (hbV.cell (p := ⟨w.heap.size + 1, 0, none⟩) hgw).trans (row3 HG1.out).1
                have d2 : V.cell? ⟨slb va, slo va + j, none⟩ = some (.int .i64 (N : Int)) := (hbV.cell (p := ⟨slb va, slo va + j, none⟩) hslv).trans HcW.out
                have HSet : Hid (∀ x : Int, -1 ≤ x → x < (N : Int) → (c.set j x).length = ns.length ∧ ∀ i (h : i < (c.set j x).length) (h' : i < ns.length), i < j + 1 → -1 ≤ (c.set j x)[i] ∧ (c.set j x)[i] < (ns[i] : Int)) := hid (fun x h1 h2 => by
                  refine ⟨by rw [List.length_set]; exact HQ1.out.1, fun i h h' hi => ?_⟩
                  rw [List.getElem_set]
                  split
                  · rename_i e
                    subst e
                    exact ⟨h1, by rw [← HNj.out]; exact h2⟩
                  · exact HQ1.out.2 i (by rw [List.length_set] at h; exact h) h' (by omega))
                have HV := hid (And.intro v3 hbV)
                clear v3 hbV HG hX
                go_wp2
                rw [← hV]
                clear c1 c2 c3 c4
                clear hV
                by_cases hE : A - 1 = (N : Int)
                · have dE : ((A - 1) == (N : Int)) = true := beqT hE
                  clear hE
                  go_quiet (fail)
                  have d4' : (V.drewN nq).frozen? ⟨Wo.heap.size, j, none⟩ = false := d4
                  have d3' : (V.drewN nq).cell? ⟨Wo.heap.size, j, none⟩ = some (.int .i64 (A - 1)) := d3
                  have HNew := hid (And.intro (HSet.out (-1) (by omega) (by omega)).1 (And.intro (HSet.out (-1) (by omega) (by omega)).2 (And.intro (HG2.out (V.drewN nq) (c.set j (A - 1)) (-1) HV.out.1) ((below_drewN HV.out.2 nq).setCell (p := ⟨Wo.heap.size, j, none⟩) (Nat.le_refl _) (.int .i64 (-1))))))
                  rw [List.set_set] at HNew
                  clear HSet HG2 d1 d2 d3 d4
                  go_wp2
                  go_roundw
                  case rel => exact ⟨j + 1, c.set j (-1), by go_num, by omega, HNew⟩
                  case measure => simp [intOf]; omega
                · have dE : ((A - 1) == (N : Int)) = false := beqF hE
                  have HNew := fun n => hid (And.intro (HSet.out (A - 1) (by omega) (by omega)).1 (And.intro (HSet.out (A - 1) (by omega) (by omega)).2 (And.intro (show (V.drewN n).heap[Wo.heap.size]? = _ from HV.out.1) (below_drewN HV.out.2 n))))
                  clear hE HSet HG2
                  go_quiet (fail)
                  clear d1 d2 d3 d4
                  go_wp2
                  go_roundw
                  case rel => exact ⟨j + 1, c.set j (A - 1), by go_num, by omega, HNew _⟩
                  case measure => simp [intOf]; omega
              · obtain rfl : j = ns.length := by omega
                obtain ⟨p1, p2, p3, p4, p5, p6, p7, p8⟩ := HP.out
                obtain ⟨q1, q2, q3, q4⟩ := HC.out
                have hF := intsF_row q3 (by omega)
                rw [q1] at hF
                have hgw : w.heap.size + 1 < Wo.heap.size := (Array.getElem?_eq_some_iff.1 p5).1
                have g1 : wr.heap[w.heap.size + 1]? = _ := (q4.block _ hgw).trans p5
                have g0 : wr.heap[w.heap.size]? = _ := (q4.block _ (by omega)).trans p6
                have hcb : Cov.comboB ns c = true := (comboB_iff ns c q1).2 (fun i h h' => q2 i h h' h')
                have hsW := q4.size
                have hlo := p4.lt
                have hblt : Wo.heap.size < wr.heap.size := (Array.getElem?_eq_some_iff.1 q3).1
                have hown : OwnS wZ.heap.size (fun b => wZ.heap.size ≤ b ∧ b < wr.heap.size ∧ ¬ OB (.slice fa fl fc) b) wr (.slice fa fl fc) F := (p4.kept (fun b hlt _ => q4.block b hlt)).mono (fun b _ hb => ⟨hb.1, by omega, hb.2.2⟩)
                have hu : IntsV (fun b => wZ.heap.size ≤ b ∧ b < wr.heap.size ∧ ¬ OB (.slice fa fl fc) b) wr (.slice (some ⟨Wo.heap.size, 0, none⟩) ns.length ns.length) c := IntsV.mono hF.sl (fun b h1 (h2 : b = Wo.heap.size) => ⟨by omega, h1, fun h => by have := (hlo b h).2; omega⟩)
                have HVa := hid (values_any c (by omega) _ _ wr hF.sl)
                have hbw : Below w.heap.size w wr := p7.trans (q4.mono p7.size)
                have hsz3 : IntsV (fun b => W1.heap.size ≤ b ∧ b < wZ.heap.size) wr (.slice va ns.length vc) (szI ns) := p3.keep (KeepS.of_below q4 (fun b hb => by have := hb.2; omega))
                have hFl : F.length + 1 ≤ 1000000000 := by omega
                have d1 := (row3 g1).2.1
                have HR2 := hid (And.intro hsz3 (And.intro g1 (And.intro g0 (And.intro hbw (And.intro hown (And.intro hlo (And.intro hcb p8)))))))
                have HPr := hid (And.intro p1 p2)
                have hzw : wZ.heap.size ≤ wr.heap.size := by omega
                have hoE : ∀ b, b < wr.heap.size → (wZ.heap.size ≤ b ∧ b < wr.heap.size ∧ ¬ OB (.slice fa fl fc) b) → ¬ OB (.slice fa fl fc) b := fun b _ h => h.2.2
                clear p1 p2 p3 p4 p5 p6 p7 p8 q1 q2 q3 q4 hF g1 g0 hcb hlo hbw hsz3
                go_wp2_with fail
                refine HVa.out.mono ?_
                rintro e w1 ⟨rfl, hw1⟩
                rw [hw1]
                clear hw1
                by_cases hvc : Cov.vals c = 0
                · have hv0 : ¬ (0 : Int) < ((Cov.vals c : Nat) : Int) := by omega
                  clear hvc
                  generalize Cov.vals c = vv at *
                  have HN : Hid (F.length ≤ k + 1 ∧ (∀ f ∈ F, Cov.comboB ns f = true ∧ Cov.vals f ≠ 0) ∧ IntsV (fun b => W1.heap.size ≤ b ∧ b < wZ.heap.size) wr (.slice va ns.length vc) (szI ns) ∧
                    OwnS wZ.heap.size (fun b => wZ.heap.size ≤ b ∧ b < wr.heap.size ∧ ¬ OB (.slice fa fl fc) b) wr (.slice fa fl fc) F ∧ wr.heap[w.heap.size + 1]? = some (.cells #[.slice va ns.length vc, .slice fa fl fc, .int .i64 tn] 25 (0, 0)) ∧
                    wr.heap[w.heap.size]? = some (.cells #[.slice none 0 0, .slice none 0 0, .int .i64 0] 25 (0, 0)) ∧ Below w.heap.size w wr ∧ wZ.heap.size ≤ wr.heap.size) := by
                    obtain ⟨s1, s2, s3, s4, s5, s6, s7, s8⟩ := HR2.out
                    exact hid ⟨by have := HPr.out.1; omega, HPr.out.2, s1, s5, s2, s3, s4, hzw⟩
                  clear d1 hu hown hoE
                  go_wp2
                  go_roundw
                  case rel => exact ⟨k + 1, F, _, by go_num, by omega, HN⟩
                  case measure => simp [intOf]; omega
                · have hv0 : (0 : Int) < ((Cov.vals c : Nat) : Int) := by omega
                  have HVC : Hid (∀ f, f = c → Cov.vals f ≠ 0) := hid (fun f e => by rw [e]; exact hvc)
                  clear hvc
                  generalize hvv : Cov.vals c = vv at *
                  clear hvv
                  go_wp2_with (at_builtin; go_must (refine wpList_appS1 rfl _ _ rfl Tryd.app63 rfl hown hoE rfl c hu rfl hFl hzw ?_))
                  intro v8 w8 hown8 ht8 hn8
                  obtain ⟨s1, s2, s3, s4, s5, s6, s7, s8⟩ := HR2.out
                  have k8 : ∀ {b o}, wr.heap[b]? = some o → b < wZ.heap.size → w8.heap[b]? = some o := fun {b o} h hb =>
                    (ht8.block b (fun hob => by have := (s6 b hob).1; omega) (Array.getElem?_eq_some_iff.1 h).1).trans h
                  have hgz : w.heap.size + 1 < wZ.heap.size := hgZ.out
                  have x3 := k8 s2 hgz
                  have x4 := k8 s3 (by omega)
                  have f1 := (row3 x3).2.2.2.2.1
                  have e1 := (row3 x3).2.1
                  obtain ⟨va8, vl8, vc8, rfl⟩ : ∃ a l c, v8 = .slice a l c := by obtain ⟨a, c', h, -⟩ := (hown8.sl (S := fun _ => True) (fun _ _ => trivial) (fun _ _ _ => trivial)).form; exact ⟨_, _, _, h⟩
                  have hz8 := ht8.size
                  have kS : ∀ S : Nat → Prop, (∀ b, S b → b ≠ w.heap.size + 1) → KeepS S w8 (w8.setCell ⟨w.heap.size + 1, 1, none⟩ (.slice va8 vl8 vc8)) := fun S h b hb _ => Below.heap_setCell _ _ _ _ (h b hb)
                  have hlo8 := hown8.lt
                  have HN : Hid ((F ++ [c]).length ≤ k + 1 ∧ (∀ f ∈ F ++ [c], Cov.comboB ns f = true ∧ Cov.vals f ≠ 0) ∧ IntsV (fun b => W1.heap.size ≤ b ∧ b < wZ.heap.size) (w8.setCell ⟨w.heap.size + 1, 1, none⟩ (.slice va8 vl8 vc8)) (.slice va ns.length vc) (szI ns) ∧
                    OwnS wZ.heap.size (fun b => wZ.heap.size ≤ b ∧ b < (w8.setCell ⟨w.heap.size + 1, 1, none⟩ (.slice va8 vl8 vc8)).heap.size ∧ ¬ OB (.slice va8 vl8 vc8) b) (w8.setCell ⟨w.heap.size + 1, 1, none⟩ (.slice va8 vl8 vc8)) (.slice va8 vl8 vc8) (F ++ [c]) ∧ (w8.setCell ⟨w.heap.size + 1, 1, none⟩ (.slice va8 vl8 vc8)).heap[w.heap.size + 1]? = some (.cells #[.slice va ns.length vc, .slice va8 vl8 vc8, .int .i64 tn] 25 (0, 0)) ∧
                    (w8.setCell ⟨w.heap.size + 1, 1, none⟩ (.slice va8 vl8 vc8)).heap[w.heap.size]? = some (.cells #[.slice none 0 0, .slice none 0 0, .int .i64 0] 25 (0, 0)) ∧ Below w.heap.size w (w8.setCell ⟨w.heap.size + 1, 1, none⟩ (.slice va8 vl8 vc8)) ∧ wZ.heap.size ≤ (w8.setCell ⟨w.heap.size + 1, 1, none⟩ (.slice va8 vl8 vc8)).heap.size) := by
                    have hzS : (w8.setCell ⟨w.heap.size + 1, 1, none⟩ (.slice va8 vl8 vc8)).heap.size = w8.heap.size := by simp
                    refine hid ⟨by have := HPr.out.1; simp; omega, fun f hf => ?_, (s1.keep (ht8.keep (fun b hb hob => by have := (s6 b hob).1; have := hb.2; omega))).keep (kS _ (fun b hb => by have := hb.1; have := hgW.out; omega)), ?_, (row3_set x3 _).2.1, (Below.heap_setCell _ _ _ _ (by show w.heap.size ≠ w.heap.size + 1; omega)).trans x4,
                      (s4.trans (ht8.below s4.size (fun b hb => by have := (s6 b hb).1; omega))).setCell (by show w.heap.size ≤ w.heap.size + 1; omega) _, by rw [hzS]; omega⟩
                    · rcases List.mem_append.1 hf with hf | hf
                      · exact HPr.out.2 f hf
                      · rw [List.mem_singleton.1 hf]; exact ⟨s7, HVC.out c rfl⟩
                    · refine (hown8.kept (fun b _ hb => Below.heap_setCell _ _ _ _ ?_)).mono (fun b hb1 hb2 => ⟨hb2.1, hb1, fun h => ?_⟩)
                      · show b ≠ w.heap.size + 1
                        rcases hb with hb | hb
                        · have := (hlo8 b hb).1; omega
                        · have := hb.1; omega
                      · rcases hn8 b h with h | h
                        · exact hb2.2.2 h
                        · have := hb2.2.1; omega
                  clear hown8 ht8 hn8 s1 s2 s3 s4 s5 s6 s7 s8 k8 kS hlo8 x3 x4 hz8 hown hu hoE d1
                  go_wp2
                  go_roundw
                  case rel => exact ⟨k + 1, F ++ [c], _, by go_num, by omega, HN⟩
                  case measure => simp [intOf]; omega
          · obtain ⟨p1, p2, p3, p4, p5, p6, p7, p8⟩ := HP.out
            have hgW2 := hgW.out
            have hgZ2 := hgZ.out
            have e0 := (row3 p5).1
            have e1 := (row3 p5).2.1
            have e2 := (row3 p5).2.2.1
            have t1 := row3_set p6 (.slice va ns.length vc)
            have t2 := row3_set t1.1 (.slice fa fl fc)
            have t3 := row3_set t2.2.1 (.int .i64 (tn : Int))
            have HL := hid t3.2.2
            have hlo := p4.lt
            have HF : Hid ((∀ b, b ≠ w.heap.size → (((wr.setCell ⟨w.heap.size, 0, none⟩ (.slice va ns.length vc)).setCell ⟨w.heap.size, 1, none⟩ (.slice fa fl fc)).setCell ⟨w.heap.size, 2, none⟩ (.int .i64 (tn : Int))).heap[b]? = wr.heap[b]?) ∧ Below w.heap.size w (((wr.setCell ⟨w.heap.size, 0, none⟩ (.slice va ns.length vc)).setCell ⟨w.heap.size, 1, none⟩ (.slice fa fl fc)).setCell ⟨w.heap.size, 2, none⟩ (.int .i64 (tn : Int)))) :=
              hid ⟨fun b hb => (Below.heap_setCell _ _ _ _ hb).trans ((Below.heap_setCell _ _ _ _ hb).trans (Below.heap_setCell _ _ _ _ hb)), ((p7.setCell (p := ⟨w.heap.size, 0, none⟩) (Nat.le_refl _) _).setCell (p := ⟨w.heap.size, 1, none⟩) (Nat.le_refl _) _).setCell (p := ⟨w.heap.size, 2, none⟩) (Nat.le_refl _) _⟩
            have HO := hid (And.intro p1 (And.intro p2 (And.intro p3 (And.intro p4 hlo))))
            have f0 := (row3 p6).2.2.2.1
            have b0 := (row3 p6).1
            have b1 := (row3 t1.1).2.1
            have b2 := (row3 t2.2.1).2.2.1
            have f1 := (row3 t1.1).2.2.2.2.1
            have f2' := (row3 t2.2.1).2.2.2.2.2
            clear p1 p2 p3 p4 p5 p6 p7 p8 t1 t2 t3 hlo
            go_wp2
            refine bodyPost_ret (load_made HL.out rfl) rfl ⟨ns, F, tn, _, _, rfl, HZ.out.1, by omega, by omega, by have := HO.out.1; omega, HO.out.2.1, HTn.out.1, HTn.out.2.1, HTn.out.2.2, ?_, ?_, HF.out.2⟩
            · exact IntsV.mono (HO.out.2.2.1.keep (fun b hb _ => HF.out.1 b (by have := hb.1; omega))) (fun b _ hb => by have := hb.1; show w.heap.size ≤ b; omega)
            · have h4 := HO.out.2.2.2.1.kept (w' := (((wr.setCell ⟨w.heap.size, 0, none⟩ (.slice va ns.length vc)).setCell ⟨w.heap.size, 1, none⟩ (.slice fa fl fc)).setCell ⟨w.heap.size, 2, none⟩ (.int .i64 (tn : Int)))) (fun b hlt hb => HF.out.1 b (by
                rcases hb with hb | hb
                · have := (HO.out.2.2.2.2 b hb).1; omega
                · have := hb.1; omega))
              exact h4.sl (fun b hb => by have := (HO.out.2.2.2.2 b hb).1; show w.heap.size ≤ b; omega) (fun b _ hb => by have := hb.1; show w.heap.size ≤ b; omega)

end Go.Proofs.YtjaejnacdanpkaaDoor
