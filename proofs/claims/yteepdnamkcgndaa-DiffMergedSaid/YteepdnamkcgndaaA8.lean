/- What a run of changes keeps; a world that is made of empty kinds. Apply of the program. Worlds and changes that are written out. -/
import Derived.Test.YteepdnamkcgndaaA7
import Derived.Laws.MakeOwn
import Derived.Test.YteepdnamkcgndaaA3
import Derived.Test.YteepdnamkcgndaaA4
import Derived.Test.YteepdnamkcgndaaA2
namespace Go.Proofs.Yteepdnamkcgndaa
open Go.RowKit

/-- A world between two changes: even records, at most n of a kind. -/
def MidW (l n : Nat) (V : List (List (List Int))) : Prop := EvenW V ∧ V.length = l ∧ ∀ rows ∈ V, rows.length ≤ n

theorem mem_set {α : Type} {xs : List α} {i : Nat} {x y : α} (h : y ∈ xs.set i x) : y = x ∨ y ∈ xs := by
  rcases List.mem_or_eq_of_mem_set h with h | h
  · exact .inr h
  · exact .inl h

theorem MidW.step {l n : Nat} {V : List (List (List Int))} (h : MidW l n V) {c : Chg} (hf : fitsE V c = 0) : MidW l (n + 1) (doC V c) := by
  obtain ⟨h1, h2, h3⟩ := h
  unfold fitsE at hf
  split at hf
  · exact absurd hf (by decide)
  rename_i hn
  have hfm : FormedC c := by
    by_cases h : FormedC c
    · exact h
    · exact absurd (.inl h) hn
  have hnm : ¬ MisC V c := fun h => hn (.inr h)
  split at hf
  · exact absurd hf (by decide)
  rename_i hk
  have hkc : KnownC V c := by
    by_cases h : KnownC V c
    · exact h
    · exact absurd h hk
  have hkl : c.kind.toNat < V.length := by have := hkc.1; have := hkc.2; omega
  have hrows : rowsC V c = V[c.kind.toNat] := getD_eq hkl
  have hmem : rowsC V c ∈ V := by rw [hrows]; exact List.getElem_mem hkl
  have hev := h1 _ hmem
  have hlen := h3 _ hmem
  -- the new kind
  have key : ∀ R : List (List Int), (∀ r ∈ R, 1 ≤ r.length ∧ r.length ≤ 10 ∧ r.length = (R.headD []).length) → R.length ≤ n + 1 → MidW l (n + 1) (V.set c.kind.toNat R) := by
    intro R hR hRl
    refine ⟨fun rows hr => ?_, by simpa using h2, fun rows hr => ?_⟩
    · rcases mem_set hr with rfl | hr
      · exact hR
      · exact h1 rows hr
    · rcases mem_set hr with rfl | hr
      · exact hRl
      · have := h3 rows hr; omega
  unfold doC
  by_cases e1 : c.field = -1
  · rw [if_pos e1]
    have hv : 1 ≤ c.values.length ∧ c.values.length ≤ 10 := by
      have h := hfm; unfold FormedC at h; rw [if_neg (by omega)] at h; exact h.2.2.2
    refine key _ (fun r hr => ?_) (by rw [List.length_append, List.length_singleton]; omega)
    rcases Nat.eq_zero_or_pos (rowsC V c).length with h0 | h0
    · have h00 : rowsC V c = [] := List.eq_nil_of_length_eq_zero h0
      rw [h00] at hr ⊢
      simp at hr
      subst hr
      exact ⟨hv.1, hv.2, rfl⟩
    · have hhd : ((rowsC V c ++ [c.values]).headD []) = (rowsC V c).headD [] := by
        generalize rowsC V c = R at h0
        cases R with
        | nil => simp at h0
        | cons x xs => rfl
      rw [hhd]
      rcases List.mem_append.1 hr with hr | hr
      · exact hev r hr
      · rw [List.mem_singleton.1 hr]
        refine ⟨hv.1, hv.2, ?_⟩
        by_cases h : c.values.length = ((rowsC V c).headD []).length
        · exact h
        · exact absurd ⟨by omega, hkc, h0, h⟩ hnm
  · rw [if_neg e1]
    by_cases e2 : c.field = -2
    · rw [if_pos e2]
      refine key _ (fun r hr => ?_) (by rw [List.length_take]; omega)
      have hhd : ((rowsC V c).take c.index.toNat).headD [] = (rowsC V c).headD [] := by
        generalize c.index.toNat = q at hr
        generalize rowsC V c = R at hr
        cases q with
        | zero => simp at hr
        | succ q => cases R with
          | nil => rfl
          | cons x xs => rfl
      rw [hhd]
      exact hev r (List.mem_of_mem_take hr)
    · rw [if_neg e2]
      rw [if_neg e1, if_neg e2] at hf
      split at hf
      · exact absurd hf (by decide)
      rename_i hi
      have hil : c.index.toNat < (rowsC V c).length := by omega
      have hq := hev _ (List.getElem_mem hil)
      rw [getD_eq hil]
      have hhd : (((rowsC V c).set c.index.toNat ((rowsC V c)[c.index.toNat].set c.field.toNat c.new)).headD []).length = ((rowsC V c).headD []).length := by
        rw [headD_eq [] (show 0 < ((rowsC V c).set c.index.toNat ((rowsC V c)[c.index.toNat].set c.field.toNat c.new)).length by rw [List.length_set]; omega), headD_eq [] (show 0 < (rowsC V c).length by omega)]
        by_cases h0 : c.index.toNat = 0
        · simp [h0]
        · rw [List.getElem_set_ne h0]
      refine key _ (fun r hr => ?_) (by rw [List.length_set]; omega)
      rw [hhd]
      rcases mem_set hr with rfl | hr
      · simp only [List.length_set]; exact hq
      · exact hev r hr

theorem total_mul {n : Nat} : ∀ V : List (List (List Int)), (∀ rows ∈ V, rows.length ≤ n) → total V ≤ n * V.length
  | [], _ => by simp [total]
  | r :: V, h3 => by
    have h1 := total_mul V (fun x hx => h3 x (List.mem_cons_of_mem _ hx))
    have h2 := h3 r (List.mem_cons_self ..)
    unfold total at h1 ⊢
    rw [List.map_cons, List.sum_cons, List.length_cons, Nat.mul_add, Nat.mul_one]
    omega
theorem MidW.total {l n : Nat} {V : List (List (List Int))} (h : MidW l n V) : total V ≤ n * l := by
  obtain ⟨-, h2, h3⟩ := h
  subst h2
  exact total_mul V h3

/-- The cells of n nil slices. -/
def nilCells (n : Nat) : Array Value := (List.replicate n (.slice none 0 0)).toArray
theorem madeCells_nil (n : Nat) : madeCells (Value.slice none 0 0).cells (n * 1) = nilCells n := by
  apply Array.ext
  · simp [madeCells, nilCells]
  · intro i h1 h2
    simp [madeCells, nilCells, Value.cells, Nat.mod_one]

/-- 'make(T, n)' of elements that are nil slices. -/
theorem run_mkNil {P : Program} {t e : TypeId} {b : Nat} (ht : P.underlying t = some (.slice e)) (hi : (P.info? e).map (fun i => (i.zero, i.size, i.bytes)) = some (some (.slice none 0 0), 1, b)) (hb : b ≤ 1000)
    (n : Nat) (hn : n ≤ 1000000) (w : World) :
    (Instr.makeSlice t (.int .i64 (n : Int)) (.int .i64 (n : Int))).run P w = .ok (.slice (some ⟨w.heap.size, 0, none⟩) n n) (w.alloc (.cells (nilCells n) e)) := by
  obtain ⟨i, h1, h2, h3, h4⟩ := info_parts hi
  have hy : (i.bytes : Int) * (n : Int) ≤ 281474976710656 := by
    have h : i.bytes * n ≤ 1000 * 1000000 := Nat.mul_le_mul (by omega) hn
    have : ((i.bytes * n : Nat) : Int) ≤ 281474976710656 := by omega
    rwa [Int.natCast_mul] at this
  have hr := run_make (P := P) w t e i (.slice none 0 0) ht h1 h2 .i64 .i64 (n : Int) (n : Int) (by omega) (by omega) hy (by omega)
  rw [h3, Int.toNat_natCast, madeCells_nil] at hr
  exact hr

theorem made_worldF (w : World) (n : Nat) (hn : n ≤ 1000000) : WorldF (w.heap.size ≤ ·) (w.alloc (.cells (nilCells n) 46)) (.slice (some ⟨w.heap.size, 0, none⟩) n n) (List.replicate n []) := by
  refine ⟨fun b hb => by simp [Value.ownBlock] at hb; omega, List.replicate n (.slice none 0 0), fun _ => 0, ?_, by simp, fun j h1 h2 => ?_⟩
  · rw [List.length_replicate]
    refine ⟨by simp, .inr ⟨w.heap.size, n, nilCells n, rfl, Nat.zero_le _, heap_alloc_new w _, Nat.le_refl _, by unfold maxLen; omega, by simp [nilCells], ?_⟩⟩
    simp [nilCells]
  · simp only [List.getElem_replicate]
    exact OwnF.nil _ _ _ _

end Go.Proofs.Yteepdnamkcgndaa

namespace Go.Proofs.Yteepdnamkcgndaa
open Go.RowKit

/-- A world of which the first k kinds have been copied. -/
def cpW (V : List (List (List Int))) (k : Nat) : List (List (List Int)) := V.take k ++ List.replicate (V.length - k) []
theorem cpW_len (V : List (List (List Int))) (k : Nat) (hk : k ≤ V.length) : (cpW V k).length = V.length := by unfold cpW; simp; omega
theorem cpW_zero (V : List (List (List Int))) : cpW V 0 = List.replicate V.length [] := by unfold cpW; simp
theorem cpW_all (V : List (List (List Int))) : cpW V V.length = V := by unfold cpW; simp
theorem cpW_at (V : List (List (List Int))) (k : Nat) (hk : k < V.length) : (cpW V k).set k [] = cpW V k := by
  unfold cpW
  refine List.ext_getElem (by simp) (fun i h1 h2 => ?_)
  rw [List.getElem_set]
  split
  · rename_i h; subst h; rw [List.getElem_append_right (by simp; omega)]; simp
  · rfl
theorem cpW_succ (V : List (List (List Int))) (k : Nat) (hk : k < V.length) : (cpW V k).set k V[k] = cpW V (k + 1) := by
  unfold cpW
  refine List.ext_getElem (by simp; omega) (fun i h1 h2 => ?_)
  rw [List.getElem_set]
  split
  · rename_i h; subst h; rw [List.getElem_append_left (by simp; omega)]; simp
  · rename_i h
    by_cases hi : i < k
    · rw [List.getElem_append_left (by simp; omega), List.getElem_append_left (by simp; omega)]; simp
    · rw [List.getElem_append_right (by simp; omega), List.getElem_append_right (by simp; omega)]; simp

theorem apply1_mid {l n : Nat} {W : List (List (List Int))} (hM : MidW l n W) (hl : l ≤ 6) (hn : n ≤ 100000) (c : Chg) (hc : c.values.length ≤ 100000) (ad : Option Addr) (cap : Nat) (S T' : Nat → Prop) (w : World) (aa : Option Addr) (ca : Nat)
    (hw : WorldF S w (.slice aa l ca) W) (hu : IntsV T' w (.slice ad c.values.length cap) c.values) :
    Calls Try.prog 37 #[.slice aa l ca, c.val (.slice ad c.values.length cap)] w fun e w' => e = .returned (.int .i64 (fitsE W c)) ∧ Turns S w w' ∧ (fitsE W c = 0 → WorldF (Grow S w.heap.size) w' (.slice aa l ca) (doC W c)) := by
  obtain ⟨h1, rfl, h3⟩ := hM
  exact apply1_any W h1 hl (fun rows hr => by have := h3 rows hr; omega) c hc ad cap S T' w aa ca hw hu

theorem slice_at {g g' n n' c c' : Nat} (h : Value.slice (some ⟨g, 0, none⟩) n c = Value.slice (some ⟨g', 0, none⟩) n' c') : g = g' := by
  injection h with h _ _
  injection h with h
  injection h with h

set_option maxRecDepth 100000 in
set_option maxHeartbeats 4000000 in
theorem applyP_any (V : List (List (List Int))) (hV : Small V) (cs : List Chg) (hcs : cs.length ≤ 100000) (hcv : ∀ c ∈ cs, c.values.length ≤ 100000) (u v : Value) (S T : Nat → Prop) (w : World) (hu : WorldV S w u V) (hv : ChV T w v cs) :
    Calls Try.prog 17 #[u, v] w fun e w' => ∃ x, e = .returned (.tuple #[x, .int .i64 (applyL V cs).1]) ∧ WorldV AnyB w' x (applyL V cs).2 ∧ Below w.heap.size w w' := by
  have hSh := shapedP_any V hV u S w hu
  have HSh := hid hSh
  clear hSh
  have hu0 := hu
  have hv0 := hv
  obtain ⟨a, cap, rfl, hok, hcap, hmax⟩ := hu.form
  obtain ⟨ac, capc, rfl, hokc, hcapc, hmaxc⟩ := hv.form
  clear hu hv
  have hn := hV.1
  by_cases hsh : ShapedW V
  · have HA : Hid (applyL V cs = if 8192 < cs.length then (4, []) else if (runC V cs).1 ≠ 0 then ((runC V cs).1, []) else if 512 < total (runC V cs).2 then (4, []) else runC V cs) := hid (by unfold applyL; rw [if_neg (fun h => h hsh)])
    have hV6 := hsh.2.1
    have hV0 : MidW V.length 512 V := ⟨hsh.even, rfl, fun rows hr => (shaped_kind hsh hr).1⟩
    have HV := hid hV0
    have hrow := fun (rows : List (List Int)) (hr : rows ∈ V) => (shaped_kind hsh hr)
    have HRow := hid hrow
    clear hV0 hrow
    rw [decide_eq_true hsh] at HSh
    clear hsh
    go_enter Try.func17, Try.ntmps17
    go_wp2_with fail
    refine HSh.out.mono ?_
    rintro e w1 ⟨rfl, hb1⟩
    by_cases h8 : 8192 < cs.length
    · have h8' : (8192 : Int) < cs.length := by omega
      have HA2 := hid (HA.out.trans (if_pos h8))
      clear HA h8
      go_wp2
      go_ret2
      exact ⟨.slice none 0 0, by rw [HA2.out]; rfl, by rw [HA2.out]; exact SlV.nil _ _ _, hb1⟩
    · have h8' : (cs.length : Int) ≤ 8192 := by omega
      have HA2 := hid (HA.out.trans (if_neg h8))
      clear HA h8
      have hmk := run_mkNil (P := Try.prog) (t := 25) (e := 46) (b := 24) (by kernel_rfl) (by kernel_rfl) (by omega) V.length (by omega) w1
      have hz2 := hb1.size
      obtain ⟨g0, hg0⟩ : ∃ g0, g0 = w1.heap.size := ⟨_, rfl⟩
      have hmw := made_worldF w1 V.length (by omega)
      rw [← cpW_zero, ← hg0] at hmw
      have hbm : Below w.heap.size w (w1.alloc (.cells (nilCells V.length) 46)) := hb1.alloc hz2 _
      have HM : Hid (WorldF (w.heap.size ≤ ·) (w1.alloc (.cells (nilCells V.length) 46)) (.slice (some ⟨g0, 0, none⟩) V.length V.length) (cpW V 0)) := hid (steady_worldF.mono hmw (fun b _ hb => by have : g0 ≤ b := hb; omega))
      have HG := hid hg0
      rw [← hg0] at hmk
      clear hmw hg0
      go_wp2
      clear hmk
      go_loopw [26] (fun i wr => ∃ k : Nat, k ≤ V.length ∧ i = .int .i64 k ∧ WorldF (w.heap.size ≤ ·) wr (.slice (some ⟨g0, 0, none⟩) V.length V.length) (cpW V k) ∧ Below w.heap.size w wr) (fun i _ => V.length - (intOf i).toNat)
      case atStart => exact ⟨0, by omega, rfl, HM.out, hbm⟩
      case round =>
        obtain ⟨k, hk, rfl, hown, hb⟩ := hrel
        by_cases hlt : k < V.length
        · obtain ⟨ak, ck, hckw, hbkw, hokk, hmk, hmax2, hrV⟩ := kind_at hu0 hlt
          have hck := cell_later hb hckw
          have hrow := HRow.out _ (List.getElem_mem hlt)
          have HS1 := hid (cpW_succ V k hlt)
          have HL := hid (cpW_len V k hk)
          have hX0 : WorldF (w.heap.size ≤ ·) wr (.slice (some ⟨g0, 0, none⟩) V.length V.length) ((cpW V k).set k []) := by rw [cpW_at V k hlt]; exact hown
          have HX0 := hid hX0
          clear hX0 hown
          generalize cpW V k = X at *
          generalize V[k] = rows at *
          have hrl := hrow.1
          have HR1 := hid hrow.2
          clear hrow
          obtain ⟨wo, rfl⟩ : ∃ wo : World, wo = wr := ⟨_, rfl⟩
          go_wp2
          go_loopw [34] (fun i w2 => ∃ j : Nat, j ≤ rows.length ∧ i = .int .i64 j ∧ Hid (WorldF (w.heap.size ≤ ·) w2 (.slice (some ⟨g0, 0, none⟩) V.length V.length) (X.set k (rows.take j))) ∧ Below w.heap.size w w2) (fun i _ => rows.length - (intOf i).toNat)
          case atStart => exact ⟨0, by omega, rfl, hid (by simpa using HX0.out), hb⟩
          case round =>
            obtain ⟨j, hj, rfl, hown2, hb2⟩ := hrel
            by_cases hjr : j < rows.length
            · have hrk2 : RowsV S wr (.slice ak rows.length ck) rows := hrV.keep (KeepS.below hb2)
              obtain ⟨ar, cr, hcr, hbr, hokr, hmr, hmaxr, hrr⟩ := row_at hrk2 hjr
              have hr10 := (HR1.out _ (List.getElem_mem hjr)).1
              have HT2 := hid (take_snoc hjr)
              have hlen2 : (rows.take j).length ≤ 512 := by simp; omega
              have hkX : k < (X.set k (rows.take j)).length := by rw [List.length_set, HL.out]; exact hlt
              obtain ⟨g, capg, u, T1, e1, e2, e3, hSg, hcg, hfg, hRg, hT, -, hback⟩ := OwnF.borrow steady_rowsF hown2.out k hkX
              have hgg : g0 = g := (slice_at e1)
              subst hgg
              rw [List.getElem_set_self] at hRg
              have hbg : g0 < wr.heap.size := World.block_lt_of_cell? _ _ hcg
              obtain ⟨au, lu, cu, rfl⟩ : ∃ a l c, u = .slice a l c := by obtain ⟨a, c, e, _⟩ := (RowsF.sl hRg).form; exact ⟨_, _, _, e⟩
              have HRg := hid hRg
              have HB := hid (fun w2 u' => hback w2 u' (rows.take j ++ [rows[j]]))
              have HT := hid hT
              have HSg := hid hSg
              have HSS : Hid ((X.set k (rows.take j)).set k (rows.take j ++ [rows[j]]) = X.set k (rows.take (j + 1))) := hid (by rw [List.set_set, HT2.out])
              clear e1 hRg hT hback hkX
              generalize (X.set k (rows.take j)).set k (rows.take j ++ [rows[j]]) = XX at *
              have HR := hid hrr
              generalize rows[j] = r at *
              have hk0 : (0 : Int) ≤ k := by omega
              have hk1 : (k : Int) < V.length := by omega
              clear hrr hrk2
              go_wp2
              refine wp_region_held 10 [(true, 0), (true, 1), (true, 2), (true, 3), (true, 4), (true, 5), (true, 6), (false, 7), (false, 8), (false, 9)]
                (fun W => W.cell? ⟨g0, k, none⟩ = some (.slice au lu cu)) (by kernel_rfl) (by kernel_rfl) hcg ?_
              intro hne
              refine wpSteps_pre 7 (by decide) ?_
              simp only [List.take_succ_cons, List.take_zero]
              have hx0 : ∀ x : Held (fun W => W.cell? ⟨g0, k, none⟩ = some (.slice au lu cu)), x.1.cell? ⟨g0, k, none⟩ = some (.slice au lu cu) := fun x => x.2
              repeat (go_big_quiet_step (fail))
              refine wpQuiet_nil ?_
              refine wpSteps_one rfl ?_
              clear hx0 hne
              go_wp2_with fail
              refine (clone_any r (by omega) _ S _ (HR.out.keep (KeepS.below (below_drewN (Below.refl _ _) 1)))).mono ?_
              rintro e w3 ⟨x, rfl, hI, hb3⟩
              have hb5 : Below wr.heap.size wr w3 := (below_drewN (Below.refl _ _) 1).trans hb3
              have hs3 : wr.heap.size ≤ w3.heap.size := hb5.size
              have hc30 : w3.cell? ⟨g0, k, none⟩ = some (.slice au lu cu) := cell_later hb5 hcg
              have hsl := hI.sl
              obtain ⟨av, cv, rfl, -, -, -⟩ := hsl.form
              have HI : Hid (IntsF (fun b => wr.heap.size ≤ b) w3 (.slice av r.length cv) r) := hid hI
              clear hsl hI hb3
              go_wp2
              refine qn_mk ⟨InHeld.of hc30, ?_⟩
              refine wpSteps_one rfl ?_
              go_wp2
              have hc40 : (w3.alloc (.cells #[.slice av r.length cv] 22)).cell? ⟨g0, k, none⟩ = some (.slice au lu cu) := by rw [World.cell?_alloc_lt _ _ _ (by show g0 < w3.heap.size; omega)]; exact hc30
              refine qn_mk ⟨InHeld.of hc40, ?_⟩
              clear hc40
              refine wpSteps_one rfl ?_
              go_wp2_with (at_builtin; go_must (refine wpList_appF1 steady_intsF rfl _ _ rfl Try.app63 rfl HRg.out hb5 rfl r HI.out rfl (by omega) ?_))
              intro v' w4 hR4 ht4
              obtain ⟨av', lv', cv', rfl⟩ : ∃ a l c, v' = .slice a l c := by obtain ⟨a, c, e, _⟩ := (RowsF.sl hR4).form; exact ⟨_, _, _, e⟩
              have htT : Turns T1 wr w4 := (Turns.of_below hb5).trans (ht4.mono fun b _ hb => HRg.out.1 b hb.symm)
              obtain ⟨k1, k2, k3, k4⟩ := HB.out w4 _ htT hR4
              have hb6 : Below w.heap.size w (w4.setCell ⟨g0, k, none⟩ (.slice av' lv' cv')) := hb2.trans (k4.below hb2.size (fun b hb => by
                rcases hb with hb | hb
                · exact (HT.out b hb).1
                · rw [hb]; exact HSg.out))
              have K3 : Hid (WorldF (w.heap.size ≤ ·) (w4.setCell ⟨g0, k, none⟩ (.slice av' lv' cv')) (.slice (some ⟨g0, 0, none⟩) V.length V.length) (X.set k (rows.take (j + 1)))) := hid (by
                rw [← HSS.out]; exact steady_worldF.mono k3 (fun b _ h => grow_from hb2.size b h))
              clear k3 k4 hR4 ht4 HI htT hown2 hb2 HB HRg HT HSg
              go_wp2
              refine qn_mk ⟨InHeld.of k1, ?_⟩
              refine wpSteps_done ?_
              clear hc30
              go_wp2
              go_roundw
              case rel => exact ⟨j + 1, by omega, by go_num, K3, hb6⟩
              case measure => simp [intOf]; omega
            · obtain rfl : j = rows.length := by omega
              have hown3 : WorldF (w.heap.size ≤ ·) wr (.slice (some ⟨g0, 0, none⟩) V.length V.length) (cpW V (k + 1)) := by
                have h := hown2.out
                rw [List.take_length, HS1.out] at h
                exact h
              have HO := hid hown3
              clear hown3 hown2
              go_wp2
              go_roundw
              case rel => exact ⟨k + 1, by omega, by go_num, HO.out, hb2⟩
              case measure => simp [intOf]; omega
        · obtain rfl : k = V.length := by omega
          rw [cpW_all] at hown
          have hv1 : ChV T wr (.slice ac cs.length capc) cs := hv0.keep (KeepS.below hb)
          have HO := hid hown
          clear hown
          obtain ⟨wo, rfl⟩ : ∃ wo : World, wo = wr := ⟨_, rfl⟩
          go_wp2
          go_loopw [53] (fun i wr => ∃ (k : Nat) (W : List (List (List Int))), k ≤ cs.length ∧ i = .int .i64 k ∧ Hid (runC V cs = runC W (cs.drop k)) ∧ Hid (MidW V.length (512 + k) W) ∧ Hid (WorldF (w.heap.size ≤ ·) wr (.slice (some ⟨g0, 0, none⟩) V.length V.length) W) ∧ Below w.heap.size w wr) (fun i _ => cs.length - (intOf i).toNat)
          case atStart => exact ⟨0, V, by omega, rfl, hid rfl, HV, HO, hb⟩
          case round =>
            obtain ⟨k, W, hk, rfl, HRun, HMid, HW, hb2⟩ := hrel
            by_cases hlt : k < cs.length
            · have hv1 : ChV T wr (.slice ac cs.length capc) cs := hv0.keep (KeepS.below hb2)
              obtain ⟨hbk, -, c0, c1, c2, c3, c4, ul, c5, hul⟩ := hv1.at hlt
              have hcl := hcv _ (List.getElem_mem hlt)
              have HRun2 : Hid (runC V cs = if fitsE W cs[k] ≠ 0 then (fitsE W cs[k], W) else runC (doC W cs[k]) (cs.drop (k + 1))) := hid (by rw [HRun.out, List.drop_eq_getElem_cons hlt]; rfl)
              have HStep : Hid (fitsE W cs[k] = 0 → MidW V.length (512 + k + 1) (doC W cs[k])) := hid (fun h => HMid.out.step h)
              generalize cs[k] = c at *
              have HC := fun ad cap w' => hid (apply1_mid HMid.out hV6 (by omega) c hcl ad cap (w.heap.size ≤ ·) T w' (some ⟨g0, 0, none⟩) V.length)
              obtain ⟨q1, q2, q3, q4, q5, vs⟩ := c
              simp only at c0 c1 c2 c3 c4 hul
              have hul0 := hul
              obtain ⟨al, cl, rfl, -, -, -⟩ := hul.form
              have HUL := hid hul0
              clear hul hul0 hv1
              have hk0 : (0 : Int) ≤ k := by omega
              have hk1 : (k : Int) < cs.length := by omega
              simp only [Chg.val] at HC
              go_wp2_with fail
              have hz2 := hb2.size
              refine ((HC al cl _).out (steady_worldF.keep HW.out (KeepS.below ((Below.refl _ _).alloc (Nat.le_refl _) _))) (HUL.out.keep (KeepS.below ((Below.refl _ _).alloc (Nat.le_refl _) _)))).mono ?_
              rintro e w3 ⟨rfl, ht3, hw3⟩
              have hb3 : Below w.heap.size w w3 := (hb2.alloc hz2 _).trans (ht3.below (by simp; omega) (fun b h => h))
              have HW3 := hid hw3
              have hz3 : w.heap.size ≤ (wr.alloc (.cells #[.int .i64 q1, .int .i64 q2, .int .i64 q3, .int .i64 q4, .int .i64 q5, .slice al vs.length cl] 59)).heap.size := by simp; omega
              clear ht3 hw3 HC HW hb2 c0 c1 c2 c3 c4 c5
              generalize doC W ⟨q1, q2, q3, q4, q5, vs⟩ = W' at *
              generalize fitsE W ⟨q1, q2, q3, q4, q5, vs⟩ = ee at *
              by_cases he : ee = 0
              · subst he
                have HW4 : Hid (WorldF (w.heap.size ≤ ·) w3 (.slice (some ⟨g0, 0, none⟩) V.length V.length) W') := hid (steady_worldF.mono (HW3.out rfl) (fun b _ h => grow_from hz3 b h))
                have HM4 : Hid (MidW V.length (512 + (k + 1)) W') := hid (HStep.out rfl)
                have HR4 : Hid (runC V cs = runC W' (cs.drop (k + 1))) := hid (by rw [HRun2.out, if_neg (fun h => h rfl)])
                clear hz3
                go_wp2
                go_roundw
                case rel => exact ⟨k + 1, W', by omega, by go_num, HR4, HM4, HW4, hb3⟩
                case measure => simp [intOf]; omega
              · have hd : (ee != 0) = true := bneT he
                have HR4 : Hid (runC V cs = (ee, W)) := hid (by rw [HRun2.out, if_pos he])
                have HA3 : Hid (applyL V cs = (ee, [])) := hid (by rw [HA2.out, HR4.out, if_pos he])
                clear he hz3
                go_wp2
                go_ret2
                exact ⟨.slice none 0 0, by rw [HA3.out]; rfl, by rw [HA3.out]; exact SlV.nil _ _ _, hb3⟩
            · obtain rfl : k = cs.length := by omega
              have HA3 : Hid (applyL V cs = if 512 < total W then (4, []) else (0, W)) := hid (by
                rw [HA2.out, HRun.out, List.drop_length]; rfl)
              have hWl := HMid.out.2.1
              have hWt := HMid.out.total
              have hWr := HMid.out.2.2
              have hwv := (WorldF.sl HW.out)
              have hWV := hid hwv
              rw [← hWl] at hWV hV6 hn
              have hWl' := hid hWl
              have hWR := hid hWr
              have hlr : ∀ j, (h : j < W.length) → W[j].length ≤ 100000 := fun j h => by have := hWr _ (List.getElem_mem h); omega
              have hLR := hid hlr
              have hLT : Hid (∀ j, j ≤ W.length → total (W.take j) ≤ 100000 * j) := hid (fun j hj => by
                have h := total_mul (n := 100000) (W.take j) (fun rows hr => by have := hWr _ (List.mem_of_mem_take hr); omega)
                rw [List.length_take] at h
                have e : min j W.length = j := by omega
                rw [e] at h
                exact h)
              clear hlr hwv hWr HW HMid hWt
              obtain ⟨aw, cw, ew, hokw, hcapw, hmaxw⟩ := hWV.out.form
              obtain ⟨wo2, rfl⟩ : ∃ wo2 : World, wo2 = wr := ⟨_, rfl⟩
              go_wp2
              go_loopw [13, 66] (fun t i w2 => ∃ k : Nat, k ≤ W.length ∧ i = .int .i64 k ∧ t = .int .i64 (total (W.take k)) ∧ w2 = wo2) (fun _ i _ => W.length - (intOf i).toNat)
              case atStart => exact ⟨0, by omega, rfl, by simp [total], rfl⟩
              case round =>
                obtain ⟨k, hk, rfl, rfl, rfl⟩ := hrel
                have h1 := hLT.out k hk
                have hWl := hWl'.out
                by_cases hlt : k < W.length
                · obtain ⟨ak, ck, hck, hbk, hokk, hmk, hmax2, -⟩ := kind_at hWV.out hlt
                  simp only [slb_some, slo_some, Nat.zero_add] at hck hbk
                  have h2 := hLR.out k hlt
                  have HT := hid (total_succ hlt)
                  have hkv : (k : Int) < V.length := by omega
                  have hkn : k < V.length := by omega
                  generalize total (W.take k) = t at *
                  generalize W[k].length = m at *
                  clear hWl
                  go_wp2
                  go_roundw
                  case rel => exact ⟨k + 1, by omega, by go_num, by rw [HT.out]; go_num, trivial⟩
                  case measure => simp [intOf]; omega
                · obtain rfl : k = W.length := by omega
                  rw [List.take_length] at h1 ⊢
                  have hge : ¬ (W.length : Int) < V.length := by omega
                  have hge2 : ¬ W.length < V.length := by omega
                  have HWf : Hid (WorldV AnyB wr (.slice (some ⟨g0, 0, none⟩) V.length V.length) W) := hid (by
                    have h := hWV.out; rw [hWl] at h; exact WorldV.mono h (fun _ _ _ => trivial))
                  clear hWl hWV
                  have HT := hid (rfl : total W = total W)
                  by_cases h5 : 512 < total W
                  · have HA4 := hid (HA3.out.trans (if_pos h5))
                    have h5' : (512 : Int) < total W := by omega
                    clear h5
                    generalize total W = t at *
                    go_wp2
                    go_ret2
                    exact ⟨.slice none 0 0, by rw [HA4.out]; rfl, by rw [HA4.out]; exact SlV.nil _ _ _, hb2⟩
                  · have HA4 := hid (HA3.out.trans (if_neg h5))
                    have h5' : (total W : Int) ≤ 512 := by omega
                    clear h5
                    generalize total W = t at *
                    go_wp2
                    go_ret2
                    exact ⟨_, by rw [HA4.out]; rfl, by rw [HA4.out]; exact HWf.out, hb2⟩
  · have HA2 : Hid (applyL V cs = (2, [])) := hid (by unfold applyL; rw [if_pos hsh])
    rw [decide_eq_false hsh] at HSh
    clear hsh
    go_enter Try.func17, Try.ntmps17
    go_wp2_with fail
    refine HSh.out.mono ?_
    rintro e w1 ⟨rfl, hb1⟩
    go_wp2
    go_ret2
    exact ⟨.slice none 0 0, by rw [HA2.out]; rfl, by rw [HA2.out]; exact SlV.nil _ _ _, hb1⟩

end Go.Proofs.Yteepdnamkcgndaa

namespace Go.Proofs.Yteepdnamkcgndaa
open Go.RowKit

/-- A block that was just built reads as a slice. -/
theorem sl_blk {α : Type} {R : World → Value → α → Prop} {w : World} {b : Nat} {t : TypeId} (us : List Value) (xs : List α) (h : w.heap[b]? = some (.cells us.toArray t (0, 0))) (hl : us.length = xs.length) (hs : xs.length ≤ 100000)
    (hR : ∀ j (h1 : j < us.length) (h2 : j < xs.length), R w us[j] xs[j]) : SlV R AnyB w (.slice (some ⟨b, 0, none⟩) xs.length xs.length) xs := by
  refine ⟨_, _, rfl, fun _ => ⟨_, _, rfl⟩, Nat.le_refl _, by unfold maxLen; omega, fun _ => trivial, fun j hj => ⟨us[j]'(by omega), ?_, hR j (by omega) hj⟩⟩
  rw [slb_some, slo_some, Nat.zero_add, cell_of_row w b j us.toArray t (0, 0) h]
  simp

theorem ints_blk {w : World} {b : Nat} {t : TypeId} (xs : List Int) (h : w.heap[b]? = some (.cells (xs.map (Value.int .i64)).toArray t (0, 0))) (hs : xs.length ≤ 100000) : IntsV AnyB w (.slice (some ⟨b, 0, none⟩) xs.length xs.length) xs :=
  sl_blk (xs.map (Value.int .i64)) xs h (by simp) hs (fun j h1 h2 => by simp)

/-- A block of changes that was just built. -/
theorem ch_blk {w : World} {b : Nat} {t : TypeId} (cs : List Chg) (us : List Value) (h : w.heap[b]? = some (.cells (flatC cs us).toArray t (0, 0))) (hl : us.length = cs.length) (hs : cs.length ≤ 100000)
    (hR : ∀ j (h1 : j < us.length) (h2 : j < cs.length), IntsV AnyB w us[j] cs[j].values) : ChV AnyB w (.slice (some ⟨b, 0, none⟩) cs.length cs.length) cs := by
  refine ⟨_, _, rfl, fun _ => ⟨_, _, rfl⟩, Nat.le_refl _, by unfold maxLen; omega, fun _ => trivial, fun j hj => ⟨us[j]'(by omega), fun i x hx => ?_, hR j (by omega) hj⟩⟩
  have hi : i < 6 := by
    have := (List.getElem?_eq_some_iff.1 hx).1
    exact this
  rw [slb_some, slo_some, Nat.zero_add, cell_of_row w b _ (flatC cs us).toArray t (0, 0) h, ← hx, ← flatC_at cs us j hj (by omega) i hi]
  simp

/-- Two records. -/
theorem lit2 (w : World) (N : Nat) (hN : N = w.heap.size) (r s : List Int) (hr : r.length ≤ 10) (hs : s.length ≤ 10) (t1 t2 t3 t4 : TypeId) :
    WorldV AnyB ((((w.alloc (.cells (r.map (Value.int .i64)).toArray t1)).alloc (.cells (s.map (Value.int .i64)).toArray t2)).alloc (.cells #[.slice (some ⟨N, 0, none⟩) r.length r.length, .slice (some ⟨N + 1, 0, none⟩) s.length s.length] t3)).alloc (.cells #[.slice (some ⟨N + 1 + 1, 0, none⟩) 2 2] t4))
        (.slice (some ⟨N + 1 + 1 + 1, 0, none⟩) 1 1) [[r, s]] ∧
      Below w.heap.size w ((((w.alloc (.cells (r.map (Value.int .i64)).toArray t1)).alloc (.cells (s.map (Value.int .i64)).toArray t2)).alloc (.cells #[.slice (some ⟨N, 0, none⟩) r.length r.length, .slice (some ⟨N + 1, 0, none⟩) s.length s.length] t3)).alloc (.cells #[.slice (some ⟨N + 1 + 1, 0, none⟩) 2 2] t4)) := by
  subst hN
  refine ⟨?_, ((((Below.refl _ _).alloc (Nat.le_refl _) _).alloc (by simp) _).alloc (by simp; omega) _).alloc (by simp; omega) _⟩
  generalize hw : ((((w.alloc (.cells (r.map (Value.int .i64)).toArray t1)).alloc (.cells (s.map (Value.int .i64)).toArray t2)).alloc (.cells #[.slice (some ⟨w.heap.size, 0, none⟩) r.length r.length, .slice (some ⟨w.heap.size + 1, 0, none⟩) s.length s.length] t3)).alloc (.cells #[.slice (some ⟨w.heap.size + 1 + 1, 0, none⟩) 2 2] t4)) = w1
  have h0 : w1.heap[w.heap.size]? = some (.cells (r.map (Value.int .i64)).toArray t1 (0, 0)) := by
    subst hw; exact heap_step _ (heap_step _ (heap_step _ (heap_new _ _ rfl)))
  have h1 : w1.heap[w.heap.size + 1]? = some (.cells (s.map (Value.int .i64)).toArray t2 (0, 0)) := by
    subst hw; exact heap_step _ (heap_step _ (heap_new _ _ (by simp)))
  have h2 : w1.heap[w.heap.size + 1 + 1]? = some (.cells #[.slice (some ⟨w.heap.size, 0, none⟩) r.length r.length, .slice (some ⟨w.heap.size + 1, 0, none⟩) s.length s.length] t3 (0, 0)) := by
    subst hw; exact heap_step _ (heap_new _ _ (by simp))
  have h3 : w1.heap[w.heap.size + 1 + 1 + 1]? = some (.cells #[.slice (some ⟨w.heap.size + 1 + 1, 0, none⟩) 2 2] t4 (0, 0)) := by
    subst hw; exact heap_new _ _ (by simp)
  clear hw
  refine sl_blk [_] [[r, s]] h3 rfl (by simp) (fun j g1 g2 => ?_)
  obtain rfl : j = 0 := by simp at g1; omega
  refine sl_blk [_, _] [r, s] h2 rfl (by simp) (fun j g1 g2 => ?_)
  match j, g1 with
  | 0, _ => exact ints_blk r h0 (by omega)
  | 1, _ => exact ints_blk s h1 (by omega)

/-- Three records. -/
theorem lit3 (w : World) (N : Nat) (hN : N = w.heap.size) (r s q : List Int) (hr : r.length ≤ 10) (hs : s.length ≤ 10) (hq : q.length ≤ 10) (t1 t2 t3 t4 t5 : TypeId) :
    WorldV AnyB (((((w.alloc (.cells (r.map (Value.int .i64)).toArray t1)).alloc (.cells (s.map (Value.int .i64)).toArray t2)).alloc (.cells (q.map (Value.int .i64)).toArray t3)).alloc (.cells #[.slice (some ⟨N, 0, none⟩) r.length r.length, .slice (some ⟨N + 1, 0, none⟩) s.length s.length, .slice (some ⟨N + 1 + 1, 0, none⟩) q.length q.length] t4)).alloc (.cells #[.slice (some ⟨N + 1 + 1 + 1, 0, none⟩) 3 3] t5))
        (.slice (some ⟨N + 1 + 1 + 1 + 1, 0, none⟩) 1 1) [[r, s, q]] ∧
      Below w.heap.size w (((((w.alloc (.cells (r.map (Value.int .i64)).toArray t1)).alloc (.cells (s.map (Value.int .i64)).toArray t2)).alloc (.cells (q.map (Value.int .i64)).toArray t3)).alloc (.cells #[.slice (some ⟨N, 0, none⟩) r.length r.length, .slice (some ⟨N + 1, 0, none⟩) s.length s.length, .slice (some ⟨N + 1 + 1, 0, none⟩) q.length q.length] t4)).alloc (.cells #[.slice (some ⟨N + 1 + 1 + 1, 0, none⟩) 3 3] t5)) := by
  subst hN
  refine ⟨?_, (((((Below.refl _ _).alloc (Nat.le_refl _) _).alloc (by simp) _).alloc (by simp; omega) _).alloc (by simp; omega) _).alloc (by simp; omega) _⟩
  generalize hw : (((((w.alloc (.cells (r.map (Value.int .i64)).toArray t1)).alloc (.cells (s.map (Value.int .i64)).toArray t2)).alloc (.cells (q.map (Value.int .i64)).toArray t3)).alloc (.cells #[.slice (some ⟨w.heap.size, 0, none⟩) r.length r.length, .slice (some ⟨w.heap.size + 1, 0, none⟩) s.length s.length, .slice (some ⟨w.heap.size + 1 + 1, 0, none⟩) q.length q.length] t4)).alloc (.cells #[.slice (some ⟨w.heap.size + 1 + 1 + 1, 0, none⟩) 3 3] t5)) = w1
  have h0 : w1.heap[w.heap.size]? = some (.cells (r.map (Value.int .i64)).toArray t1 (0, 0)) := by
    subst hw; exact heap_step _ (heap_step _ (heap_step _ (heap_step _ (heap_new _ _ rfl))))
  have h1 : w1.heap[w.heap.size + 1]? = some (.cells (s.map (Value.int .i64)).toArray t2 (0, 0)) := by
    subst hw; exact heap_step _ (heap_step _ (heap_step _ (heap_new _ _ (by simp))))
  have h2 : w1.heap[w.heap.size + 1 + 1]? = some (.cells (q.map (Value.int .i64)).toArray t3 (0, 0)) := by
    subst hw; exact heap_step _ (heap_step _ (heap_new _ _ (by simp)))
  have h3 : w1.heap[w.heap.size + 1 + 1 + 1]? = some (.cells #[.slice (some ⟨w.heap.size, 0, none⟩) r.length r.length, .slice (some ⟨w.heap.size + 1, 0, none⟩) s.length s.length, .slice (some ⟨w.heap.size + 1 + 1, 0, none⟩) q.length q.length] t4 (0, 0)) := by
    subst hw; exact heap_step _ (heap_new _ _ (by simp))
  have h4 : w1.heap[w.heap.size + 1 + 1 + 1 + 1]? = some (.cells #[.slice (some ⟨w.heap.size + 1 + 1 + 1, 0, none⟩) 3 3] t5 (0, 0)) := by
    subst hw; exact heap_new _ _ (by simp)
  clear hw
  refine sl_blk [_] [[r, s, q]] h4 rfl (by simp) (fun j g1 g2 => ?_)
  obtain rfl : j = 0 := by simp at g1; omega
  refine sl_blk [_, _, _] [r, s, q] h3 rfl (by simp) (fun j g1 g2 => ?_)
  match j, g1 with
  | 0, _ => exact ints_blk r h0 (by omega)
  | 1, _ => exact ints_blk s h1 (by omega)
  | 2, _ => exact ints_blk q h2 (by omega)

def liA : List (List (List Int)) := [[[1, 2], [3, 4]]]
def liB : List (List (List Int)) := [[[1, 5], [3, 4], [6, 7]]]
def liC : List (List (List Int)) := [[[1, 2], [5, 6]]]
def liD : List (List (List Int)) := [[[1, 2, 3], [4, 5, 6]]]
def liE : List (List (List Int)) := [[[1, 2, 3], [7, 8, 9]]]
def wantL : List Chg := [⟨0, 0, 1, 2, 5, []⟩, ⟨0, 2, -1, 0, 0, [6, 7]⟩]
theorem lit_want (w : World) (t1 t2 : TypeId) : ChV AnyB ((w.alloc (.cells #[.int .i64 6, .int .i64 7] t1)).alloc (.cells #[.int .i64 0, .int .i64 0, .int .i64 1, .int .i64 2, .int .i64 5, .slice none 0 0, .int .i64 0, .int .i64 2, .int .i64 (-1), .int .i64 0, .int .i64 0, .slice (some ⟨w.heap.size, 0, none⟩) 2 2] t2))
      (.slice (some ⟨w.heap.size + 1, 0, none⟩) 2 2) wantL ∧ Below w.heap.size w ((w.alloc (.cells #[.int .i64 6, .int .i64 7] t1)).alloc (.cells #[.int .i64 0, .int .i64 0, .int .i64 1, .int .i64 2, .int .i64 5, .slice none 0 0, .int .i64 0, .int .i64 2, .int .i64 (-1), .int .i64 0, .int .i64 0, .slice (some ⟨w.heap.size, 0, none⟩) 2 2] t2)) := by
  refine ⟨?_, ((Below.refl _ _).alloc (Nat.le_refl _) _).alloc (by simp) _⟩
  refine ch_blk wantL [.slice none 0 0, .slice (some ⟨w.heap.size, 0, none⟩) 2 2] (heap_new _ _ (by simp)) rfl (by decide) (fun j g1 g2 => ?_)
  match j, g1 with
  | 0, _ => exact SlV.nil _ _ _
  | 1, _ => exact ints_blk [6, 7] (heap_step _ (heap_new _ _ rfl)) (by decide)
theorem li_diff1 : diffC liA liB = wantL ∧ diffE liA liB = 0 := by decide
theorem li_apply : applyL liA wantL = (0, liB) := by decide
theorem li_diff2 : diffC liA liC = [⟨0, 1, 0, 3, 5, []⟩, ⟨0, 1, 1, 4, 6, []⟩] ∧ diffE liA liC = 0 := by decide
theorem li_diff3 : diffC liD liE = [⟨0, 1, -2, 0, 0, [4, 5, 6]⟩, ⟨0, 1, -1, 0, 0, [7, 8, 9]⟩] ∧ diffE liD liE = 0 := by decide

end Go.Proofs.Yteepdnamkcgndaa
