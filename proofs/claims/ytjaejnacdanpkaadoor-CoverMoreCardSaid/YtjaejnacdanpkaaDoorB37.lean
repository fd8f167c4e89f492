/- A map whose keys are combinations. What stays while an iterator turns its blocks. What the possible combinations are. Appends in a round. How many combinations there are. -/
import Derived.Test.YtjaejnacdanpkaaDoorB28
import Derived.Maps.OwnSet
import Derived.Maps.Views
import Derived.DeepKeys4
import Derived.Test.YtjaejnacdanpkaaDoorB34
import Derived.Test.YtjaejnacdanpkaaDoorB31
import Derived.Test.YtjaejnacdanpkaaDoorB12
import Derived.Test.YtjaejnacdanpkaaDoorB21
import Derived.OwnWalkIn
namespace Go.Proofs.YtjaejnacdanpkaaDoor
open Go.RowKit

theorem lawK : Maps.Keyed Tryd.prog 69 := Maps.Keyed.of_law (deep_law_laid (m := 10) (by kernel_rfl) (by omega) (by decide +kernel) (by kernel_rfl) (by kernel_rfl))
theorem lit1 (d : Nat) (x : Int) (h : (Lit.int .i64 x).wf = true) : Tryd.prog.keyLits (d + 1) 3 [.int .i64 x] = some [.int .i64 x] := by
  have hu3 : Tryd.prog.underlying 3 = some (.int .i64) := by kernel_rfl
  unfold Program.keyLits
  rw [hu3]
  simp [h]
theorem key8 (x0 x1 x2 x3 x4 x5 x6 x7 : Int) (h : ∀ x ∈ [x0, x1, x2, x3, x4, x5, x6, x7], (Lit.int .i64 x).wf = true) : ∃ l, keyOf Tryd.prog 69 (.agg #[.int .i64 x0, .int .i64 x1, .int .i64 x2, .int .i64 x3, .int .i64 x4, .int .i64 x5, .int .i64 x6, .int .i64 x7]) = some l := by
  have hu : Tryd.prog.underlying 69 = some (.array 8 3) := by kernel_rfl
  have hk : Tryd.prog.keyType 69 = true := by kernel_rfl
  simp only [List.mem_cons, List.not_mem_nil, or_false, forall_eq_or_imp, forall_eq] at h
  obtain ⟨h0, h1, h2, h3, h4, h5, h6, h7⟩ := h
  have hc1 : Tryd.prog.cellsOf 3 = 1 := by kernel_rfl
  have hc8 : Tryd.prog.cellsOf 69 = 8 := by kernel_rfl
  have hr : List.range 8 = [0,1,2,3,4,5,6,7] := by decide
  obtain ⟨m, hm⟩ : ∃ m, Tryd.prog.types.size + 1 = m + 2 := ⟨145, by kernel_rfl⟩
  unfold keyOf
  rw [hu]
  simp only [hk, Value.formed, hu, hc8, hm]
  unfold Program.keyLits
  rw [hu]
  simp [hc8, hc1, hr, Value.cells, lit1, h0, h1, h2, h3, h4, h5, h6, h7]

/-- A combination of m features, as a key. -/
def KeyC (m : Nat) (c : List Int) : Prop := c.length = m ∧ ∀ x ∈ c, -1 ≤ x ∧ x ≤ 100
/-- What its key reads as. -/
noncomputable def klc (c : List Int) : Lit := @Classical.epsilon Lit ⟨.bool false⟩ fun l => keyOf Tryd.prog 69 (keyV c) = some l
theorem klc_ok {m : Nat} (hm : m ≤ 8) {c : List Int} (h : KeyC m c) : keyOf Tryd.prog 69 (keyV c) = some (klc c) := by
  have hl := keyL_len c (by rw [h.1]; exact hm)
  have hw : ∀ x ∈ keyL c, (Lit.int .i64 x).wf = true := fun x hx => by
    have : -1 ≤ x ∧ x ≤ 100 := by
      rcases List.mem_append.1 hx with hx | hx
      · exact h.2 x hx
      · rw [(List.mem_replicate.1 hx).2]; omega
    have h1 : IntKind.i64.min = -9223372036854775808 := by decide
    have h2 : IntKind.i64.max = 9223372036854775807 := by decide
    simp only [Lit.wf, h1, h2]
    simp
    omega
  obtain ⟨x0, x1, x2, x3, x4, x5, x6, x7, he⟩ := eight (keyL c) hl
  rw [he] at hw
  obtain ⟨l, hk⟩ := key8 x0 x1 x2 x3 x4 x5 x6 x7 hw
  have e : keyV c = .agg #[.int .i64 x0, .int .i64 x1, .int .i64 x2, .int .i64 x3, .int .i64 x4, .int .i64 x5, .int .i64 x6, .int .i64 x7] := by unfold keyV; rw [he]; rfl
  exact @Classical.epsilon_spec Lit (fun l => keyOf Tryd.prog 69 (keyV c) = some l) ⟨l, by rw [e]; exact hk⟩
theorem keyV_inj {c d : List Int} (hl : c.length = d.length) (h : keyV c = keyV d) : c = d := by
  unfold keyV at h
  simp only [Value.agg.injEq] at h
  have h2 : (keyL c).map (Value.int .i64) = (keyL d).map (Value.int .i64) := by simpa using congrArg Array.toList h
  have h3 : keyL c = keyL d := List.map_inj_right (fun x y hxy => by simpa using hxy) |>.1 h2
  unfold keyL at h3
  exact (List.append_inj h3 hl).1
theorem klc_inj {m : Nat} (hm : m ≤ 8) {c d : List Int} (h : KeyC m c) (h' : KeyC m d) (e : klc c = klc d) : c = d :=
  keyV_inj (h.1.trans h'.1.symm) (lawK.inj (klc_ok hm h) (by rw [e]; exact klc_ok hm h'))

theorem isKey_of {v : Value} {l : Lit} (h : keyOf Tryd.prog 69 v = some l) : WideAt.IsKeyLit l := lawK.key h

/-- Block b is a map that has just the combinations of S. -/
def MapS (m : Nat) (w : World) (b : Nat) (S : List (List Int)) : Prop :=
  ∃ D : DataW Nat, w.ownsMap Tryd.prog 69 (plainElem Tryd.prog 4) b S.length D ∧ S.Nodup ∧ (∀ c ∈ S, KeyC m c) ∧ Maps.size D = S.length ∧
    ∀ c, KeyC m c → Maps.has D (klc c) = decide (c ∈ S) ∧ D.atKey (klc c) (.lit (.bool false)) = .lit (.bool (decide (c ∈ S)))

theorem underK : Tryd.prog.underlying 59 = some (.map 69 4) := by kernel_rfl
theorem underB : Tryd.prog.underlying 4 = some .bool := by kernel_rfl

theorem ownsMap_tight {w : World} {k : TypeId} {R : Value → Option (DataW Nat × List MemPlace)} {b n : Nat} {D : DataW Nat} (h : w.ownsMap Tryd.prog k R b n D) {s : Nat} (hs : Maps.size D = s) : w.ownsMap Tryd.prog k R b s D := by
  obtain ⟨es, clock, hb, F, _, hD⟩ := h
  refine ⟨es, clock, hb, F, ?_, hD⟩
  rw [← hs, hD]
  simp [Maps.size, length_sorted]
theorem small_lt {n : Nat} (h : n ≤ 1000000000) : n < maxLen := by
  have : maxLen = 9223372036854775807 := rfl
  omega
theorem zeroB (w : World) : (zeroValue 4).run Tryd.prog w = .ok (.bool false) w := by kernel_rfl

theorem MapS.made (m : Nat) (w : World) : MapS m (w.alloc (.map #[] 0)) w.heap.size [] :=
  ⟨.map [], World.ownsMap_made _ _ _ _, List.nodup_nil, fun _ h => absurd h (by simp), rfl, fun _ _ => ⟨rfl, rfl⟩⟩
theorem MapS.keep {m : Nat} {w w' : World} {b : Nat} {S : List (List Int)} (h : MapS m w b S) (hk : w'.heap[b]? = w.heap[b]?) : MapS m w' b S := by
  obtain ⟨D, ⟨es, clock, hb, F, r⟩, r2⟩ := h
  exact ⟨D, ⟨es, clock, by rw [hk]; exact hb, F, r⟩, r2⟩
theorem MapS.obj {m : Nat} {w : World} {b : Nat} {S : List (List Int)} (h : MapS m w b S) : ∃ es cl, w.heap[b]? = some (.map es cl) := by
  obtain ⟨D, ⟨es, clock, hb, _⟩, _⟩ := h
  exact ⟨_, _, hb⟩
theorem MapS.lt {m : Nat} {w : World} {b : Nat} {S : List (List Int)} (h : MapS m w b S) : b < w.heap.size := by
  obtain ⟨es, cl, h⟩ := h.obj
  exact (Array.getElem?_eq_some_iff.1 h).1
theorem MapS.keyC {m : Nat} {w : World} {b : Nat} {S : List (List Int)} (h : MapS m w b S) : ∀ c ∈ S, KeyC m c := by
  obtain ⟨D, _, _, h3, _⟩ := h
  exact h3
theorem MapS.nodup {m : Nat} {w : World} {b : Nat} {S : List (List Int)} (h : MapS m w b S) : S.Nodup := by
  obtain ⟨D, _, h3, _⟩ := h
  exact h3

theorem plainElem_bool_inv {v : Value} {d : DataW Nat} {ps : List MemPlace} (h : plainElem Tryd.prog 4 v = some (d, ps)) : ∃ x, v = .bool x ∧ d = .lit (.bool x) := by
  unfold plainElem at h
  rw [underB] at h
  cases v <;> simp at h
  exact ⟨_, rfl, h.1.symm⟩

/-- 'm[k]'. -/
theorem MapS.look {m : Nat} (hm : m ≤ 8) {w : World} {b : Nat} {S : List (List Int)} (h : MapS m w b S) {c : List Int} (hc : KeyC m c) :
    (Instr.lookup 59 (.map (some b)) (keyV c) false).run Tryd.prog w = .ok (.bool (decide (c ∈ S))) w := by
  obtain ⟨D, h1, _, _, _, h5⟩ := h
  obtain ⟨v, ps, hrun, hv⟩ := h1.lookup lawK underK (z := .bool false) (zeroB w) (plainElem_bool underB false) (klc_ok hm hc)
  rw [(h5 c hc).2] at hv
  obtain ⟨x, rfl, hx⟩ := plainElem_bool_inv hv
  have : decide (c ∈ S) = x := by simpa using hx
  rw [this]
  exact hrun

/-- The keys behind a store. -/
def addS (S : List (List Int)) (c : List Int) : List (List Int) := if c ∈ S then S else S ++ [c]
theorem mem_addS {S : List (List Int)} {c d : List Int} : d ∈ addS S c ↔ d ∈ S ∨ d = c := by
  unfold addS
  by_cases h : c ∈ S
  · rw [if_pos h]
    constructor
    · exact .inl
    · rintro (h' | rfl)
      · exact h'
      · exact h
  · rw [if_neg h, List.mem_append, List.mem_singleton]
theorem nodup_addS {S : List (List Int)} (h : S.Nodup) (c : List Int) : (addS S c).Nodup := by
  unfold addS
  split
  · exact h
  · rename_i hc
    refine List.nodup_append.2 ⟨h, by simp, fun a ha b hb e => ?_⟩
    rw [List.mem_singleton.1 hb] at e
    exact hc (e ▸ ha)

/-- 'm[k] = true'. -/
theorem MapS.store {m : Nat} (hm : m ≤ 8) {w : World} {b : Nat} {S : List (List Int)} (h : MapS m w b S) (hn : S.length ≤ 1000000000) {c : List Int} (hc : KeyC m c) :
    ∃ w', (Instr.mapUpdate 59 (.map (some b)) (keyV c) (.bool true)).run Tryd.prog w = .ok () w' ∧ MapS m w' b (addS S c) ∧ Turns (· = b) w w' := by
  obtain ⟨D, h1, h2, h3, h4, h5⟩ := h
  obtain ⟨w', hrun, hown, ht⟩ := h1.store lawK underK (small_lt hn) (klc_ok hm hc) (plainElem_bool underB true)
  have hsize : Maps.size (D.put (klc c) (.lit (.bool true))) = (addS S c).length := by
    rw [Maps.size_put (h1.tidy lawK), (h5 c hc).1]
    unfold addS
    by_cases hcS : c ∈ S
    · simp [hcS, h4]
    · simp [hcS, h4]
  refine ⟨w', hrun, ⟨_, ownsMap_tight hown hsize, nodup_addS h2 c, fun d hd => ?_, hsize, fun d hd => ?_⟩, Turns.of_grown ht.grown (fun b' e => by cases e; rfl)⟩
  · rcases mem_addS.1 hd with hd | rfl
    · exact h3 d hd
    · exact hc
  · by_cases e : d = c
    · subst e
      rw [Maps.has_put_same h1.isMap (isKey_of (klc_ok hm hd)), Maps.atKey_put_same h1.isMap (isKey_of (klc_ok hm hd))]
      have : decide (d ∈ addS S d) = true := decide_eq_true (mem_addS.2 (.inr rfl))
      rw [this]
      exact ⟨rfl, rfl⟩
    · have hne : klc d ≠ klc c := fun h => e (klc_inj hm hd hc h)
      rw [Maps.has_put_other hne, Maps.atKey_put_other hne, (h5 d hd).1, (h5 d hd).2]
      have : decide (d ∈ addS S c) = decide (d ∈ S) := by
        rw [decide_eq_decide, mem_addS]
        simp [e]
      rw [this]
      exact ⟨rfl, rfl⟩

/-- 'delete(m, k)'. -/
theorem MapS.drop {m : Nat} (hm : m ≤ 8) {w : World} {b : Nat} {S : List (List Int)} (h : MapS m w b S) {c : List Int} (hc : KeyC m c) (ty : TypeId) :
    ∃ w', (Builtin.delete_ #[59, 69] ty #[.map (some b), keyV c]).run Tryd.prog w = .ok (.tuple #[]) w' ∧ MapS m w' b (S.filter fun d => decide (d ≠ c)) ∧ Turns (· = b) w w' := by
  obtain ⟨D, h1, h2, h3, h4, h5⟩ := h
  obtain ⟨w', hrun, hown, ht⟩ := h1.drop lawK underK (klc_ok hm hc) ty
  have hsize : Maps.size (D.del (klc c)) = (S.filter fun d => decide (d ≠ c)).length := by
    have := Maps.size_del (k := klc c) (h1.tidy lawK)
    rw [(h5 c hc).1, h4] at this
    have hsp := Cov.filter_split (fun d => decide (d ≠ c)) S
    have hone : (S.filter fun d => !decide (d ≠ c)).length = if decide (c ∈ S) = true then 1 else 0 := by
      clear this hsp h5 hown hrun h1 h4 h3 ht
      induction S with
      | nil => simp
      | cons x S ih =>
        obtain ⟨hx, hS⟩ := List.nodup_cons.1 h2
        have ih := ih hS
        by_cases hxc : x = c
        · subst hxc
          simp [hx] at ih ⊢
          exact ih
        · have : ¬ c = x := fun e => hxc e.symm
          simp [hxc, this] at ih ⊢
          exact ih
    omega
  refine ⟨w', hrun, ⟨_, ownsMap_tight hown hsize, h2.filter _, fun d hd => h3 d (List.mem_filter.1 hd).1, hsize, fun d hd => ?_⟩, Turns.of_grown ht.grown (fun b' e => by cases e; rfl)⟩
  · by_cases e : d = c
    · subst e
      rw [Maps.has_del_same, Maps.atKey_del_same]
      simp
    · have hne : klc d ≠ klc c := fun h => e (klc_inj hm hd hc h)
      rw [Maps.has_del_other hne, Maps.atKey_del_other hne, (h5 d hd).1, (h5 d hd).2]
      have : decide (d ∈ S.filter fun d => decide (d ≠ c)) = decide (d ∈ S) := by
        rw [decide_eq_decide, List.mem_filter]
        simp [e]
      rw [this]
      exact ⟨rfl, rfl⟩

/-- 'len(m)'. -/
theorem MapS.size {m : Nat} {w : World} {b : Nat} {S : List (List Int)} (h : MapS m w b S) (ty : TypeId) : (Builtin.len_ #[59] ty #[.map (some b)]).run Tryd.prog w = .ok (.int .i64 S.length) w := by
  obtain ⟨D, h1, _, _, h4, _⟩ := h
  rw [← h4]
  exact h1.len underK ty

end Go.Proofs.YtjaejnacdanpkaaDoor

namespace Go.Proofs.YtjaejnacdanpkaaDoor
open Go.RowKit

/-- A block of cells. -/
def CellB (W : World) (b : Nat) : Prop := ∃ c t fr, W.heap[b]? = some (.cells c t fr)
theorem cellB_of {W : World} {b o : Nat} {u : Value} (h : W.cell? ⟨b, o, none⟩ = some u) : CellB W b := by
  obtain ⟨x, hx, hc⟩ := cells_of_cell h
  cases x <;> simp_all [Obj.isCells, CellB]

/-- What reads as a slice of slices or numbers stays, if no cells of its blocks are turned. -/
theorem IntsV.turn {A : Nat → Obj → Prop} {n0 : Nat} {W W' : World} {S : Nat → Prop} {v : Value} {xs : List Int} (h : IntsV S W v xs) (ht : TurnT A n0 W W') (hA : ∀ b c t fr, S b → b < W.heap.size → ¬ A b (.cells c t fr)) : IntsV S W' v xs := by
  obtain ⟨a, cap, rfl, h1, h2, h3, h4, h5⟩ := h
  refine ⟨a, cap, rfl, h1, h2, h3, h4, fun j hj => ?_⟩
  obtain ⟨u, hu, hr⟩ := h5 j hj
  obtain ⟨c, t, fr, hc⟩ := cellB_of hu
  have hlt := (Array.getElem?_eq_some_iff.1 hc).1
  refine ⟨u, ?_, hr⟩
  rw [World.cell?_of_block (w := W) (a := ⟨slb a, slo a + j, none⟩) ((ht.2 _ _ hc (hA _ _ _ _ (h4 (by omega)) hlt)).trans hc.symm)]
  exact hu
theorem RowsV.turn {A : Nat → Obj → Prop} {n0 : Nat} {W W' : World} {S : Nat → Prop} {v : Value} {xs : List (List Int)} (h : RowsV S W v xs) (ht : TurnT A n0 W W') (hA : ∀ b c t fr, S b → b < W.heap.size → ¬ A b (.cells c t fr)) : RowsV S W' v xs := by
  obtain ⟨a, cap, rfl, h1, h2, h3, h4, h5⟩ := h
  refine ⟨a, cap, rfl, h1, h2, h3, h4, fun j hj => ?_⟩
  obtain ⟨u, hu, hr⟩ := h5 j hj
  obtain ⟨c, t, fr, hc⟩ := cellB_of hu
  have hlt := (Array.getElem?_eq_some_iff.1 hc).1
  refine ⟨u, ?_, IntsV.turn hr ht hA⟩
  rw [World.cell?_of_block (w := W) (a := ⟨slb a, slo a + j, none⟩) ((ht.2 _ _ hc (hA _ _ _ _ (h4 (by omega)) hlt)).trans hc.symm)]
  exact hu
theorem OwnS.turn {A : Nat → Obj → Prop} {n0 B : Nat} {E : Nat → Prop} {W W' : World} {v : Value} {xs : List (List Int)} (h : OwnS B E W v xs) (ht : TurnT A n0 W W') (hO : ∀ b c t fr, OB v b → b < W.heap.size → ¬ A b (.cells c t fr)) (hA : ∀ b c t fr, E b → b < W.heap.size → ¬ A b (.cells c t fr)) : OwnS B E W' v xs := by
  obtain ⟨us, ⟨h1, h1'⟩, h2, h3⟩ := h
  refine ⟨us, ⟨h1, ?_⟩, h2, fun j g1 g2 => (h3 j g1 g2).turn ht hA⟩
  rcases h1' with h1' | ⟨g, cap, cur, rfl, hb, hg, r⟩
  · exact .inl h1'
  · exact .inr ⟨g, cap, cur, rfl, hb, ht.2 _ _ hg (hO _ _ _ _ rfl (Array.getElem?_eq_some_iff.1 hg).1), r⟩

/-- The combination without values. -/
abbrev emptyC (n : Nat) : List Int := List.replicate n (-1)
theorem combo_empty : ∀ ns : List Nat, Cov.comboB ns (emptyC ns.length) = true
  | [] => rfl
  | n :: ns => by
    simp only [emptyC, List.length_cons, List.replicate_succ, Cov.comboB, Bool.and_eq_true, decide_eq_true_eq]
    exact ⟨by omega, combo_empty ns⟩
theorem has_empty : ∀ (r : List Int), Cov.has r (emptyC r.length) = true
  | [] => rfl
  | x :: r => by
    simp only [emptyC, List.length_cons, List.replicate_succ, Cov.has_cons, Bool.and_eq_true, decide_eq_true_eq]
    exact ⟨.inl (by omega), has_empty r⟩
theorem fill_empty (ns : List Nat) : Cov.fillS (Cov.openC ns (emptyC ns.length)) = Cov.rowsC ns := by
  rw [Cov.fill_rows ns _ (combo_empty ns)]
  rw [List.filter_eq_self]
  intro r hr
  have hl := Cov.comboB_len ns r (Cov.rowB_combo ns r ((Cov.mem_rowsC ns r).1 hr))
  rw [← hl]
  exact has_empty r

/-- The possible combinations, by rows. -/
theorem open_iff (ns : List Nat) (F : List (List Int)) (t : Nat) (c : List Int) : c ∈ Cov.openL ns F t ↔ ∃ r ∈ Cov.rowsC ns, Cov.allowed F r = true ∧ c ∈ (Cov.masks ns.length t).map (Cov.maskC r) := by
  unfold Cov.openL
  rw [List.mem_filter, Cov.mem_asked]
  unfold Cov.inR
  rw [List.any_eq_true]
  unfold Cov.okRows
  constructor
  · rintro ⟨⟨h1, h2⟩, r, hr, h3⟩
    obtain ⟨hr1, hr2⟩ := List.mem_filter.1 hr
    exact ⟨r, hr1, hr2, (Cov.mem_parts ((Cov.mem_rowsC ns r).1 hr1) t c).2 ⟨h1, h2, h3⟩⟩
  · rintro ⟨r, hr1, hr2, h⟩
    obtain ⟨h1, h2, h3⟩ := (Cov.mem_parts ((Cov.mem_rowsC ns r).1 hr1) t c).1 h
    exact ⟨⟨h1, h2⟩, r, List.mem_filter.2 ⟨hr1, hr2⟩, h3⟩

theorem rowB_keyC : ∀ (ns : List Nat) (_hn : ∀ n ∈ ns, n ≤ 8) (r : List Int), Cov.rowB ns r = true → ∀ s, ∀ x ∈ Cov.maskC r s, -1 ≤ x ∧ x ≤ 100
  | [], _, [], _, _, x, hx => by simp [Cov.maskC] at hx
  | n :: ns, hn, y :: r, h, s, x, hx => by
    simp only [Cov.rowB, Bool.and_eq_true, decide_eq_true_eq] at h
    simp only [Cov.maskC, List.mem_cons] at hx
    rcases hx with rfl | hx
    · have := hn n (List.mem_cons_self ..)
      split <;> omega
    · exact rowB_keyC ns (fun m hm => hn m (List.mem_cons_of_mem _ hm)) r h.2 _ x hx
  | [], _, _ :: _, h, _, _, _ => by simp [Cov.rowB] at h
  | _ :: _, _, [], h, _, _, _ => by simp [Cov.rowB] at h
theorem mask_keyC {ns : List Nat} (hn : ∀ n ∈ ns, n ≤ 8) {r : List Int} (h : r ∈ Cov.rowsC ns) (s : Nat) : KeyC ns.length (Cov.maskC r s) :=
  ⟨by rw [Cov.maskC_len]; exact Cov.comboB_len ns r (Cov.rowB_combo ns r ((Cov.mem_rowsC ns r).1 h)), rowB_keyC ns hn r ((Cov.mem_rowsC ns r).1 h) s⟩

theorem nodup_len {α : Type} [DecidableEq α] : ∀ (l m : List α), l.Nodup → (∀ x ∈ l, x ∈ m) → l.length ≤ m.length
  | [], _, _, _ => Nat.zero_le _
  | x :: l, m, hl, h => by
    obtain ⟨hx, hl'⟩ := List.nodup_cons.1 hl
    have hxm := h x (List.mem_cons_self ..)
    have := nodup_len l (m.erase x) hl' (fun y hy => by
      have hne : y ≠ x := fun e => hx (e ▸ hy)
      exact (List.mem_erase_of_ne hne).2 (h y (List.mem_cons_of_mem _ hy)))
    rw [List.length_erase_of_mem hxm] at this
    have hp := List.length_pos_of_mem hxm
    simp only [List.length_cons]
    omega

theorem foldl_addS (f : Nat → List Int) : ∀ (l : List Nat) (S : List (List Int)) (c : List Int), c ∈ l.foldl (fun S s => addS S (f s)) S ↔ c ∈ S ∨ c ∈ l.map f
  | [], S, c => by simp
  | s :: l, S, c => by
    simp only [List.foldl_cons, List.map_cons, List.mem_cons]
    rw [foldl_addS f l, mem_addS]
    constructor
    · rintro ((h | h) | h)
      · exact .inl h
      · exact .inr (.inl h)
      · exact .inr (.inr h)
    · rintro (h | h | h)
      · exact .inl (.inl h)
      · exact .inl (.inr h)
      · exact .inr h

end Go.Proofs.YtjaejnacdanpkaaDoor

namespace Go.Proofs.YtjaejnacdanpkaaDoor
open Go.RowKit

section
variable {P : Program} {t e : TypeId} {size bytes : Nat} {w : World}
theorem wpListIn_app {F : Fence} {nf : Nat} {ops : Array Oper} {rest : List Oper} {o : Oper} {a : Act} {Q : Exit → Act → World → Prop} (hgd : o.guard = none) (s x : Operand)
    (ho : o.op = .call { callee := .builtin .append, args := #[s, x], argTypes := #[t, t] }) (hT : AppT P t e size bytes)
    {base : Nat} {v : Value} {n : Nat} {xs : List Value} (hs : a.eval s = v) (hown : w.ownsRow base e size v n xs)
    (ao : Option Addr) (m c : Nat) (hx : a.eval x = .slice ao m c) (hok : Slok ao m) (news : List Value) (hl : news.length = m * size)
    (hnews : ∀ j u, news[j]? = some u → w.cell? ⟨slb ao, slo ao + j, none⟩ = some u) (h1 : ∀ u ∈ news, u.oneCell' = true)
    (hsmall : n + m ≤ 1000000000) (hbase : base ≤ w.heap.size)
    (h : ∀ v' w', w'.ownsRow base e size v' (n + m) (xs ++ news) → w.grownBy w' v.ownBlock → (v'.ownBlock = v.ownBlock ∨ v'.ownBlock = some w.heap.size) → wpListIn F nf P ops Q rest (a.put o.dst v') w') :
    wpListIn F nf P ops Q (o :: rest) a w := by
  obtain ⟨v', w', hr, h2, h3, h4⟩ := run_app o.type hT hown ao m c hok news hl hnews h1 hsmall hbase
  refine wpListIn_plain hgd fun K hK' => ?_
  unfold Oper.wpIn
  refine ⟨?_, ?_⟩
  · simp [Oper.about, ho, resolve, Target.leads, Sem.run_pure]
  · rw [Oper.semAt_plain F _ _ (by rw [ho]; intro c hc'; cases hc')]
    simp [execOp, ho, resolve, invoke, builtin, hs, hx, hr, Result.andThen]
    exact hK' _ _ (h v' w' h2 h3 h4)
end

/-- One more element. -/
theorem wpListIn_appS1 {F : Fence} {nf : Nat} {P : Program} {t : TypeId} {bytes : Nat} {w : World} {ops : Array Oper} {rest : List Oper} {o : Oper} {a : Act} {Q : Exit → Act → World → Prop} (hgd : o.guard = none) (s x : Operand)
    (ho : o.op = .call { callee := .builtin .append, args := #[s, x], argTypes := #[t, t] }) (hT : AppT P t 22 1 bytes)
    {B : Nat} {E : Nat → Prop} {v : Value} {xs : List (List Int)} (hs : a.eval s = v) (hown : OwnS B E w v xs) (hE : ∀ b, b < w.heap.size → E b → ¬ OB v b)
    {u : Value} {e' : TypeId} (hx : a.eval x = .slice (some ⟨w.heap.size, 0, none⟩) 1 1) (y : List Int) (hu : IntsV E w u y) (h1 : u.oneCell' = true)
    (hsmall : xs.length + 1 ≤ 1000000000) (hB : B ≤ w.heap.size)
    (h : ∀ v' w', OwnS B E w' v' (xs ++ [y]) → Turns (OB v) w w' → (∀ b, OB v' b → OB v b ∨ w.heap.size ≤ b) → wpListIn F nf P ops Q rest (a.put o.dst v') w') :
    wpListIn F nf P ops Q (o :: rest) a (w.alloc (.cells #[u] e')) := by
  obtain ⟨us, h2, h3, h4⟩ := hown
  have ha : Below w.heap.size w (w.alloc (.cells #[u] e')) := (Below.refl _ _).alloc (Nat.le_refl _) _
  refine wpListIn_app hgd s x ho hT hs (h2.alloc _) _ 1 1 hx (fun _ => ⟨_, _, rfl⟩) [u] rfl (news_alloc w #[u] e') (by simpa using h1) hsmall (by simp; omega) (fun v' w' g1 g2 g3 => ?_)
  have hT0 := Turns.of_grown (S := OB v) g2 fun b hb' => hb'.symm
  have hT : Turns (OB v) w w' := (Turns.of_below ha).trans ⟨hT0.os, hT0.tape, hT0.output, hT0.size, hT0.block⟩
  refine h v' w' ⟨us ++ [u], by simpa using g1, by simp [h3], fun j k1 k2 => ?_⟩ hT (fun b hb => ?_)
  · have keep : ∀ {u y}, IntsV E w u y → IntsV E w' u y := fun h => by
      have := IntsV.mono (S' := fun b => E b ∧ b < w.heap.size) h (fun b hb hE => ⟨hE, hb⟩)
      exact IntsV.mono (IntsV.keep this (hT.keep (fun b hb => hE b hb.2 hb.1))) (fun b _ hb => hb.1)
    by_cases hj : j < us.length
    · rw [List.getElem_append_left hj, List.getElem_append_left (by omega)]
      exact keep (h4 j hj (by omega))
    · simp at k1
      obtain rfl : j = us.length := by omega
      simp only [List.getElem_append_right (Nat.le_refl _), Nat.sub_self, List.getElem_cons_zero]
      rw [List.getElem_append_right (by omega)]
      simp [h3]
      exact keep hu
  · unfold OB at hb ⊢
    rcases g3 with g3 | g3
    · exact .inl (hb.trans g3)
    · rw [g3] at hb
      right
      have := Option.some.inj hb
      have := ha.size
      omega

/-- The books of a later loop are no blocks of now. -/
theorem TurnT.strip {A : Nat → Obj → Prop} {n0 nB : Nat} {W W' : World} (h : TurnT (fun b o => A b o ∨ isBook nB b o) n0 W W') (hn : W.heap.size ≤ nB) : TurnT A n0 W W' :=
  ⟨h.1, fun b o hb ha => h.2 b o hb (by
    rintro (k | k)
    · exact ha k
    · have := (Array.getElem?_eq_some_iff.1 hb).1
      have := k.1
      omega)⟩

theorem length_flatMap_const {α β : Type} (f : α → List β) (k : Nat) : ∀ (l : List α), (∀ x ∈ l, (f x).length = k) → (l.flatMap f).length = l.length * k
  | [], _ => by simp
  | x :: l, h => by
    rw [List.flatMap_cons, List.length_append, h x (List.mem_cons_self ..), length_flatMap_const f k l (fun y hy => h y (List.mem_cons_of_mem _ hy)), List.length_cons, Nat.add_mul]
    omega
theorem allG_len : ∀ (ns : List Nat), (∀ n ∈ ns, n ≤ 8) → (Cov.allG ns).length ≤ 9 ^ ns.length
  | [], _ => by simp [Cov.allG]
  | n :: ns, h => by
    have ih := allG_len ns (fun m hm => h m (List.mem_cons_of_mem _ hm))
    have hn := h n (List.mem_cons_self ..)
    show ((List.range (n + 1)).flatMap _).length ≤ _
    rw [length_flatMap_const _ (Cov.allG ns).length _ (fun v _ => by simp), List.length_range, List.length_cons, Nat.pow_succ, Nat.mul_comm (9 ^ _)]
    exact Nat.mul_le_mul (by omega) ih
theorem rowsC_len : ∀ (ns : List Nat), (∀ n ∈ ns, n ≤ 8) → (Cov.rowsC ns).length ≤ 8 ^ ns.length
  | [], _ => by simp [Cov.rowsC]
  | n :: ns, h => by
    have ih := rowsC_len ns (fun m hm => h m (List.mem_cons_of_mem _ hm))
    have hn := h n (List.mem_cons_self ..)
    show ((List.range n).flatMap _).length ≤ _
    rw [length_flatMap_const _ (Cov.rowsC ns).length _ (fun v _ => by simp), List.length_range, List.length_cons, Nat.pow_succ, Nat.mul_comm (8 ^ _)]
    exact Nat.mul_le_mul (by omega) ih
/-- A set of combinations is small. -/
theorem set_small {ns : List Nat} (hn : ∀ n ∈ ns, n ≤ 8) (hl : ns.length ≤ 8) {S : List (List Int)} (hS : S.Nodup) (h : ∀ c ∈ S, Cov.comboB ns c = true) : S.length ≤ 43046721 := by
  have h1 := nodup_len S (Cov.allG ns) hS (fun c hc => (Cov.mem_allG ns c).2 (h c hc))
  have h2 := allG_len ns hn
  have h3 : 9 ^ ns.length ≤ 9 ^ 8 := Nat.pow_le_pow_right (by omega) hl
  have h4 : 9 ^ 8 = 43046721 := by decide
  omega
theorem rows_small {ns : List Nat} (hn : ∀ n ∈ ns, n ≤ 8) (hl : ns.length ≤ 8) : (Cov.rowsC ns).length ≤ 16777216 := by
  have h2 := rowsC_len ns hn
  have h3 : 8 ^ ns.length ≤ 8 ^ 8 := Nat.pow_le_pow_right (by omega) hl
  have h4 : 8 ^ 8 = 16777216 := by decide
  omega
/-- A part of a row is a combination. -/
theorem mask_combo {ns : List Nat} {r : List Int} (h : r ∈ Cov.rowsC ns) (t : Nat) {c : List Int} (hc : c ∈ (Cov.masks ns.length t).map (Cov.maskC r)) : Cov.comboB ns c = true :=
  ((Cov.mem_parts ((Cov.mem_rowsC ns r).1 h) t c).1 hc).1

theorem OwnS.obj {B : Nat} {E : Nat → Prop} {w : World} {v : Value} {xs : List (List Int)} (h : OwnS B E w v xs) : ∀ b, OB v b → ∀ o, w.heap[b]? = some o → ¬ book o := by
  obtain ⟨us, ⟨_, h1'⟩, _⟩ := h
  intro b hb o ho
  rcases h1' with h1' | ⟨g, cap, cur, rfl, hbb, hg, r⟩
  · rw [h1'.1] at hb; simp [OB, Value.ownBlock] at hb
  · obtain rfl : b = g := by simpa [OB, Value.ownBlock] using hb
    rw [hg] at ho
    cases ho
    simp [book]

/-- A drawn region in a round, at the worlds of φ. -/
theorem wpIn_region_heldT {P : Program} {n : Nat} {r : Option Nat} {id : Nat} {Q : Exit → Act → World → Prop} {a : Act} {w : World} {l : List Oper} (m : Nat) (s : List (Bool × Nat)) (φ : World → Prop) (hm : P.follows .mixedOrders = true) (hB : Region.schedTailB .any l.toArray m s = true) (hp : Region.plainHead l.toArray m = true) (hφ : φ (w.drewN 1))
    (h : Nonempty (Held φ) → wpSteps P l.toArray (fun W => ∃ x : Held φ, W = x.1) (fun a' w' => wpListIn (Fr r) n P l.toArray Q (l.drop m) a' w') l s a (w.drewN 1)) : (Code.region id l.toArray true).wpIn (Fr r) n P Q a w :=
  wpIn_region_sched m s (InHeld φ) hm hB hp (.of hφ) (h ⟨⟨_, hφ⟩⟩)

end Go.Proofs.YtjaejnacdanpkaaDoor
