/- Words for slices in memory; leaf functions of the references: Around, At, SameInts; rows that the call itself makes; regions that draw their order, by a schedule. Regions that draw their order, by a schedule; a range over a function, told by the kinds of the objects; slices.Clone. -/
import Derived.Test.YtjaejnacdanpkaaDoorRows
import Derived.WalkKit
import Derived.WalkSpells
import Derived.WalkLawsBesides
import Derived.BigQuiet
import Derived.Deep.QuietTactic
import Derived.StillTail
import Derived.RangeFuncNested
import Derived.RangeFuncBound
import Derived.RangeFuncCalls
import Derived.RangeFuncLeaves
import Derived.OwnWalkIn
import Derived.TacticsInMore
import Derived.LoopNIn
import Derived.LoopIn
namespace Go.Proofs.YtjaejnacdanpkaaDoor
open Go.RowKit

theorem hid {p : Prop} (h : p) : Hid p := h

theorem bneF {a b : Int} (h : a = b) : (a != b) = false := by simpa using h
theorem bneT {a b : Int} (h : a ≠ b) : (a != b) = true := by simpa using h
theorem beqT {a b : Int} (h : a = b) : (a == b) = true := by simpa using h
theorem beqF {a b : Int} (h : a ≠ b) : (a == b) = false := by simpa using h

/-- The block and the offset of a slice's base (0 for nil). -/
def slb (a : Option Addr) : Nat := (a.getD ⟨0, 0, none⟩).block
def slo (a : Option Addr) : Nat := (a.getD ⟨0, 0, none⟩).off
@[simp, go_sem] theorem slb_some (b o : Nat) (s : Option Nat) : slb (some ⟨b, o, s⟩) = b := rfl
@[simp, go_sem] theorem slo_some (b o : Nat) (s : Option Nat) : slo (some ⟨b, o, s⟩) = o := rfl
/-- A slice of n elements has a base, if it has an element. -/
def Slok (a : Option Addr) (n : Nat) : Prop := 0 < n → ∃ b o, a = some ⟨b, o, none⟩

@[go_sem] theorem run_indexAt_var {P : Program} (w : World) (t : TypeId) (a : Option Addr) (len cap : Nat) (k : IntKind) (i : Int)
    (h : P.underlying t = some (.slice (P.elem t))) (hok : Slok a len) (h0 : 0 ≤ i) (h1 : i < len) :
    (Instr.indexAt t (.slice a len cap) (.int k i)).run P w =
      ((sizeOf (P.elem t)).run P w).andThen fun s w => .ok (.pointer (some ⟨slb a, slo a + i.toNat * s, none⟩)) w := by
  obtain ⟨b, o, rfl⟩ := hok (by omega)
  rw [run_indexAt_slice w t _ len cap k i h, if_pos ⟨h0, h1⟩]
  simp [Addr.add_lit]

/-- What the blocks of S hold has stayed. -/
def KeepS (S : Nat → Prop) (w w' : World) : Prop := ∀ b, S b → b < w.heap.size → w'.heap[b]? = w.heap[b]?
theorem KeepS.refl (S : Nat → Prop) (w : World) : KeepS S w w := fun _ _ _ => rfl
theorem KeepS.of_below {S : Nat → Prop} {w w' : World} {B : Nat} (h : Below B w w') (hS : ∀ b, S b → b < B) : KeepS S w w' := fun b hb _ => h.block b (hS b hb)
theorem KeepS.below {S : Nat → Prop} {w w' : World} (h : Below w.heap.size w w') : KeepS S w w' := fun b _ hlt => h.block b hlt
theorem KeepS.of_grown {S : Nat → Prop} {w w' : World} {row : Option Nat} (h : w.grownBy w' row) (hS : ∀ b, S b → some b ≠ row) : KeepS S w w' := fun b hb hlt => h.block b hlt (hS b hb)

/-- v is a slice of the elements xs, each of one cell; R says what a cell's value is; the cells lie in a block of S. -/
def SlV {α : Type} (R : World → Value → α → Prop) (S : Nat → Prop) (w : World) (v : Value) (xs : List α) : Prop :=
  ∃ a cap, v = .slice a xs.length cap ∧ Slok a xs.length ∧ xs.length ≤ cap ∧ cap ≤ maxLen ∧ (0 < xs.length → S (slb a)) ∧
    ∀ j (h : j < xs.length), ∃ u, w.cell? ⟨slb a, slo a + j, none⟩ = some u ∧ R w u xs[j]

theorem SlV.keep {α : Type} {R : World → Value → α → Prop} {S : Nat → Prop} {w w' : World} {v : Value} {xs : List α}
    (h : SlV R S w v xs) (hk : KeepS S w w') (hR : ∀ u x, R w u x → R w' u x) : SlV R S w' v xs := by
  obtain ⟨a, cap, rfl, h1, h2, h3, h4, h5⟩ := h
  refine ⟨a, cap, rfl, h1, h2, h3, h4, fun j hj => ?_⟩
  obtain ⟨u, hu, hr⟩ := h5 j hj
  refine ⟨u, ?_, hR _ _ hr⟩
  rw [World.cell?_of_block (w := w) (a := ⟨slb a, slo a + j, none⟩) (hk _ (h4 (by omega)) (World.block_lt_of_cell? w ⟨slb a, slo a + j, none⟩ hu))]
  exact hu

theorem SlV.mono {α : Type} {R R' : World → Value → α → Prop} {S S' : Nat → Prop} {w : World} {v : Value} {xs : List α}
    (h : SlV R S w v xs) (hS : ∀ b, b < w.heap.size → S b → S' b) (hR : ∀ u x, R w u x → R' w u x) : SlV R' S' w v xs := by
  obtain ⟨a, cap, rfl, h1, h2, h3, h4, h5⟩ := h
  refine ⟨a, cap, rfl, h1, h2, h3, fun h0 => ?_, fun j hj => ?_⟩
  · obtain ⟨u, hu, _⟩ := h5 0 h0
    exact hS _ (World.block_lt_of_cell? w ⟨slb a, slo a + 0, none⟩ hu) (h4 h0)
  · obtain ⟨u, hu, hr⟩ := h5 j hj
    exact ⟨u, hu, hR _ _ hr⟩

theorem SlV.nil {α : Type} (R : World → Value → α → Prop) (S : Nat → Prop) (w : World) : SlV R S w (.slice none 0 0) [] :=
  ⟨none, 0, rfl, fun h => absurd h (by simp), Nat.le_refl _, Nat.zero_le _, fun h => absurd h (by simp), fun j h => absurd h (by simp)⟩

/-- A slice of numbers. -/
abbrev IntsV (S : Nat → Prop) := SlV (fun _ u (x : Int) => u = .int .i64 x) S
/-- A slice of slices of numbers: the records of a kind. -/
abbrev RowsV (S : Nat → Prop) := SlV (IntsV S) S
/-- A world. -/
abbrev WorldV (S : Nat → Prop) := SlV (RowsV S) S
/-- Any block. -/
abbrev AnyB : Nat → Prop := fun _ => True

theorem IntsV.keep {S w w' v xs} (h : IntsV S w v xs) (hk : KeepS S w w') : IntsV S w' v xs := SlV.keep h hk fun _ _ h => h
theorem RowsV.keep {S w w' v xs} (h : RowsV S w v xs) (hk : KeepS S w w') : RowsV S w' v xs := SlV.keep h hk fun _ _ h => IntsV.keep h hk
theorem WorldV.keep {S w w' v xs} (h : WorldV S w v xs) (hk : KeepS S w w') : WorldV S w' v xs := SlV.keep h hk fun _ _ h => RowsV.keep h hk
theorem IntsV.mono {S S' w v xs} (h : IntsV S w v xs) (hS : ∀ b, b < w.heap.size → S b → S' b) : IntsV S' w v xs := SlV.mono h hS fun _ _ h => h
theorem RowsV.mono {S S' w v xs} (h : RowsV S w v xs) (hS : ∀ b, b < w.heap.size → S b → S' b) : RowsV S' w v xs := SlV.mono h hS fun _ _ h => IntsV.mono h hS
theorem WorldV.mono {S S' w v xs} (h : WorldV S w v xs) (hS : ∀ b, b < w.heap.size → S b → S' b) : WorldV S' w v xs := SlV.mono h hS fun _ _ h => RowsV.mono h hS

end Go.Proofs.YtjaejnacdanpkaaDoor

namespace Go.Proofs.YtjaejnacdanpkaaDoor
open Go.RowKit

def around (n most : Int) : Int := if most < 1 then 0 else (if n < 0 then -(n + 1) else n) % most

theorem around_neg {n most : Int} (h3 : 1 ≤ most) (hn : n < 0) : -((n + 1).tmod most) = around n most := by
  unfold around; rw [if_neg (by omega), if_pos hn, ← Int.neg_tmod, Int.tmod_eq_emod_of_nonneg (by omega)]
theorem around_pos {n most : Int} (h3 : 1 ≤ most) (hn : 0 ≤ n) : n % most = around n most := by
  unfold around; rw [if_neg (by omega), if_neg (by omega)]
theorem around_lt (n most : Int) (h3 : 1 ≤ most) : 0 ≤ around n most ∧ around n most < most := by
  unfold around; rw [if_neg (by omega)]
  exact ⟨Int.emod_nonneg _ (by omega), Int.emod_lt_of_pos _ (by omega)⟩
theorem ret_int {k : IntKind} {a b : Int} (h : a = b) : Ending.returned (.int k a) = .returned (.int k b) := by rw [h]
theorem ret_bool {a b : Bool} (h : a = b) : Ending.returned (.bool a) = .returned (.bool b) := by rw [h]

set_option maxHeartbeats 400000 in
theorem around_any (n most : Int) (w : World) (h1 : -9223372036854775808 ≤ n) (h2 : n ≤ 9223372036854775807) (h3 : 1 ≤ most) (h4 : most ≤ 1000000) :
    Calls Tryd.prog 31 #[.int .i64 n, .int .i64 most] w fun e w' => e = .returned (.int .i64 (around n most)) ∧ w = w' := by
  by_cases hn : n < 0
  · go_enter Tryd.func31, Tryd.ntmps31
    go_wp2
    go_ret
    exact ⟨ret_int (around_neg h3 hn), rfl⟩
  · go_enter Tryd.func31, Tryd.ntmps31
    go_wp2
    go_ret
    exact ⟨ret_int (around_pos h3 (by omega)), rfl⟩

/-- The number that At makes of an element (0 after the end). -/
def atI (l : List Int) (i : Nat) (most : Int) : Int := if i < l.length then around (l.getD i 0) most else 0
theorem atI_lt (l : List Int) (i : Nat) (most : Int) (h3 : 1 ≤ most) : 0 ≤ atI l i most ∧ atI l i most < most := by
  unfold atI; split
  · exact around_lt _ _ h3
  · omega

/-- The numbers of a list fit int. -/
def Fit (l : List Int) : Prop := ∀ x ∈ l, -9223372036854775808 ≤ x ∧ x ≤ 9223372036854775807

set_option maxHeartbeats 400000 in
theorem at_any (l : List Int) (hl : Fit l) (v : Value) (i : Int) (most : Int) (S : Nat → Prop) (w : World) (hv : IntsV S w v l) (h3 : 1 ≤ most) (h4 : most ≤ 1000000) (hi : 0 ≤ i) :
    Calls Tryd.prog 28 #[v, .int .i64 i, .int .i64 most] w fun e w' => e = .returned (.int .i64 (atI l i.toNat most)) ∧ w = w' := by
  obtain ⟨a, cap, rfl, hok, hcap, hmax, hS, hcell⟩ := hv
  clear hS
  by_cases hlt : i < l.length
  · obtain ⟨u, hu, rfl⟩ := hcell i.toNat (by omega)
    have hb := hl _ (List.getElem_mem (l := l) (n := i.toNat) (by omega))
    have e1 : around l[i.toNat] most = atI l i.toNat most := by unfold atI; rw [if_pos (by omega), List.getD_eq_getElem?_getD, List.getElem?_eq_getElem (by omega)]; rfl
    obtain ⟨x, hx⟩ : ∃ x, x = l[i.toNat] := ⟨_, rfl⟩
    rw [← hx] at e1 hu hb
    rw [← e1]
    clear e1 hx hcell
    generalize l.length = n at *
    go_enter Tryd.func28, Tryd.ntmps28
    go_wp2_with (go_at_call 31; refine (around_any _ _ _ (by omega) (by omega) (by omega) (by omega)).mono ?_; rintro e w' ⟨rfl, rfl⟩)
    go_ret
    exact ⟨rfl, rfl⟩
  · have e1 : atI l i.toNat most = 0 := by unfold atI; rw [if_neg (by omega)]
    rw [e1]
    clear e1 hcell
    generalize l.length = n at *
    go_enter Tryd.func28, Tryd.ntmps28
    go_wp2
    go_ret
    exact ⟨rfl, rfl⟩

end Go.Proofs.YtjaejnacdanpkaaDoor

namespace Go.Proofs.YtjaejnacdanpkaaDoor
open Go.RowKit

theorem same_prefix {xs ys : List Int} {k : Nat} (hl : xs.length = ys.length) (hk : k = xs.length) (h : xs.take k = ys.take k) : xs = ys := by
  have e1 : xs.take xs.length = xs := List.take_length
  have e2 : ys.take ys.length = ys := List.take_length
  rw [hk] at h
  rw [← e1, h, hl, e2]

theorem take_eq_succ {xs ys : List Int} {k : Nat} (hx : k < xs.length) (hy : k < ys.length) (h : xs.take k = ys.take k) (e : xs[k] = ys[k]) : xs.take (k + 1) = ys.take (k + 1) := by
  rw [List.take_succ_eq_append_getElem hx, List.take_succ_eq_append_getElem hy, h, e]

set_option maxHeartbeats 400000 in
theorem sameInts_any (xs ys : List Int) (u v : Value) (S T : Nat → Prop) (w : World) (hu : IntsV S w u xs) (hv : IntsV T w v ys) :
    Calls Tryd.prog 29 #[u, v] w fun e w' => e = .returned (.bool (decide (xs = ys))) ∧ ∃ n, w' = w.drewN n := by
  obtain ⟨a, cap, rfl, hok, hcap, hmax, hS, hcell⟩ := hu
  obtain ⟨a', cap', rfl, hok', hcap', hmax', hS', hcell'⟩ := hv
  clear hS hS'
  unfold maxLen at hmax hmax'
  by_cases hl : xs.length = ys.length
  · have hl2 : ((xs.length : Int) != (ys.length : Int)) = false := by simp [hl]
    have hl3 : xs.length ≤ ys.length := by omega
    have HL := hid hl
    clear hl
    go_enter Tryd.func29, Tryd.ntmps29
    go_wp2
    go_loopw [5] (fun i wr => ∃ k : Nat, k ≤ xs.length ∧ i = .int .i64 k ∧ Hid (xs.take k = ys.take k) ∧ ∃ n, wr = w.drewN n) (fun i _ => xs.length - (intOf i).toNat)
    case atStart => exact ⟨0, Nat.zero_le _, rfl, hid rfl, 0, rfl⟩
    case round =>
      obtain ⟨k, hk, rfl, hpre, n, rfl⟩ := hrel
      by_cases hlt : k < xs.length
      · obtain ⟨x, hx, hx2⟩ := hcell k hlt
        obtain ⟨y, hy, hy2⟩ := hcell' k (by omega)
        obtain ⟨x0, hx0⟩ : ∃ x0, x0 = xs[k] := ⟨_, rfl⟩
        obtain ⟨y0, hy0⟩ : ∃ y0, y0 = ys[k] := ⟨_, rfl⟩
        rw [← hx0] at hx2
        rw [← hy0] at hy2
        subst hx2; subst hy2
        have hk0 : (0 : Int) ≤ (k : Int) := by omega
        have hk1 : (k : Int) < (xs.length : Int) := by omega
        have hk2 : (k : Int) < (ys.length : Int) := by omega
        have HX := hid hx0
        have HY := hid hy0
        clear hx0 hy0
        by_cases hxy : x0 = y0
        · subst hxy
          go_wp2
          go_quiet (fail)
          go_wp2
          go_roundw
          case rel => exact ⟨k + 1, by omega, by go_num, hid (take_eq_succ hlt (by omega) hpre.out (HX.out.symm.trans HY.out)), _, rfl⟩
          case measure => simp [intOf]; omega
        · have hb : (x0 != y0) = true := by simpa using hxy
          have hne : xs ≠ ys := by
            intro e
            subst e
            exact hxy (HX.out.trans HY.out.symm)
          have HN := hid hne
          clear hxy hne
          go_wp2
          go_quiet (fail)
          go_wp2
          go_ret
          exact ⟨ret_bool (decide_eq_false HN.out).symm, by rw [World.drewN_drewN]; exact ⟨_, rfl⟩⟩
      · go_wp2
        go_ret
        exact ⟨ret_bool (decide_eq_true (same_prefix HL.out (by omega) hpre.out)).symm, _, rfl⟩
  · have hl2 : ((xs.length : Int) != (ys.length : Int)) = true := by simpa using (by omega : (xs.length : Int) ≠ ys.length)
    rw [decide_eq_false (fun e => hl (by rw [e]))]
    clear hl
    go_enter Tryd.func29, Tryd.ntmps29
    go_wp2
    go_ret
    exact ⟨rfl, 0, rfl⟩

end Go.Proofs.YtjaejnacdanpkaaDoor

namespace Go.Proofs.YtjaejnacdanpkaaDoor
open Go.RowKit

theorem range_snoc {α : Type} (f : Nat → α) (k : Nat) : (List.range k).map f ++ [f k] = (List.range (k + 1)).map f := by simp [List.range_succ]

/-- What append asks of the element's type. -/
def AppT (P : Program) (t e : TypeId) (size bytes : Nat) : Prop :=
  P.underlying t = some (.slice e) ∧ P.underlying t ≠ none ∧ ∃ i z, P.info? e = some i ∧ i.zero = some z ∧ i.size = size ∧ i.bytes = bytes ∧ z.cells.size = size ∧ 0 < size ∧ bytes ≤ 1000

theorem appT_mk {P : Program} {t e : TypeId} {z : Value} {size bytes : Nat} (h : P.underlying t = some (.slice e))
    (hi : (P.info? e).map (fun i => (i.zero, i.size, i.bytes)) = some (some z, size, bytes)) (hz : z.cells.size = size) (h0 : 0 < size) (hb : bytes ≤ 1000) : AppT P t e size bytes := by
  obtain ⟨i, h1, h2, h3, h4⟩ := info_parts hi
  exact ⟨h, by rw [h]; simp, i, z, h1, h2, h3, h4, hz, h0, hb⟩

section
variable {P : Program} {w : World} {t e : TypeId} {size bytes : Nat}

/-- Nothing is appended. -/
theorem run_app_zero (ty : TypeId) (hT : AppT P t e size bytes) {base : Nat} {v : Value} {n : Nat} {xs : List Value} (hown : w.ownsRow base e size v n xs) (ao : Option Addr) (c : Nat) :
    (Builtin.append_ #[t, t] ty #[v, .slice ao 0 c]).run P w = .ok v w := by
  obtain ⟨ht, _, i, z, h1, h2, h3, h4, h5, h6, _⟩ := hT
  have hs : (sizeOf e).run P w = .ok i.size w := by simp [sizeOf, typeInfo, h1]
  have hf : (Builtin.firstCells i.size 0 (.slice ao 0 c)).run P w = .ok #[] w := by
    cases ao <;> simp [Builtin.firstCells, loadCells, loadCellsFrom]
  rcases hown.2 with ⟨rfl, rfl⟩ | ⟨g, cap, cur, rfl, _, _, hn, _⟩
  · simp [Builtin.append_, run_underlying ht, hs, Builtin.lenOf, hf]
  · simp [Builtin.append_, run_underlying ht, hs, Builtin.lenOf, hf, hn, storeCells]

/-- 'append(v, x...)', v owned: what it hands back, and in which block it lies. -/
theorem run_app (ty : TypeId) (hT : AppT P t e size bytes) {base : Nat} {v : Value} {n : Nat} {xs : List Value} (hown : w.ownsRow base e size v n xs)
    (ao : Option Addr) (m c : Nat) (hok : Slok ao m) (news : List Value) (hl : news.length = m * size)
    (hnews : ∀ j u, news[j]? = some u → w.cell? ⟨slb ao, slo ao + j, none⟩ = some u) (h1 : ∀ u ∈ news, u.oneCell' = true)
    (hsmall : n + m ≤ 1000000000) (hbase : base ≤ w.heap.size) :
    ∃ v' w', (Builtin.append_ #[t, t] ty #[v, .slice ao m c]).run P w = .ok v' w' ∧ w'.ownsRow base e size v' (n + m) (xs ++ news) ∧ w.grownBy w' v.ownBlock ∧
      (v'.ownBlock = v.ownBlock ∨ v'.ownBlock = some w.heap.size) := by
  rcases Nat.eq_zero_or_pos m with rfl | hm
  · obtain rfl : news = [] := List.eq_nil_of_length_eq_zero (by simpa using hl)
    exact ⟨v, w, run_app_zero ty hT hown ao c, by simpa using hown, ⟨rfl, rfl, rfl, Nat.le_refl _, fun _ _ _ => rfl⟩, .inl rfl⟩
  obtain ⟨ab, ao', rfl⟩ := hok hm
  have hnews' : ∀ j u, news[j]? = some u → w.cell? ((⟨ab, ao', none⟩ : Addr).add j) = some u := fun j u hu => by
    rw [Addr.add_lit]; exact hnews j u hu
  obtain ⟨ht, _, i, z, g1, g2, g3, g4, g5, g6, g7⟩ := hT
  subst g3
  subst g4
  have hby : (n + m) * i.bytes ≤ 140737488355328 := by have := Nat.mul_le_mul hsmall g7; omega
  have h63 : n + m ≤ maxLen := by unfold maxLen; omega
  have hlen : (xs ++ news).length = (n + m) * i.size := by rw [List.length_append, hown.1, hl, Nat.add_mul]
  have grown : ∀ (old : Nat), old < n + m → ∀ (row : Option Nat),
      (w.drew.alloc (.cells (xs.toArray ++ news.toArray ++ Builtin.zeroCells z.cells (grownCap w (n + m) old e - (n + m))) e)).ownsRow base e i.size
        (.slice (some ⟨w.heap.size, 0, none⟩) (n + m) (grownCap w (n + m) old e)) (n + m) (xs ++ news) ∧
      w.grownBy (w.drew.alloc (.cells (xs.toArray ++ news.toArray ++ Builtin.zeroCells z.cells (grownCap w (n + m) old e - (n + m))) e)) row := by
    intro old _ row
    have hge := grownCap_ge w (n + m) old e
    have hcm : grownCap w (n + m) old e ≤ maxLen := grownCap_le_maxLen w (n + m) old e h63
    refine ⟨⟨hlen, .inr ⟨w.heap.size, _, _, rfl, hbase, heap_alloc_new w.drew _, hge, hcm, ?_, ?_⟩⟩, ⟨rfl, rfl, rfl, by simp, fun k hk _ => Below.heap_alloc w.drew _ k hk⟩⟩
    · have e1 : n * i.size + m * i.size = (n + m) * i.size := (Nat.add_mul _ _ _).symm
      have e2 : (n + m) * i.size + (grownCap w (n + m) old e - (n + m)) * i.size = grownCap w (n + m) old e * i.size := by rw [← Nat.add_mul]; congr 1; omega
      simp only [Array.size_append, List.size_toArray, size_zeroCells, g5, hown.1, hl, e1, e2]
    · simp only [Array.toList_append, List.append_assoc]
      rw [← List.append_assoc, ← hlen]
      exact List.take_left
  rcases hown.2 with ⟨rfl, rfl⟩ | ⟨g, cap, cur, rfl, hbg, hg, hnc, hcm, hcs, htake⟩
  · have hx : xs = [] := List.eq_nil_of_length_eq_zero (by simpa using hown.1)
    subst hx
    have hr := run_append_nil (P := P) w t ty e i z ht g1 g2 ⟨ab, ao', none⟩ m c news hl hnews' hm (by omega) (by rw [Nat.zero_add] at hby; omega)
    have hgr := grown 0 (by omega) (Value.ownBlock (.slice none 0 0))
    simp only [Nat.zero_add, List.nil_append] at hgr ⊢
    refine ⟨_, _, hr, ?_, ?_, .inr rfl⟩
    · simpa using hgr.1
    · simpa using hgr.2
  · by_cases hroom : n + m ≤ cap
    · have hfit : n * i.size + news.length ≤ cur.size := by rw [hl, hcs, ← Nat.add_mul]; exact Nat.mul_le_mul_right _ hroom
      have hr := run_append_room (P := P) w t ty e i ht g1 g n cap cur hg ⟨ab, ao', none⟩ m c news hl hnews' h1 hroom hfit
      refine ⟨_, _, hr, ⟨hlen, .inr ⟨g, cap, _, rfl, hbg, setRow_heap w g cur _ e _ hg, hroom, hcm, ?_, ?_⟩⟩, ⟨rfl, rfl, rfl, by simp, fun k _ hk => setRow_other w g k _ (fun e => hk (by simp [Value.ownBlock, e]))⟩, .inl rfl⟩
      · simp only [List.size_toArray, List.length_append, List.length_take, List.length_drop, Array.length_toList]
        omega
      · rw [htake, ← hlen]
        exact List.take_left
    · have holds : ∀ j u, xs[j]? = some u → w.cell? ((⟨g, 0, none⟩ : Addr).add j) = some u := hown.cells (g := g) rfl
      have hr := run_append_grow (P := P) w t ty e i z ht g1 g2 ⟨g, 0, none⟩ n cap xs hown.1 holds ⟨ab, ao', none⟩ m c news hl hnews' (by omega) (by omega) (growslice_fits (by omega) hby)
      have hgr := grown cap (by omega) (Value.ownBlock (.slice (some ⟨g, 0, none⟩) n cap))
      exact ⟨_, _, hr, hgr.1, hgr.2, .inr rfl⟩

/-- The same as a law of the walk. -/
theorem wpList_app {ops : Array Oper} {rest : List Oper} {o : Oper} {a : Act} {Q : Exit → Act → World → Prop} (hgd : o.guard = none) (s x : Operand)
    (ho : o.op = .call { callee := .builtin .append, args := #[s, x], argTypes := #[t, t] }) (hT : AppT P t e size bytes)
    {base : Nat} {v : Value} {n : Nat} {xs : List Value} (hs : a.eval s = v) (hown : w.ownsRow base e size v n xs)
    (ao : Option Addr) (m c : Nat) (hx : a.eval x = .slice ao m c) (hok : Slok ao m) (news : List Value) (hl : news.length = m * size)
    (hnews : ∀ j u, news[j]? = some u → w.cell? ⟨slb ao, slo ao + j, none⟩ = some u) (h1 : ∀ u ∈ news, u.oneCell' = true)
    (hsmall : n + m ≤ 1000000000) (hbase : base ≤ w.heap.size)
    (h : ∀ v' w', w'.ownsRow base e size v' (n + m) (xs ++ news) → w.grownBy w' v.ownBlock → (v'.ownBlock = v.ownBlock ∨ v'.ownBlock = some w.heap.size) → wpList P ops Q rest (a.put o.dst v') w') :
    wpList P ops Q (o :: rest) a w := by
  obtain ⟨v', w', hr, h2, h3, h4⟩ := run_app o.type hT hown ao m c hok news hl hnews h1 hsmall hbase
  refine wpList_plain hgd fun K hK => ?_
  unfold Oper.wp
  simp [execOp, ho, resolve, invoke, builtin, hs, hx, hr, Result.andThen]
  exact hK _ _ (h v' w' h2 h3 h4)
end

/-- The cells of a block that has just been made. -/
theorem news_alloc (w : World) (cs : Array Value) (t : TypeId) : ∀ j u, cs.toList[j]? = some u → (w.alloc (.cells cs t)).cell? ⟨w.heap.size, 0 + j, none⟩ = some u := by
  intro j u hu
  rw [Nat.zero_add, World.cell?_alloc_new]
  simpa using hu

/-- A word on a value that speaks of the blocks of S alone. -/
structure Steady {α : Type} (RR : (Nat → Prop) → World → Value → α → Prop) : Prop where
  keep : ∀ {S w w' u x}, RR S w u x → KeepS S w w' → RR S w' u x
  mono : ∀ {S S' : Nat → Prop} {w u x}, RR S w u x → (∀ b, b < w.heap.size → S b → S' b) → RR S' w u x

theorem steady_int : Steady (fun _ _ u (x : Int) => u = .int .i64 x) := ⟨fun h _ => h, fun h _ => h⟩
theorem steady_ints : Steady (α := List Int) (fun S => IntsV S) := ⟨fun h k => h.keep k, fun h k => h.mono k⟩
theorem steady_rows : Steady (α := List (List Int)) (fun S => RowsV S) := ⟨fun h k => h.keep k, fun h k => h.mono k⟩
theorem steady_world : Steady (α := List (List (List Int))) (fun S => WorldV S) := ⟨fun h k => h.keep k, fun h k => h.mono k⟩

/-- v is a row of the call's own (from block B on) whose elements are xs; what they lead to lies from B on, and not in v's own block. -/
def OwnV {α : Type} (RR : (Nat → Prop) → World → Value → α → Prop) (B : Nat) (e : TypeId) (w : World) (v : Value) (xs : List α) : Prop :=
  ∃ us, w.ownsRow B e 1 v xs.length us ∧ us.length = xs.length ∧ ∀ j (h1 : j < us.length) (h2 : j < xs.length), RR (fun b => B ≤ b ∧ some b ≠ v.ownBlock) w us[j] xs[j]

theorem OwnV.nil {α : Type} (RR : (Nat → Prop) → World → Value → α → Prop) (B : Nat) (e : TypeId) (w : World) : OwnV RR B e w (.slice none 0 0) [] :=
  ⟨[], World.ownsRow_nil _ _ _ _, rfl, fun j h => absurd h (by simp)⟩

/-- It reads as a slice. -/
theorem OwnV.sl {α : Type} {RR : (Nat → Prop) → World → Value → α → Prop} (hR : Steady RR) {B : Nat} {e : TypeId} {w : World} {v : Value} {xs : List α} (h : OwnV RR B e w v xs) :
    SlV (RR (B ≤ ·)) (B ≤ ·) w v xs := by
  obtain ⟨us, ⟨h1, h2⟩, hl, hr⟩ := h
  simp only [Nat.mul_one] at h1
  rcases h2 with ⟨rfl, h0⟩ | ⟨g, cap, cur, rfl, hb, hg, hn, hc, hs, ht⟩
  · obtain rfl : xs = [] := List.eq_nil_of_length_eq_zero h0
    exact SlV.nil _ _ w
  · simp only [Nat.mul_one] at hs ht
    refine ⟨some ⟨g, 0, none⟩, cap, rfl, fun _ => ⟨g, 0, rfl⟩, by omega, hc, fun _ => hb, fun j hj => ?_⟩
    refine ⟨us[j]'(by omega), ?_, hR.mono (hr j (by omega) hj) (fun b _ h => h.1)⟩
    rw [slb_some, slo_some, Nat.zero_add, cell_of_row w g j cur e (0, 0) hg]
    have h3 : us[j]? = some (us[j]'(by omega)) := List.getElem?_eq_getElem (by omega)
    rw [← h3, ← ht, List.getElem?_take, if_pos (by omega)]
    simp

theorem OwnV.kept {α : Type} {RR : (Nat → Prop) → World → Value → α → Prop} (hR : Steady RR) {B : Nat} {e : TypeId} {w w' : World} {v : Value} {xs : List α} (h : OwnV RR B e w v xs)
    (hk : KeepS (B ≤ ·) w w') : OwnV RR B e w' v xs := by
  obtain ⟨us, ⟨h1, h2⟩, hl, hr⟩ := h
  refine ⟨us, ⟨h1, ?_⟩, hl, fun j g1 g2 => hR.keep (hr j g1 g2) (fun b hb hlt => hk b hb.1 hlt)⟩
  rcases h2 with h2 | ⟨g, cap, cur, hv, hb, hg, r⟩
  · exact .inl h2
  · exact .inr ⟨g, cap, cur, hv, hb, by rw [hk g hb (Array.getElem?_eq_some_iff.1 hg).1]; exact hg, r⟩

/-- New blocks, and whatever happens from the heap's end on, leave it. -/
theorem OwnV.below {α : Type} {RR : (Nat → Prop) → World → Value → α → Prop} (hR : Steady RR) {B : Nat} {e : TypeId} {w w' : World} {v : Value} {xs : List α} (h : OwnV RR B e w v xs)
    (hk : Below w.heap.size w w') : OwnV RR B e w' v xs := h.kept hR (KeepS.below hk)

/-- A block that is newer than the row's world is none of its own. -/
theorem OwnV.fresh {α : Type} {RR : (Nat → Prop) → World → Value → α → Prop} {B : Nat} {e : TypeId} {w : World} {v : Value} {xs : List α} (h : OwnV RR B e w v xs) (hB : B ≤ w.heap.size) :
    ∀ b, w.heap.size ≤ b → B ≤ b ∧ some b ≠ v.ownBlock := by
  intro b hb
  obtain ⟨us, h1, _⟩ := h
  refine ⟨by omega, fun e => ?_⟩
  have := (h1.lt b e.symm).2
  omega

/-- One more element. -/
theorem OwnV.app {α : Type} {RR : (Nat → Prop) → World → Value → α → Prop} (hR : Steady RR) {B : Nat} {e : TypeId} {w w0 w' : World} {v v' : Value} {xs : List α} {us : List Value} {x : α} {u : Value}
    (hl : us.length = xs.length) (hr : ∀ j (h1 : j < us.length) (h2 : j < xs.length), RR (fun b => B ≤ b ∧ some b ≠ v.ownBlock) w us[j] xs[j])
    (hu : RR (fun b => B ≤ b ∧ some b ≠ v.ownBlock) w u x) (hb : Below w.heap.size w w0)
    (hown : w'.ownsRow B e 1 v' (xs.length + 1) (us ++ [u])) (hg : w0.grownBy w' v.ownBlock) (hn : v'.ownBlock = v.ownBlock ∨ v'.ownBlock = some w0.heap.size) : OwnV RR B e w' v' (xs ++ [x]) := by
  have key : ∀ {u x}, RR (fun b => B ≤ b ∧ some b ≠ v.ownBlock) w u x → RR (fun b => B ≤ b ∧ some b ≠ v'.ownBlock) w' u x := by
    intro u x h
    have hsz := hb.size
    have h1 := hR.mono (S' := fun b => (B ≤ b ∧ some b ≠ v.ownBlock) ∧ b < w.heap.size) h (fun b hlt hb' => ⟨hb', hlt⟩)
    have h2 := hR.keep (w' := w') h1 (fun b hb' _ => (hg.block b (by omega) hb'.1.2).trans (hb.block b hb'.2))
    refine hR.mono h2 (fun b _ hb' => ⟨hb'.1.1, ?_⟩)
    rcases hn with hn | hn
    · rw [hn]; exact hb'.1.2
    · rw [hn]; intro e'; have := Option.some.inj e'; omega
  refine ⟨us ++ [u], by simpa using hown, by simp [hl], fun j h1 h2 => ?_⟩
  by_cases hj : j < us.length
  · rw [List.getElem_append_left hj, List.getElem_append_left (by omega)]
    exact key (hr j hj (by omega))
  · simp at h1
    obtain rfl : j = us.length := by omega
    simp only [List.getElem_append_right (Nat.le_refl _), Nat.sub_self, List.getElem_cons_zero]
    rw [List.getElem_append_right (by omega)]
    simp [hl]
    exact key hu

/-- 'append(s, x)', s a row of the call's own, the one new element u; what is kept. -/
theorem wpList_app1 {P : Program} {t e : TypeId} {bytes : Nat} {α : Type} {RR : (Nat → Prop) → World → Value → α → Prop} (hR : Steady RR) {w : World} {ops : Array Oper} {rest : List Oper} {o : Oper} {a : Act} {Q : Exit → Act → World → Prop} (hgd : o.guard = none) (s x : Operand)
    (ho : o.op = .call { callee := .builtin .append, args := #[s, x], argTypes := #[t, t] }) (hT : AppT P t e 1 bytes)
    {base : Nat} {v : Value} {xs : List α} (hs : a.eval s = v) (hown : OwnV RR base e w v xs)
    {u : Value} {e' : TypeId} (hx : a.eval x = .slice (some ⟨w.heap.size, 0, none⟩) 1 1) (y : α) (hu : RR (fun b => base ≤ b ∧ some b ≠ v.ownBlock) w u y) (h1 : u.oneCell' = true)
    (hsmall : xs.length + 1 ≤ 1000000000) (hbase : base ≤ w.heap.size) {B0 : Nat} {w0 : World} (hb : Below B0 w0 w) (hB : B0 ≤ base)
    (h : ∀ v' w', OwnV RR base e w' v' (xs ++ [y]) → Below B0 w0 w' → (∀ S : Nat → Prop, (∀ b, S b → some b ≠ v.ownBlock) → KeepS S w w') → wpList P ops Q rest (a.put o.dst v') w') :
    wpList P ops Q (o :: rest) a (w.alloc (.cells #[u] e')) := by
  obtain ⟨us, h2, h3, h4⟩ := hown
  refine wpList_app hgd s x ho hT hs (h2.alloc _) _ 1 1 hx (fun _ => ⟨_, _, rfl⟩) [u] rfl (news_alloc w #[u] e') (by simpa using h1) hsmall (by simp; omega) (fun v' w' g1 g2 g3 => ?_)
  have ha : Below w.heap.size w (w.alloc (.cells #[u] e')) := (Below.refl _ _).alloc (Nat.le_refl _) _
  refine h v' w' (OwnV.app hR h3 h4 hu ha g1 g2 g3) ?_ (fun S hS b hb' hlt => ?_)
  · have hB0 : B0 ≤ w.heap.size := by omega
    exact (hb.alloc hB0 _).grown g2 (by simp; omega) (fun k hk => by have := (h2.lt k hk).1; omega)
  · exact (g2.block b (by simp; omega) (hS b hb')).trans (ha.block b hlt)

theorem Tryd.app22 : AppT Tryd.prog 22 3 1 8 := appT_mk (z := .int .i64 0) (by kernel_rfl) (by kernel_rfl) rfl (by omega) (by omega)
theorem Tryd.app63 : AppT Tryd.prog 23 22 1 24 := appT_mk (z := .slice none 0 0) (by kernel_rfl) (by kernel_rfl) rfl (by omega) (by omega)

end Go.Proofs.YtjaejnacdanpkaaDoor

namespace Go.Proofs.YtjaejnacdanpkaaDoor
open Go.RowKit

/-- The blocks of S that were there, and all new ones. -/
def Grow (S : Nat → Prop) (N : Nat) : Nat → Prop := fun b => (S b ∧ b < N) ∨ N ≤ b
theorem grow_from {B N : Nat} (h : B ≤ N) : ∀ b, Grow (B ≤ ·) N b → B ≤ b := by
  intro b hb
  rcases hb with hb | hb
  · exact hb.1
  · exact Nat.le_trans h hb

/-- What lies outside of S has stayed, and no block has gone. -/
structure Turns (S : Nat → Prop) (w w' : World) : Prop where
  os : w'.os = w.os
  tape : w'.tape = w.tape
  output : w'.output = w.output
  size : w.heap.size ≤ w'.heap.size
  block : ∀ b, ¬ S b → b < w.heap.size → w'.heap[b]? = w.heap[b]?

theorem Turns.refl (S : Nat → Prop) (w : World) : Turns S w w := ⟨rfl, rfl, rfl, Nat.le_refl _, fun _ _ _ => rfl⟩
theorem Turns.trans {S : Nat → Prop} {w w1 w2 : World} (h : Turns S w w1) (k : Turns S w1 w2) : Turns S w w2 :=
  ⟨k.os.trans h.os, k.tape.trans h.tape, k.output.trans h.output, Nat.le_trans h.size k.size, fun b hb hlt => (k.block b hb (Nat.lt_of_lt_of_le hlt h.size)).trans (h.block b hb hlt)⟩
theorem Turns.mono {S S' : Nat → Prop} {w w1 : World} (h : Turns S w w1) (hS : ∀ b, b < w.heap.size → S b → S' b) : Turns S' w w1 :=
  ⟨h.os, h.tape, h.output, h.size, fun b hb hlt => h.block b (fun hs => hb (hS b hlt hs)) hlt⟩
theorem Turns.of_below {S : Nat → Prop} {w w1 : World} (h : Below w.heap.size w w1) : Turns S w w1 := ⟨h.os, h.tape, h.output, h.size, fun b _ hlt => h.block b hlt⟩
theorem Turns.below {S : Nat → Prop} {w w1 : World} {B : Nat} (h : Turns S w w1) (hB : B ≤ w.heap.size) (hS : ∀ b, S b → B ≤ b) : Below B w w1 :=
  ⟨h.os, h.tape, h.output, h.size, fun b hb => h.block b (fun hs => by have := hS b hs; omega) (by omega)⟩
theorem Turns.keep {S T : Nat → Prop} {w w1 : World} (h : Turns S w w1) (hT : ∀ b, T b → ¬ S b) : KeepS T w w1 := fun b hb hlt => h.block b (hT b hb) hlt
theorem Turns.setCell {S : Nat → Prop} {w w1 : World} (h : Turns S w w1) (a : Addr) (v : Value) (ha : S a.block) : Turns S w (w1.setCell a v) :=
  h.trans ⟨rfl, rfl, rfl, by simp [World.setCell], fun b hb _ => Below.heap_setCell _ _ _ _ (fun e => hb (e ▸ ha))⟩
theorem Turns.of_grown {S : Nat → Prop} {w w1 : World} {row : Option Nat} (h : w.grownBy w1 row) (hr : ∀ b, row = some b → S b) : Turns S w w1 :=
  ⟨h.os, h.tape, h.output, h.size, fun b hb hlt => h.block b hlt (fun e => hb (hr b e.symm))⟩

/-- A row of numbers of the call's own, in a block of S. -/
def IntsF (S : Nat → Prop) (w : World) (v : Value) (xs : List Int) : Prop :=
  w.ownsRow 0 3 1 v xs.length (xs.map (Value.int .i64)) ∧ ∀ b, v.ownBlock = some b → S b

/-- A row of the call's own, in a block of S, whose elements lie in blocks of S that are apart from each other and from the row's own. -/
def OwnF {α : Type} (RR : (Nat → Prop) → World → Value → α → Prop) (e : TypeId) (S : Nat → Prop) (w : World) (v : Value) (xs : List α) : Prop :=
  (∀ b, v.ownBlock = some b → S b) ∧ ∃ (us : List Value) (Z : Nat → Nat), w.ownsRow 0 e 1 v xs.length us ∧ us.length = xs.length ∧
    ∀ j (h1 : j < us.length) (h2 : j < xs.length), RR (fun b => S b ∧ some b ≠ v.ownBlock ∧ Z b = j) w us[j] xs[j]

theorem ownsRow_keep {S : Nat → Prop} {w w' : World} {base : Nat} {e : TypeId} {size : Nat} {v : Value} {n : Nat} {us : List Value} (h : w.ownsRow base e size v n us) (hS : ∀ b, v.ownBlock = some b → S b) (hk : KeepS S w w') : w'.ownsRow base e size v n us := by
  refine ⟨h.1, ?_⟩
  rcases h.2 with h2 | ⟨g, cap, cur, rfl, hb, hg, r⟩
  · exact .inl h2
  · exact .inr ⟨g, cap, cur, rfl, hb, by rw [hk g (hS g rfl) (Array.getElem?_eq_some_iff.1 hg).1]; exact hg, r⟩

theorem steady_intsF : Steady (α := List Int) IntsF :=
  ⟨fun h k => ⟨ownsRow_keep h.1 h.2 k, h.2⟩, fun h k => ⟨h.1, fun b hb => k b (h.1.lt b hb).2 (h.2 b hb)⟩⟩

theorem steady_ownF {α : Type} {RR : (Nat → Prop) → World → Value → α → Prop} (hR : Steady RR) (e : TypeId) : Steady (α := List α) (OwnF RR e) where
  keep := by
    rintro S w w' v xs ⟨h1, us, Z, h2, h3, h4⟩ hk
    exact ⟨h1, us, Z, ownsRow_keep h2 h1 hk, h3, fun j g1 g2 => hR.keep (h4 j g1 g2) (fun b hb hlt => hk b hb.1 hlt)⟩
  mono := by
    rintro S S' w v xs ⟨h1, us, Z, h2, h3, h4⟩ hS
    exact ⟨fun b hb => hS b (h2.lt b hb).2 (h1 b hb), us, Z, h2, h3, fun j g1 g2 => hR.mono (h4 j g1 g2) (fun b hlt hb => ⟨hS b hlt hb.1, hb.2⟩)⟩

abbrev RowsF := OwnF IntsF 22
abbrev WorldF := OwnF RowsF 23
theorem steady_rowsF : Steady (α := List (List Int)) RowsF := steady_ownF steady_intsF _
theorem steady_worldF : Steady (α := List (List (List Int))) WorldF := steady_ownF steady_rowsF _

/-- It reads as a slice. -/
theorem ownsRow_sl {α : Type} {R : World → Value → α → Prop} {S : Nat → Prop} {w : World} {base : Nat} {e : TypeId} {v : Value} {us : List Value} {xs : List α}
    (h : w.ownsRow base e 1 v xs.length us) (hS : ∀ b, v.ownBlock = some b → S b) (hl : us.length = xs.length) (hR : ∀ j (h1 : j < us.length) (h2 : j < xs.length), R w us[j] xs[j]) : SlV R S w v xs := by
  obtain ⟨h1, h2⟩ := h
  simp only [Nat.mul_one] at h1
  rcases h2 with ⟨rfl, h0⟩ | ⟨g, cap, cur, rfl, hb, hg, hn, hc, hs, ht⟩
  · obtain rfl : xs = [] := List.eq_nil_of_length_eq_zero h0
    exact SlV.nil R S w
  · simp only [Nat.mul_one] at hs ht
    refine ⟨some ⟨g, 0, none⟩, cap, rfl, fun _ => ⟨g, 0, rfl⟩, by omega, hc, fun _ => hS g rfl, fun j hj => ?_⟩
    refine ⟨us[j]'(by omega), ?_, hR j (by omega) hj⟩
    rw [slb_some, slo_some, Nat.zero_add, cell_of_row w g j cur e (0, 0) hg]
    have h3 : us[j]? = some (us[j]'(by omega)) := List.getElem?_eq_getElem (by omega)
    rw [← h3, ← ht, List.getElem?_take, if_pos (by omega)]
    simp

theorem IntsF.sl {S : Nat → Prop} {w : World} {v : Value} {xs : List Int} (h : IntsF S w v xs) : IntsV S w v xs :=
  ownsRow_sl h.1 h.2 (by simp) (fun j h1 h2 => by simp)
theorem OwnF.sl {α : Type} {RR : (Nat → Prop) → World → Value → α → Prop} (hR : Steady RR) {R : (Nat → Prop) → World → Value → α → Prop} (hS : ∀ {S w u x}, RR S w u x → R S w u x)
    {e : TypeId} {S : Nat → Prop} {w : World} {v : Value} {xs : List α} (h : OwnF RR e S w v xs) : SlV (R S) S w v xs := by
  obtain ⟨h1, us, Z, h2, h3, h4⟩ := h
  exact ownsRow_sl h2 h1 h3 (fun j g1 g2 => hS (hR.mono (h4 j g1 g2) (fun b _ hb => hb.1)))
theorem RowsF.sl {S : Nat → Prop} {w : World} {v : Value} {xs : List (List Int)} (h : RowsF S w v xs) : RowsV S w v xs := OwnF.sl (R := fun S => IntsV S) steady_intsF (fun h => IntsF.sl h) h
theorem WorldF.sl {S : Nat → Prop} {w : World} {v : Value} {xs : List (List (List Int))} (h : WorldF S w v xs) : WorldV S w v xs := OwnF.sl (R := fun S => RowsV S) steady_rowsF (fun h => RowsF.sl h) h

theorem OwnF.nil {α : Type} (RR : (Nat → Prop) → World → Value → α → Prop) (e : TypeId) (S : Nat → Prop) (w : World) : OwnF RR e S w (.slice none 0 0) [] :=
  ⟨fun b hb => by simp [Value.ownBlock] at hb, [], fun _ => 0, World.ownsRow_nil _ _ _ _, rfl, fun j h => absurd h (by simp)⟩
theorem IntsF.nil (S : Nat → Prop) (w : World) : IntsF S w (.slice none 0 0) [] := ⟨World.ownsRow_nil _ _ _ _, fun b hb => by simp [Value.ownBlock] at hb⟩

/-- A cell of an owned row is written. -/
theorem ownsRow_set {w : World} {base : Nat} {e : TypeId} {g n cap : Nat} {us : List Value} (h : w.ownsRow base e 1 (.slice (some ⟨g, 0, none⟩) n cap) n us) (j : Nat) (u : Value) :
    (w.setCell ⟨g, j, none⟩ u).ownsRow base e 1 (.slice (some ⟨g, 0, none⟩) n cap) n (us.set j u) := by
  obtain ⟨h1, h2⟩ := h
  refine ⟨by simpa using h1, ?_⟩
  rcases h2 with ⟨h2, _⟩ | ⟨g', cap', cur, hv, hb, hg, hn, hc, hs, ht⟩
  · cases h2
  · cases hv
    refine .inr ⟨g, cap, cur.setIfInBounds j u, rfl, hb, heap_setCell_same w g j cur e u hg, hn, hc, by simpa using hs, ?_⟩
    rw [Array.toList_setIfInBounds, ← ht]
    exact List.take_set ..

/-- An owned row of at least one element is a slice at the head of its block; its cells. -/
theorem ownsRow_form {w : World} {base : Nat} {e : TypeId} {v : Value} {n : Nat} {us : List Value} (h : w.ownsRow base e 1 v n us) (hn : 0 < n) :
    ∃ g cap, v = .slice (some ⟨g, 0, none⟩) n cap ∧ n ≤ cap ∧ cap ≤ maxLen ∧ w.shape? g = some (e, cap) ∧ ∀ j (hj : j < us.length), w.cell? ⟨g, j, none⟩ = some us[j] ∧ w.frozen? ⟨g, j, none⟩ = false := by
  obtain ⟨h1, h2⟩ := h
  rcases h2 with ⟨_, h2⟩ | ⟨g, cap, cur, hv, hb, hg, hn, hc, hs, ht⟩
  · omega
  · simp only [Nat.mul_one] at h1 hs ht
    refine ⟨g, cap, hv, hn, hc, by simp [World.shape?, hg, hs], fun j hj => ⟨?_, frozen_of_row w g j cur e hg⟩⟩
    rw [cell_of_row w g j cur e (0, 0) hg]
    have h3 : us[j]? = some us[j] := List.getElem?_eq_getElem hj
    rw [← h3, ← ht, List.getElem?_take, if_pos (by omega)]
    simp

/-- ONE ELEMENT IS BORROWED: the cell in which its value stands; the value and its blocks; and how it is handed back: changed where it lies, or a new value stored in the cell. -/
theorem OwnF.borrow {α : Type} {RR : (Nat → Prop) → World → Value → α → Prop} (hR : Steady RR) {e : TypeId} {S : Nat → Prop} {w : World} {v : Value} {xs : List α} (h : OwnF RR e S w v xs) (j : Nat) (hj : j < xs.length) :
    ∃ g cap u T, v = .slice (some ⟨g, 0, none⟩) xs.length cap ∧ xs.length ≤ cap ∧ cap ≤ maxLen ∧ S g ∧ w.cell? ⟨g, j, none⟩ = some u ∧ w.frozen? ⟨g, j, none⟩ = false ∧ RR T w u xs[j] ∧ (∀ b, T b → S b ∧ b ≠ g ∧ b < w.heap.size) ∧
      (∀ w2 x', Turns T w w2 → RR (Grow T w.heap.size) w2 u x' → OwnF RR e (Grow S w.heap.size) w2 v (xs.set j x')) ∧
      (∀ w2 u' x', Turns T w w2 → RR (Grow T w.heap.size) w2 u' x' → w2.cell? ⟨g, j, none⟩ = some u ∧ w2.frozen? ⟨g, j, none⟩ = false ∧ OwnF RR e (Grow S w.heap.size) (w2.setCell ⟨g, j, none⟩ u') v (xs.set j x') ∧ Turns (fun b => T b ∨ b = g) w (w2.setCell ⟨g, j, none⟩ u')) := by
  obtain ⟨h1, us, Z, h2, h3, h4⟩ := h
  obtain ⟨g, cap, rfl, h5, h6, _, h7⟩ := ownsRow_form h2 (by omega)
  have hg : S g := h1 g rfl
  have hgl : g < w.heap.size := (h2.lt g rfl).2
  have hj' : j < us.length := by omega
  obtain ⟨c1, c2⟩ := h7 j hj'
  let T : Nat → Prop := fun b => (S b ∧ some b ≠ some g ∧ Z b = j) ∧ b < w.heap.size
  have hT : ∀ b, T b → S b ∧ b ≠ g ∧ b < w.heap.size := fun b hb => ⟨hb.1.1, fun e => hb.1.2.1 (by rw [e]), hb.2⟩
  have hgT : ¬ T g := fun hb => (hT g hb).2.1 rfl
  -- the other elements, and the row itself, behind a turn of T
  have row : ∀ w2, Turns T w w2 → w2.ownsRow 0 e 1 (.slice (some ⟨g, 0, none⟩) xs.length cap) xs.length us := fun w2 ht =>
    ownsRow_keep (S := fun b => b = g) h2 (fun b hb => by simpa [Value.ownBlock] using hb.symm) (ht.keep fun b hb => by rw [hb]; exact hgT)
  have back : ∀ w2 w3 (u' : Value) x', Turns T w w2 → RR (Grow T w.heap.size) w2 u' x' → (∀ b, b ≠ g → b < w2.heap.size → w3.heap[b]? = w2.heap[b]?) →
      w3.ownsRow 0 e 1 (.slice (some ⟨g, 0, none⟩) xs.length cap) xs.length (us.set j u') → OwnF RR e (Grow S w.heap.size) w3 (.slice (some ⟨g, 0, none⟩) xs.length cap) (xs.set j x') := by
    intro w2 w3 u' x' ht hr hk hrow
    refine ⟨fun b hb => ?_, us.set j u', fun b => if b < w.heap.size then Z b else j, by simpa using hrow, by simpa using h3, fun i g1 g2 => ?_⟩
    · obtain rfl : g = b := by simpa [Value.ownBlock] using hb
      exact .inl ⟨hg, hgl⟩
    · by_cases hij : j = i
      · subst hij
        simp only [List.getElem_set_self]
        have hr2 := hR.mono (S' := fun b => Grow S w.heap.size b ∧ some b ≠ some g ∧ (if b < w.heap.size then Z b else j) = j) hr (fun b _ hb => by
          rcases hb with hb | hb
          · exact ⟨.inl ⟨hb.1.1.1, hb.2⟩, hb.1.1.2.1, by rw [if_pos hb.2]; exact hb.1.1.2.2⟩
          · exact ⟨.inr hb, fun e => by have := Option.some.inj e; omega, by rw [if_neg (by omega)]⟩)
        exact hR.keep hr2 (fun b hb hlt => hk b (fun e => hb.2.1 (by rw [e]; rfl)) hlt)
      · have g1' : i < us.length := by simpa using g1
        have g2' : i < xs.length := by simpa using g2
        rw [List.getElem_set_ne hij, List.getElem_set_ne hij]
        have hr1 := hR.mono (S' := fun b => (S b ∧ some b ≠ some g ∧ Z b = i) ∧ b < w.heap.size) (h4 i g1' g2') (fun b hlt hb => ⟨hb, hlt⟩)
        have hr2 := hR.keep hr1 (ht.keep fun b hb hb' => hij (hb'.1.2.2.symm.trans hb.1.2.2))
        have hr3 := hR.keep (w' := w3) hr2 (fun b hb hlt => hk b (fun e => hb.1.2.1 (by rw [e])) hlt)
        exact hR.mono hr3 (fun b _ hb => ⟨.inl ⟨hb.1.1, hb.2⟩, hb.1.2.1, by show (if b < w.heap.size then Z b else j) = i; rw [if_pos hb.2]; exact hb.1.2.2⟩)
  refine ⟨g, cap, us[j], T, rfl, h5, h6, hg, c1, c2, hR.mono (h4 j hj' hj) (fun b hlt hb => ⟨hb, hlt⟩), hT, fun w2 x' ht hr => ?_, fun w2 u' x' ht hr => ?_⟩
  · exact back w2 w2 us[j] x' ht hr (fun _ _ _ => rfl) (by rw [List.set_getElem_self]; exact row w2 ht)
  · have c3 : w2.heap[g]? = w.heap[g]? := ht.block g hgT hgl
    refine ⟨(World.cell?_of_block (a := ⟨g, j, none⟩) c3).trans c1, (World.frozen?_of_block (a := ⟨g, j, none⟩) c3).trans c2, ?_, ?_⟩
    · exact back w2 _ u' x' ht hr (fun b hb _ => Below.heap_setCell w2 ⟨g, j, none⟩ u' b hb) (ownsRow_set (row w2 ht) j u')
    · exact (ht.mono fun b _ hb => .inl hb).setCell ⟨g, j, none⟩ u' (.inr rfl)

/-- The cells of a slice value that reads as a slice. -/
theorem SlV.news {α : Type} {R : World → Value → α → Prop} {S : Nat → Prop} {w : World} {ao : Option Addr} {m c : Nat} {ys : List α} (h : SlV R S w (.slice ao m c) ys) :
    m = ys.length ∧ Slok ao m ∧ ∃ us : List Value, us.length = m ∧ (∀ j u, us[j]? = some u → w.cell? ⟨slb ao, slo ao + j, none⟩ = some u) ∧ ∀ j (h1 : j < us.length) (h2 : j < ys.length), R w us[j] ys[j] := by
  obtain ⟨a, cap, hv, h1, h2, h3, h4, h5⟩ := h
  cases hv
  refine ⟨rfl, h1, (List.range ys.length).map (fun j => (w.cell? ⟨slb ao, slo ao + j, none⟩).getD undef), by simp, fun j u hu => ?_, fun j g1 g2 => ?_⟩
  · have hj : j < ys.length := by
      have := (List.getElem?_eq_some_iff.1 hu).1
      simpa using this
    obtain ⟨u', hu', _⟩ := h5 j hj
    rw [List.getElem?_eq_getElem (by simpa using hj)] at hu
    simp only [List.getElem_map, List.getElem_range] at hu
    rw [hu'] at hu
    rw [hu', ← hu]
    rfl
  · obtain ⟨u', hu', hr⟩ := h5 j g2
    simp only [List.getElem_map, List.getElem_range, hu']
    exact hr

section
variable {P : Program} {t e : TypeId} {bytes : Nat} {α : Type} {RR : (Nat → Prop) → World → Value → α → Prop} {w : World} {ops : Array Oper} {rest : List Oper} {o : Oper} {a : Act} {Q : Exit → Act → World → Prop}

/-- 'append(s, x...)' to a row whose elements are apart; the new elements lie in blocks that are newer than the row's world. -/
theorem wpList_appF (hR : Steady RR) (hgd : o.guard = none) (s x : Operand)
    (ho : o.op = .call { callee := .builtin .append, args := #[s, x], argTypes := #[t, t] }) (hT : AppT P t e 1 bytes)
    {S : Nat → Prop} {w1 : World} {v : Value} {xs : List α} (hs : a.eval s = v) (hown : OwnF RR e S w1 v xs) (hb : Below w1.heap.size w1 w)
    {ao : Option Addr} {m c : Nat} (hx : a.eval x = .slice ao m c) (hok : Slok ao m) (news : List Value) (hl : news.length = m)
    (hnews : ∀ j u, news[j]? = some u → w.cell? ⟨slb ao, slo ao + j, none⟩ = some u) (h1 : ∀ u ∈ news, u.oneCell' = true)
    (ys : List α) (hy : ys.length = m) (Zn : Nat → Nat) (hu : ∀ i (g1 : i < news.length) (g2 : i < ys.length), RR (fun b => w1.heap.size ≤ b ∧ Zn b = i) w news[i] ys[i])
    (hsmall : xs.length + m ≤ 1000000000)
    (h : ∀ v' w', OwnF RR e (Grow S w1.heap.size) w' v' (xs ++ ys) → Turns (fun b => some b = v.ownBlock) w w' → wpList P ops Q rest (a.put o.dst v') w') :
    wpList P ops Q (o :: rest) a w := by
  obtain ⟨f1, us, Z, f2, f3, f4⟩ := hown
  have hsz := hb.size
  have f2' : w.ownsRow 0 e 1 v xs.length us := ownsRow_keep (S := fun _ => True) f2 (fun _ _ => trivial) (KeepS.below hb)
  refine wpList_app hgd s x ho hT hs f2' ao m c hx hok news (by simpa using hl) hnews h1 hsmall (Nat.zero_le _) (fun v' w' g1 g2 g3 => ?_)
  refine h v' w' ⟨fun b hb' => ?_, us ++ news, fun b => if b < w1.heap.size then Z b else xs.length + Zn b, ?_, ?_, fun j k1 k2 => ?_⟩ (Turns.of_grown g2 fun b hb' => hb'.symm)
  · rcases g3 with g3 | g3
    · rw [g3] at hb'; exact .inl ⟨f1 b hb', (f2.lt b hb').2⟩
    · rw [g3] at hb'; exact .inr (by have := Option.some.inj hb'; omega)
  · rw [List.length_append, hy]; exact g1
  · simp [f3, hl, hy]
  · have other : ∀ {u y}, ∀ S' : Nat → Prop, RR S' w u y → (∀ b, b < w.heap.size → S' b → some b ≠ v.ownBlock) → (∀ b, b < w.heap.size → S' b → Grow S w1.heap.size b ∧ (if b < w1.heap.size then Z b else xs.length + Zn b) = j) →
        RR (fun b => Grow S w1.heap.size b ∧ some b ≠ v'.ownBlock ∧ (if b < w1.heap.size then Z b else xs.length + Zn b) = j) w' u y := by
      intro u y S' hr hne hS'
      have r1 := hR.mono (S' := fun b => S' b ∧ b < w.heap.size) hr (fun b hlt hb' => ⟨hb', hlt⟩)
      have r2 := hR.keep (w' := w') r1 (fun b hb' _ => g2.block b hb'.2 (hne b hb'.2 hb'.1))
      refine hR.mono r2 (fun b _ hb' => ⟨(hS' b hb'.2 hb'.1).1, ?_, (hS' b hb'.2 hb'.1).2⟩)
      rcases g3 with g3 | g3
      · rw [g3]; exact hne b hb'.2 hb'.1
      · rw [g3]; intro e'; have := Option.some.inj e'; omega
    by_cases hj : j < us.length
    · rw [List.getElem_append_left hj, List.getElem_append_left (by omega)]
      have r0 := hR.mono (S' := fun b => (S b ∧ some b ≠ v.ownBlock ∧ Z b = j) ∧ b < w1.heap.size) (f4 j hj (by omega)) (fun b hlt hb' => ⟨hb', hlt⟩)
      have r1 := hR.keep (w' := w) r0 (fun b hb' _ => hb.block b hb'.2)
      exact other _ r1 (fun b _ hb' => hb'.1.2.1) (fun b _ hb' => ⟨.inl ⟨hb'.1.1, hb'.2⟩, by rw [if_pos hb'.2]; exact hb'.1.2.2⟩)
    · have k1' : j < us.length + news.length := by simpa using k1
      rw [List.getElem_append_right (by omega), List.getElem_append_right (by omega)]
      have e1 : j - us.length = j - xs.length := by omega
      have hr := hu (j - us.length) (by omega) (by omega)
      simp only [e1] at hr ⊢
      refine other _ hr (fun b _ hb' e' => ?_) (fun b _ hb' => ⟨.inr hb'.1, by rw [if_neg (by omega), hb'.2]; omega⟩)
      have := (f2.lt b e'.symm).2
      omega

/-- 'append(s, x)': one new element. -/
theorem wpList_appF1 (hR : Steady RR) (hgd : o.guard = none) (s x : Operand)
    (ho : o.op = .call { callee := .builtin .append, args := #[s, x], argTypes := #[t, t] }) (hT : AppT P t e 1 bytes)
    {S : Nat → Prop} {w1 : World} {v : Value} {xs : List α} (hs : a.eval s = v) (hown : OwnF RR e S w1 v xs) (hb : Below w1.heap.size w1 w)
    {u : Value} {e' : TypeId} (hx : a.eval x = .slice (some ⟨w.heap.size, 0, none⟩) 1 1) (y : α) (hu : RR (fun b => w1.heap.size ≤ b) w u y) (h1 : u.oneCell' = true)
    (hsmall : xs.length + 1 ≤ 1000000000)
    (h : ∀ v' w', OwnF RR e (Grow S w1.heap.size) w' v' (xs ++ [y]) → Turns (fun b => some b = v.ownBlock) w w' → wpList P ops Q rest (a.put o.dst v') w') :
    wpList P ops Q (o :: rest) a (w.alloc (.cells #[u] e')) := by
  have ha : Below w.heap.size w (w.alloc (.cells #[u] e')) := (Below.refl _ _).alloc (Nat.le_refl _) _
  refine wpList_appF hR hgd s x ho hT hs hown (hb.trans (ha.mono hb.size)) hx (fun _ => ⟨_, _, rfl⟩) [u] rfl (news_alloc w #[u] e') (by simpa using h1) [y] rfl (fun _ => 0) ?_ hsmall (fun v' w' g1 g2 => h v' w' g1 ((Turns.of_below ha).trans ⟨g2.os, g2.tape, g2.output, g2.size, g2.block⟩))
  intro i g1 g2
  obtain rfl : i = 0 := by simp at g1; omega
  exact hR.mono (hR.keep hu (KeepS.below ha)) (fun b _ hb' => ⟨hb', rfl⟩)

/-- 'append(s, x...)' of numbers. -/
theorem wpList_appI (hgd : o.guard = none) (s x : Operand)
    (ho : o.op = .call { callee := .builtin .append, args := #[s, x], argTypes := #[t, t] }) (hT : AppT P t 3 1 bytes)
    {S : Nat → Prop} {w1 : World} {v : Value} {xs : List Int} (hs : a.eval s = v) (hown : IntsF S w1 v xs) (hb : Below w1.heap.size w1 w)
    {ao : Option Addr} {m c : Nat} (hx : a.eval x = .slice ao m c) {T : Nat → Prop} {ys : List Int} (hy : IntsV T w (.slice ao m c) ys)
    (hsmall : xs.length + m ≤ 1000000000)
    (h : ∀ v' w', IntsF (Grow S w1.heap.size) w' v' (xs ++ ys) → Turns (fun b => some b = v.ownBlock) w w' → wpList P ops Q rest (a.put o.dst v') w') :
    wpList P ops Q (o :: rest) a w := by
  obtain ⟨rfl, hok, us, l1, l2, l3⟩ := SlV.news hy
  have hus : us = ys.map (Value.int .i64) := by
    refine List.ext_getElem (by simp [l1]) (fun i g1 g2 => ?_)
    simpa using l3 i g1 (by simpa using g2)
  have hsz := hb.size
  have f2' : w.ownsRow 0 3 1 v xs.length (xs.map (Value.int .i64)) := ownsRow_keep (S := fun _ => True) hown.1 (fun _ _ => trivial) (KeepS.below hb)
  refine wpList_app hgd s x ho hT hs f2' ao ys.length c hx hok us (by simpa using l1) l2 ?_ hsmall (Nat.zero_le _) (fun v' w' g1 g2 g3 => h v' w' ⟨?_, fun b hb' => ?_⟩ (Turns.of_grown g2 fun b hb' => hb'.symm))
  · rw [hus]; intro u hu; obtain ⟨y, _, rfl⟩ := List.mem_map.1 hu; rfl
  · rw [List.length_append, List.map_append, ← hus]; exact g1
  · rcases g3 with g3 | g3
    · rw [g3] at hb'; exact .inl ⟨hown.2 b hb', (hown.1.lt b hb').2⟩
    · rw [g3] at hb'; exact .inr (by have := Option.some.inj hb'; omega)
end

end Go.Proofs.YtjaejnacdanpkaaDoor

namespace Go.Proofs.YtjaejnacdanpkaaDoor
open Go.RowKit

/-- An element of a slice: its cell; the block is there. -/
theorem SlV.at {α : Type} {R : World → Value → α → Prop} {S : Nat → Prop} {w : World} {a : Option Addr} {n cap : Nat} {xs : List α} (h : SlV R S w (.slice a n cap) xs) {j : Nat} (hj : j < xs.length) :
    ∃ u, w.cell? ⟨slb a, slo a + j, none⟩ = some u ∧ slb a < w.heap.size ∧ R w u xs[j] := by
  obtain ⟨a', cap', hv, h1, h2, h3, h4, h5⟩ := h
  cases hv
  obtain ⟨u, hu, hr⟩ := h5 j hj
  exact ⟨u, hu, World.block_lt_of_cell? w ⟨slb a, slo a + j, none⟩ hu, hr⟩

/-- The value is a slice. -/
theorem SlV.form {α : Type} {R : World → Value → α → Prop} {S : Nat → Prop} {w : World} {v : Value} {xs : List α} (h : SlV R S w v xs) :
    ∃ a cap, v = .slice a xs.length cap ∧ Slok a xs.length ∧ xs.length ≤ cap ∧ cap ≤ 9223372036854775807 := by
  obtain ⟨a, cap, hv, h1, h2, h3, _⟩ := h
  exact ⟨a, cap, hv, h1, h2, by unfold maxLen at h3; omega⟩

theorem take_snoc {α : Type} {xs : List α} {k : Nat} (h : k < xs.length) : xs.take k ++ [xs[k]] = xs.take (k + 1) := (List.take_succ_eq_append_getElem h).symm

end Go.Proofs.YtjaejnacdanpkaaDoor

namespace Go.Proofs.YtjaejnacdanpkaaDoor
open Go.RowKit

theorem forall_take_succ {α : Type} {xs : List α} {P : α → Prop} {k : Nat} (h : k < xs.length) (h1 : ∀ x ∈ xs.take k, P x) (h2 : P xs[k]) : ∀ x ∈ xs.take (k + 1), P x := by
  rw [← take_snoc h]
  intro x hx
  rcases List.mem_append.1 hx with hx | hx
  · exact h1 x hx
  · rw [List.mem_singleton.1 hx]; exact h2
theorem headD_eq {α : Type} {xs : List α} (d : α) (h : 0 < xs.length) : xs.headD d = xs[0] := by
  cases xs with
  | nil => simp at h
  | cons x xs => rfl

end Go.Proofs.YtjaejnacdanpkaaDoor

namespace Go.Proofs.YtjaejnacdanpkaaDoor
open Go.RowKit

section
variable {P : Program} {ops : Array Oper} {md : Region.Mode} {C : World → Prop}

/-- Nothing but the way on. -/
def QN (K : Act → World → Prop) : Exit → Act → World → Prop
  | .normal, a, w => K a w
  | _, _, _ => False

theorem letsOut_QN {K : Act → World → Prop} : ¬ LetsOut (QN K) := by
  rintro ⟨a, w, h⟩
  exact h

/-- Operation i is carried out; it leaves a world of the class. -/
def hOp (P : Program) (ops : Array Oper) (C : World → Prop) (i : Nat) (K : Act → World → Prop) (a : Act) (w : World) : Prop :=
  wpOp P ops (QN fun _ _ => False) i (fun a' w' => C w' ∧ K a' w') a w

theorem hOp_mono {i : Nat} {a : Act} {w : World} {K K' : Act → World → Prop} (h : ∀ a w, C w → K a w → K' a w) (hh : hOp P ops C i K a w) : hOp P ops C i K' a w :=
  wpOp_mono (fun a w hk => ⟨hk.1, h a w hk.1 hk.2⟩) hh

theorem wp_exit {o : Oper} {a : Act} {w : World} {K : Act → World → Prop} {Q Q' : Exit → Act → World → Prop} (hp : ∀ c a w, Q (.panic c) a w → Q' (.panic c) a w) (ho : LetsOut Q → LetsOut Q')
    (h : o.wp P a w K Q) : o.wp P a w K Q' := by
  unfold Oper.wp at *
  generalize (execOp a.eval o).run P w = r at *
  cases r with
  | ok n w' =>
    cases n <;> simp only [Oper.upon] at h ⊢
    case enter f args =>
      refine Calls.mono h fun e w'' he => ?_
      cases e with
      | returned u => exact he
      | panicked c => exact hp _ _ _ he
      | outgrown => exact ho he
    all_goals exact h
  | halt x w' =>
    cases x <;> simp only [Oper.upon] at h ⊢
    case panic u => exact hp _ _ _ h

theorem wpOp_exit {i : Nat} {a : Act} {w : World} {K : Act → World → Prop} {Q Q' : Exit → Act → World → Prop} (hp : ∀ c a w, Q (.panic c) a w → Q' (.panic c) a w) (ho : LetsOut Q → LetsOut Q')
    (h : wpOp P ops Q i K a w) : wpOp P ops Q' i K a w := by
  unfold wpOp at *
  split
  · rename_i hi; simp only [hi] at h; exact h
  · rename_i o hi
    simp only [hi] at h
    split
    · rename_i hw
      simp only [hw, if_true] at h
      rcases h with h | ⟨h1, h2⟩
      · exact .inl (wp_exit hp ho h)
      · exact .inr ⟨h1, ho h2⟩
    · rename_i hw
      simp only [hw] at h
      exact h

/-- In every world of the class the operation yields v, and turns nothing. -/
def YieldsC (P : Program) (ops : Array Oper) (C : World → Prop) (o : Oper) (v : Value) (a : Act) : Prop :=
  (Region.wanted o (yielded ops a.tmps) = true ∧ ∀ w, C w → (execOp a.eval o).run P w = .ok (.value v) w) ∨
  (Region.wanted o (yielded ops a.tmps) = false ∧ v = undef)

theorem YieldsC.wpOp {i : Nat} {o : Oper} {v : Value} {a : Act} (hi : ops[i]? = some o) (hy : YieldsC P ops C o v a) {K : Act → World → Prop} {Q : Exit → Act → World → Prop} {w : World} (hC : C w) (h : K (a.put o.dst v) w) :
    wpOp P ops Q i K a w := by
  unfold Go.wpOp
  simp only [hi]
  rcases hy with ⟨hw, hv⟩ | ⟨hw, rfl⟩
  · simp only [hw, if_true, Oper.wp, hv w hC, Oper.upon]; exact .inl h
  · simp only [hw, Bool.false_eq_true, if_false]; exact h

theorem YieldsC.of_same {o : Oper} {v : Value} {a a' : Act} (hy : YieldsC P ops C o v a) (he : execOp a'.eval o = execOp a.eval o)
    (hw : Region.wanted o (yielded ops a'.tmps) = Region.wanted o (yielded ops a.tmps)) : YieldsC P ops C o v a' := by
  unfold YieldsC at *
  rw [he, hw]
  exact hy

theorem hOp_put {j : Nat} {oi oj : Oper} {v : Value} (hj : ops[j]? = some oj) (hap : oi.apart ops oj = true)
    (hsi : ∀ cs b, oi.op ≠ .select cs b) (hsj : ∀ cs b, oj.op ≠ .select cs b) {K : Act → World → Prop} {a : Act} {w : World}
    (hy : YieldsC P ops C oi v a) (h : hOp P ops C j K (a.put oi.dst v) w) :
    hOp P ops C j (fun a' w' => YieldsC P ops C oi v a' ∧ K (a'.put oi.dst v) w') a w := by
  obtain ⟨h1, h2, h3⟩ := Oper.apart_spec hap
  have keep : ∀ (a : Act), YieldsC P ops C oi v a → ∀ u, YieldsC P ops C oi v (a.put oj.dst u) := fun a hy u =>
    hy.of_same (execOp_put oi hsi a oj.dst u h3) (wanted_put oi a oj.dst u h3)
  have keepD : ∀ d, YieldsC P ops C oi v { a with defers := d :: a.defers } := fun d => hy.of_same rfl rfl
  unfold hOp wpOp at *
  simp only [hj] at *
  rw [wanted_put oj a oi.dst v h1] at h
  split
  · rename_i hw
    simp only [hw, if_true] at h
    rcases h with h | ⟨_, hlets⟩
    case inr => exact absurd hlets letsOut_QN
    refine .inl ?_
    unfold Oper.wp at *
    rw [execOp_put oj hsj a oi.dst v h1] at h
    generalize (execOp a.eval oj).run P w = r at *
    cases r with
    | ok n w' =>
      cases n <;> simp only [Oper.upon] at h ⊢
      case value u => exact ⟨h.1, keep a hy u, by rw [← Act.put_comm a v u h2]; exact h.2⟩
      case skip => exact ⟨h.1, keep a hy _, by rw [← Act.put_comm a v undef h2]; exact h.2⟩
      case defer d =>
        refine ⟨h.1, keep _ (keepD d) _, ?_⟩
        rw [← Act.put_comm _ v undef h2, ← Act.put_defers]
        exact h.2
      case enter f args =>
        refine Calls.mono h fun e w'' he => ?_
        cases e with
        | returned u => exact ⟨he.1, keep a hy u, by rw [← Act.put_comm a v u h2]; exact he.2⟩
        | panicked c => exact he
        | outgrown => exact he
      case row row args => exact Rows.mono h fun u w'' he => ⟨he.1, keep a hy u, by rw [← Act.put_comm a v u h2]; exact he.2⟩
    | halt x w' =>
      cases x <;> simp only [Oper.upon] at h ⊢
      case panic u => exact h
  · rename_i hw
    simp only [hw] at h
    exact ⟨h.1, keep a hy _, by rw [← Act.put_comm a v undef h2]; exact h.2⟩

/-- Whatever order of the first n operations; then L. -/
def wpAnyH (P : Program) (md : Region.Mode) (ops : Array Oper) (C : World → Prop) (n : Nat) (L : Array Bool → Act → World → Prop) : Nat → Array Bool → Act → World → Prop
  | 0, listed, a, w => L listed a w
  | f + 1, listed, a, w =>
    Region.ready md ops listed ≠ [] ∧ ∀ i ∈ Region.ready md ops listed, i < n ∧ hOp P ops C i (wpAnyH P md ops C n L f (listed.setIfInBounds i true)) a w

theorem wpAny_of_headH {n g : Nat} {L : Array Bool → Act → World → Prop} {Q' : Exit → Act → World → Prop} (hL : ∀ listed a w, L listed a w → wpAny P md ops Q' g listed a w) :
    ∀ (f : Nat) (listed : Array Bool) (a : Act) (w : World), wpAnyH P md ops C n L f listed a w → wpAny P md ops Q' (f + g) listed a w
  | 0, listed, a, w, h => by rw [Nat.zero_add]; exact hL _ _ _ h
  | f + 1, listed, a, w, h => by
    rw [show f + 1 + g = (f + g) + 1 by omega]
    exact ⟨fun h0 => absurd h0 h.1, fun i hi => wpOp_exit (fun _ _ _ hf => absurd hf (by simp [QN])) (fun hl => absurd hl letsOut_QN) (wpOp_mono (fun a' w' h' => wpAny_of_headH hL f _ a' w' h'.2) (h.2 i hi).2)⟩

theorem wpAnyH_first {n i : Nat} {oi : Oper} {v : Value} {L : Array Bool → Act → World → Prop} (hi : ops[i]? = some oi) (hsel : ∀ (j : Nat) (o : Oper) cs b, ops[j]? = some o → o.op ≠ .select cs b)
    (hs : Region.sinkB md ops n = true) (hc : Region.chainB md ops n = true) (hn : n < ops.size) (hin : i < n)
    (hdone : ∀ listed a w, L listed a w → ∀ j ∈ Region.ready md ops listed, n ≤ j) :
    ∀ (f : Nat) (listed : Array Bool) (a : Act) (w : World), C w → HeadInv md ops n listed →
      (∀ j oj, ops[j]? = some oj → j ≠ i → listed.getD j true = false → (∀ e ∈ oj.after, Region.binds md e = true → e.on ≠ i) → oi.apart ops oj = true) →
      i ∈ Region.ready md ops listed → YieldsC P ops C oi v a →
      wpAnyH P md ops C n L f (listed.setIfInBounds i true) (a.put oi.dst v) w → wpAnyH P md ops C n L (f + 1) listed a w := by
  intro f
  induction f with
  | zero =>
    intro listed a w hCw inv _ hr hy H
    have hun := (mem_ready.1 hr).1
    refine ⟨fun h => (by rw [h] at hr; cases hr), fun j hj => ?_⟩
    have hjn : j < n := by
      rcases Nat.lt_or_ge j n with h | h
      · exact h
      · exact absurd hj (tail_waits hs hc hn inv _ i rfl hin hun j h)
    refine ⟨hjn, ?_⟩
    by_cases hji : j = i
    · subst hji; exact hy.wpOp hi hCw ⟨hCw, H⟩
    · have := hdone _ _ _ H j (ready_mono hj hji)
      omega
  | succ f ih =>
    intro listed a w hCw inv hfree hr hy H
    have hun := (mem_ready.1 hr).1
    refine ⟨fun h => (by rw [h] at hr; cases hr), fun j hj => ?_⟩
    have hjn : j < n := by
      rcases Nat.lt_or_ge j n with h | h
      · exact h
      · exact absurd hj (tail_waits hs hc hn inv _ i rfl hin hun j h)
    refine ⟨hjn, ?_⟩
    by_cases hji : j = i
    · subst hji; exact hy.wpOp hi hCw ⟨hCw, H⟩
    · have h1 := (H.2 j (ready_mono hj hji)).2
      obtain ⟨hjun, oj, hoj, hall⟩ := mem_ready.1 hj
      have hnot : ∀ e ∈ oj.after, Region.binds md e = true → e.on ≠ i := fun e he hb heq => by
        have h1 := hall e he hb
        rw [heq, getD_both hun] at h1
        cases h1
      have h2 := hOp_put hoj (hfree j oj hoj hji hjun hnot) (fun cs b => hsel i oi cs b hi) (fun cs b => hsel j oj cs b hoj) hy h1
      have hfree' : ∀ k ok, ops[k]? = some ok → k ≠ i → (listed.setIfInBounds j true).getD k true = false →
          (∀ e ∈ ok.after, Region.binds md e = true → e.on ≠ i) → oi.apart ops ok = true := fun k ok hk hki hun hno => by
        refine hfree k ok hk hki ?_ hno
        by_cases hjk : j = k
        · subst hjk; exact hjun
        · rw [getD_set_ne true hjk] at hun; exact hun
      refine hOp_mono (fun a' w' hCw' h3 => ih (listed.setIfInBounds j true) a' w' hCw' (inv.set hj hjn) hfree' (ready_mono hr (Ne.symm hji)) h3.1 ?_) h2
      rw [Array.setIfInBounds_comm _ _ hji]
      exact h3.2

/-- Operations that call no Go function. -/
def quietOp : Op → Bool
  | .move _ | .assign _ | .pick .. | .load .. | .binOp .. | .unOp .. | .build .. | .fieldAddr .. | .field .. | .indexAddr .. | .index .. | .slice .. | .extract .. | .convert .. | .makeFunc .. => true
  | .call { callee := .builtin .len, .. } | .call { callee := .builtin .cap, .. } | .call { callee := .builtin .min, .. } | .call { callee := .builtin .max, .. } => true
  | _ => false

theorem noEnter_v {s : Sem Value} {w w' : World} {nx : Next} (hn : ∀ v, nx ≠ .value v) : (do pure (Next.value (← s)) : Sem Next).run P w ≠ .ok nx w' := by
  rw [Sem.run_bind]
  cases s.run P w with
  | ok a w1 => intro e; cases e; exact hn _ rfl
  | halt h w1 => intro e; cases e

theorem noEnter_if {s : Sem Bool} {x y : Value} {w w' : World} {nx : Next} (hn : ∀ v, nx ≠ .value v) : (do pure (Next.value (if ← s then x else y)) : Sem Next).run P w ≠ .ok nx w' := by
  rw [Sem.run_bind]
  cases s.run P w with
  | ok a w1 => intro e; cases e; exact hn _ rfl
  | halt h w1 => intro e; cases e

theorem quietOp_noEnter {o : Oper} (h : quietOp o.op = true) {ρ : Operand → Value} {w w' : World} {nx : Next} (hn : ∀ v, nx ≠ .value v) : (execOp ρ o).run P w ≠ .ok nx w' := by
  unfold execOp
  generalize o.op = op at *
  unfold quietOp at h
  split at h
  all_goals first
    | exact noEnter_v hn
    | exact noEnter_if hn
    | (intro e; cases e; exact hn _ rfl)
    | (simp only [resolve, invoke, builtin]; exact noEnter_v hn)
    | (exact absurd h (by simp))

/-- Of the frame at the end, once every operation of the list has been carried out or passed over. -/
theorem wpAnyH_take {n i : Nat} {oi : Oper} {v : Value} {L : Array Bool → Act → World → Prop} {f : Nat} {listed : Array Bool} {a : Act} {w : World} (hi : ops[i]? = some oi)
    (hsel : Region.noSelect ops = true) (hs : Region.sinkB md ops n = true) (hc : Region.chainB md ops n = true) (hn : n < ops.size) (hin : i < n)
    (hdone : ∀ listed a w, L listed a w → ∀ j ∈ Region.ready md ops listed, n ≤ j) (hCw : C w) (inv : HeadInv md ops n listed) (hf : Region.free md ops listed i = true) (hr : (Region.ready md ops listed).contains i = true)
    (hy : YieldsC P ops C oi v a) (h : wpAnyH P md ops C n L f (listed.setIfInBounds i true) (a.put oi.dst v) w) : wpAnyH P md ops C n L (f + 1) listed a w :=
  wpAnyH_first hi (Region.noSelect_spec hsel) hs hc hn hin hdone f listed a w hCw inv (Region.free_spec hi hf) (by simpa using hr) hy h

/-- The operations of a chain, each alone; then the rest. -/
def wpChain (P : Program) (ops : Array Oper) (C : World → Prop) (R : Act → World → Prop) : List Oper → Act → World → Prop
  | [], a, w => R a w
  | o :: l, a, w => wpList P ops (QN fun a' w' => C w' ∧ wpChain P ops C R l a' w') [o] a w

/-- Operations k, k + 1, ..: the first ones only read, and are taken first; the others of the first n come one behind the other. -/
def Region.headB (md : Region.Mode) (ops : Array Oper) (n : Nat) : (f q k : Nat) → Array Bool → Bool
  | 0, _, k, listed => k == n && Region.seqB md ops (ops.size - n) n listed
  | f + 1, 0, k, listed => decide (Region.ready md ops listed = [k]) && decide (k < n) && Region.headB md ops n f 0 (k + 1) (listed.setIfInBounds k true)
  | f + 1, q + 1, k, listed => (Region.ready md ops listed).contains k && Region.free md ops listed k && decide (k < n) && ((ops[k]?).map (fun o => quietOp o.op)).getD false && Region.headB md ops n f q (k + 1) (listed.setIfInBounds k true)

/-- The Bool of the law: m operations that only read, then c of a chain, then those that wait for all. -/
def Region.chainTailB (md : Region.Mode) (ops : Array Oper) (m c : Nat) : Bool :=
  Region.noSelect ops && decide (m + c < ops.size) && Region.sinkB md ops (m + c) && Region.chainB md ops (m + c) && Region.headB md ops (m + c) (m + c) m 0 (Array.replicate ops.size false)

theorem seqB_ge {n g k : Nat} {listed : Array Bool} (h : Region.seqB md ops g k listed = true) (hk : n ≤ k) : ∀ j ∈ Region.ready md ops listed, n ≤ j := by
  intro j hj
  have := seqB_ready h j hj
  omega

theorem wpOp_of_list {k : Nat} {o : Oper} {a : Act} {w : World} {K : Act → World → Prop} (hk : ops[k]? = some o) (h : wpList P ops (QN fun a' w' => C w' ∧ K a' w') [o] a w) : hOp P ops C k K a w := by
  unfold hOp wpOp
  simp only [hk]
  unfold wpList at h
  split
  · rename_i hw
    rw [if_pos hw] at h
    rcases h with h | ⟨_, h2⟩
    · refine .inl (wp_exit (Q := QN fun a' w' => C w' ∧ K a' w') (fun _ _ _ hf => hf) (fun hl => absurd hl letsOut_QN) ?_)
      exact Oper.wp_mono (fun a' w' h' => h') h
    · exact absurd h2 letsOut_QN
  · rename_i hw
    rw [if_neg hw] at h
    exact h

theorem wpAnyH_walk {n : Nat} {Lq : Act → World → Prop} (hsel : Region.noSelect ops = true) (hs : Region.sinkB md ops n = true) (hc : Region.chainB md ops n = true) (hn : n < ops.size) {w : World} (hC : C w) :
    ∀ (q c k : Nat) (listed : Array Bool) (a : Act), HeadInv md ops n listed → k + q + c = n → Region.headB md ops n (q + c) q k listed = true →
    wpQuiet P ops C (fun a' => wpChain P ops C Lq ((ops.toList.drop (k + q)).take c) a' w) ((ops.toList.drop k).take q) a →
    wpAnyH P md ops C n (fun listed' a' w' => Region.seqB md ops (ops.size - n) n listed' = true ∧ Lq a' w') (q + c) listed a w
  | q + 1, c, k, listed, a, inv, hk, hB, h => by
    rw [show q + 1 + c = (q + c) + 1 by omega] at hB
    simp only [Region.headB, Bool.and_eq_true, decide_eq_true_eq] at hB
    obtain ⟨⟨⟨⟨hr, hf⟩, hkn⟩, hq⟩, hB⟩ := hB
    have hks : k < ops.toList.length := by simp; omega
    have h0 : ops[k]? = some (ops.toList[k]'hks) := by simp
    generalize ops.toList[k]'hks = o at h0
    have hd : ops.toList.drop k = o :: ops.toList.drop (k + 1) := by
      rw [List.drop_eq_getElem_cons hks]
      congr 1
      have : ops[k]? = some (ops.toList[k]'hks) := by simp
      exact Option.some.inj (this.symm.trans h0)
    rw [hd, List.take_succ_cons] at h
    have hqo : quietOp o.op = true := by rw [h0] at hq; simpa using hq
    have e1 : k + (q + 1) = k + 1 + q := by omega
    rw [e1] at h
    rw [show q + 1 + c = (q + c) + 1 by omega]
    unfold wpQuiet at h
    split at h
    · rename_i hw
      obtain ⟨v, h1, h2⟩ := h
      have hy : YieldsC P ops C o v a := .inl ⟨hw, fun w1 hC1 => by
        have g := h1 w1 hC1
        unfold Oper.quietAt at g
        generalize hr1 : (execOp a.eval o).run P w1 = r at g ⊢
        cases r with
        | ok nx w2 =>
          cases nx with
          | value u => obtain ⟨e1, e2⟩ := g; rw [e1, e2]
          | _ => exact absurd hr1 (quietOp_noEnter hqo (by intro v; simp))
        | halt x w2 => exact g.elim⟩
      exact wpAnyH_take h0 hsel hs hc hn hkn (fun listed' a' w' hL => seqB_ge hL.1 (Nat.le_refl _)) hC inv hf hr hy
        (wpAnyH_walk hsel hs hc hn hC q c (k + 1) _ _ (inv.set (by simpa using hr) hkn) (by omega) hB h2)
    · rename_i hw
      exact wpAnyH_take h0 hsel hs hc hn hkn (fun listed' a' w' hL => seqB_ge hL.1 (Nat.le_refl _)) hC inv hf hr (.inr ⟨by simpa using hw, rfl⟩)
        (wpAnyH_walk hsel hs hc hn hC q c (k + 1) _ _ (inv.set (by simpa using hr) hkn) (by omega) hB h)
  | 0, c + 1, k, listed, a, inv, hk, hB, h => by
    rw [show 0 + (c + 1) = c + 1 by omega] at hB
    simp only [Region.headB, Bool.and_eq_true, decide_eq_true_eq] at hB
    obtain ⟨⟨hr, hkn⟩, hB⟩ := hB
    have hks : k < ops.toList.length := by simp; omega
    have h0 : ops[k]? = some (ops.toList[k]'hks) := by simp
    have hd : ops.toList.drop k = ops.toList[k]'hks :: ops.toList.drop (k + 1) := List.drop_eq_getElem_cons hks
    generalize ops.toList[k]'hks = o at h0 hd
    rw [List.take_zero] at h
    have h' : wpChain P ops C Lq ((ops.toList.drop k).take (c + 1)) a w := h
    rw [hd, List.take_succ_cons] at h'
    rw [show 0 + (c + 1) = (0 + c) + 1 by omega]
    refine ⟨by rw [hr]; simp, fun i hi => ?_⟩
    rw [hr] at hi
    obtain rfl : i = k := by simpa using hi
    refine ⟨hkn, hOp_mono (fun a' w' hC' h3 => ?_) (wpOp_of_list h0 h')⟩
    exact wpAnyH_walk hsel hs hc hn hC' 0 c (i + 1) _ _ (inv.set (by rw [hr]; simp) hkn) (by omega) (by rw [Nat.zero_add]; exact hB) (by rw [List.take_zero]; exact h3)
  | 0, 0, k, listed, a, inv, hk, hB, h => by
    simp only [Region.headB, Bool.and_eq_true, beq_iff_eq] at hB
    rw [List.take_zero] at h
    exact ⟨hB.2, h⟩

/-- **The law.** m operations that only read, in every world of C; c operations, one behind the other, each leaving a world of C; then the rest, which waits for all. -/
theorem wp_region_chain {id : Nat} {Q : Exit → Act → World → Prop} {a : Act} {w : World} {l : List Oper} (m c : Nat) (C : World → Prop) (hm : P.follows .mixedOrders = true) (hB : Region.chainTailB .any l.toArray m c = true) (hC : C (w.drewN 1))
    (h : wpQuiet P l.toArray C (fun a' => wpChain P l.toArray C (fun a' w' => wpList P l.toArray Q (l.drop (m + c)) a' w') ((l.drop m).take c) a' (w.drewN 1)) (l.take m) a) : (Code.region id l.toArray true).wp P Q a w := by
  simp only [Region.chainTailB, Bool.and_eq_true, decide_eq_true_eq] at hB
  obtain ⟨⟨⟨⟨hsel, hn⟩, hs⟩, hc⟩, hlex⟩ := hB
  have inv0 : HeadInv .any l.toArray (m + c) (Array.replicate l.toArray.size false) :=
    ⟨by simp, fun j oj _ hl => (by rw [getD_replicate_false] at hl; cases hl), fun t _ ht => getD_in (by simpa using ht) (getD_replicate_false _ _)⟩
  have H := wpAnyH_walk (md := .any) (Lq := fun a' w' => wpList P l.toArray Q (l.drop (m + c)) a' w') hsel hs hc hn hC m c 0 _ a inv0 (by omega) hlex (by simpa using h)
  refine wp_region_any hm ?_
  have hdl : (l.drop (m + c)).length = l.toArray.size - (m + c) := by simp
  have := wpAny_of_headH (Q' := Q) (g := l.toArray.size - (m + c)) (fun listed a' w' hL => by
    have := wpAny_of_seq (md := .any) (Q' := Q) (l.drop (m + c)) (m + c) listed a' w' (fun j => by simp [List.getElem?_drop]) (by rw [hdl]; exact hL.1) hL.2
    rwa [hdl] at this) _ _ _ _ H
  rw [show m + c + (l.toArray.size - (m + c)) = l.toArray.size by omega] at this
  exact this

end

theorem below_drewN {B : Nat} {a w : World} (h : Below B a w) (n : Nat) : Below B a (w.drewN n) := ⟨h.os, h.tape, h.output, h.size, h.block⟩
theorem qn_mk {K : Act → World → Prop} {a : Act} {w : World} (h : K a w) : QN K .normal a w := h

/-- The worlds that have grown out of w. -/
def Grew (w : World) : Type := { W : World // Below w.heap.size w W }
theorem Grew.cell {w : World} (x : Grew w) (b o : Nat) (h : b < w.heap.size) : x.1.cell? ⟨b, o, none⟩ = w.cell? ⟨b, o, none⟩ := x.2.cell (p := ⟨b, o, none⟩) h
theorem Grew.cellN {w : World} {n : Nat} (x : Grew (w.drewN n)) (b o : Nat) (h : b < w.heap.size) : x.1.cell? ⟨b, o, none⟩ = w.cell? ⟨b, o, none⟩ := x.2.cell (p := ⟨b, o, none⟩) h
instance (w : World) : Nonempty (Grew w) := ⟨⟨w, Below.refl _ _⟩⟩
/-- The class of these worlds. -/
def InGrew (w : World) : World → Prop := fun W => ∃ x : Grew w, W = x.1
theorem InGrew.of {w W : World} (h : Below w.heap.size w W) : InGrew w W := ⟨⟨W, h⟩, rfl⟩

theorem InGrew.alloc1 (w : World) (n : Nat) (o : Obj) : InGrew (w.drewN n) ((w.drewN (n + 1)).alloc o) :=
  .of ⟨rfl, rfl, rfl, by simp, fun k hk => Below.heap_alloc (w.drewN (n + 1)) o k hk⟩

/-- The law at the worlds that have grown out of w. -/
theorem wp_region_grew {P : Program} {id : Nat} {Q : Exit → Act → World → Prop} {a : Act} {w : World} {l : List Oper} (m c : Nat) (hm : P.follows .mixedOrders = true) (hB : Region.chainTailB .any l.toArray m c = true)
    (h : wpQuiet P l.toArray (fun W => ∃ x : Grew w, W = x.1) (fun a' => wpChain P l.toArray (InGrew w) (fun a' w' => wpList P l.toArray Q (l.drop (m + c)) a' w') ((l.drop m).take c) a' (w.drewN 1)) (l.take m) a) : (Code.region id l.toArray true).wp P Q a w :=
  wp_region_chain m c (InGrew w) hm hB (.of ⟨rfl, rfl, rfl, Nat.le_refl _, fun _ _ => rfl⟩) h

/-- A region that draws its order, whose first n operations only read, and whose others have one order: the reading is walked in the order of the text. -/
theorem wpStill_of_quiet {P : Program} {ops : Array Oper} {w : World} {Q : Act → Prop} : ∀ (l : List Oper) (a : Act), wpQuiet P ops (fun w' => w' = w) Q l a → wpStill P ops w Q l a
  | [], _, h => h
  | o :: l, a, h => by
    unfold wpQuiet at h
    unfold wpStill
    split
    · rename_i hw
      rw [if_pos hw] at h
      obtain ⟨v, h1, h2⟩ := h
      have h3 := h1 w rfl
      have h4 := wpStill_of_quiet l _ h2
      unfold Oper.quietAt at h3
      unfold Oper.still
      generalize (execOp a.eval o).run P w = r at *
      cases r with
      | ok n w' =>
        cases n <;> simp only [Oper.quietUpon] at h3 <;> simp only [Oper.stillUpon]
        case value u => obtain ⟨e1, e2⟩ := h3; subst e2; exact ⟨e1, h4⟩
        case skip => obtain ⟨e1, e2⟩ := h3; subst e2; exact ⟨e1, h4⟩
        case enter f args => obtain ⟨e1, hc⟩ := h3; exact ⟨e1, v, hc, h4⟩
      | halt x w' => simp only [Oper.quietUpon] at h3
    · rename_i hw
      rw [if_neg hw] at h
      exact wpStill_of_quiet l _ h

theorem wp_region_quiet_tail {P : Program} {id : Nat} {Q : Exit → Act → World → Prop} {a : Act} {w : World} {l : List Oper} (n : Nat) (hm : P.follows .mixedOrders = true) (hB : Region.lexTailB .any l.toArray n = true)
    (h : wpQuiet P l.toArray (fun w' => w' = w.drewN 1) (fun a' => wpList P l.toArray Q (l.drop n) a' (w.drewN 1)) (l.take n) a) : (Code.region id l.toArray true).wp P Q a w :=
  wp_region_still_tail n hm hB (wpStill_of_quiet _ _ h)

end Go.Proofs.YtjaejnacdanpkaaDoor

namespace Go.Proofs.YtjaejnacdanpkaaDoor
open Go.RowKit

section
variable {P : Program} {ops : Array Oper} {md : Region.Mode} {C : World → Prop}

/-- Operations taken by a schedule: (true, i): operation i only reads, in every world of C; (false, i): it is the only one that can come, and leaves a world of C. -/
def wpSteps (P : Program) (ops : Array Oper) (C : World → Prop) (R : Act → World → Prop) (l : List Oper) : List (Bool × Nat) → Act → World → Prop
  | [], a, w => R a w
  | (true, i) :: s, a, w => match l[i]? with
    | some o => wpQuiet P ops C (fun a' => wpSteps P ops C R l s a' w) [o] a
    | none => False
  | (false, i) :: s, a, w => match l[i]? with
    | some o => wpList P ops (QN fun a' w' => C w' ∧ wpSteps P ops C R l s a' w') [o] a w
    | none => False

def Region.schedB (md : Region.Mode) (ops : Array Oper) (n : Nat) : List (Bool × Nat) → Array Bool → Bool
  | [], listed => Region.seqB md ops (ops.size - n) n listed
  | (false, c) :: s, listed => decide (Region.ready md ops listed = [c]) && decide (c < n) && Region.schedB md ops n s (listed.setIfInBounds c true)
  | (true, q) :: s, listed => (Region.ready md ops listed).contains q && Region.free md ops listed q && decide (q < n) && ((ops[q]?).map (fun o => quietOp o.op)).getD false && Region.schedB md ops n s (listed.setIfInBounds q true)

/-- The Bool of the law. -/
def Region.schedTailB (md : Region.Mode) (ops : Array Oper) (n : Nat) (s : List (Bool × Nat)) : Bool :=
  Region.noSelect ops && decide (n < ops.size) && Region.sinkB md ops n && Region.chainB md ops n && decide (s.length = n) && Region.schedB md ops n s (Array.replicate ops.size false)

theorem wpAnyH_sched {n : Nat} {Lq : Act → World → Prop} (hsel : Region.noSelect ops = true) (hs : Region.sinkB md ops n = true) (hc : Region.chainB md ops n = true) (hn : n < ops.size) :
    ∀ (s : List (Bool × Nat)) (listed : Array Bool) (a : Act) (w : World), C w → HeadInv md ops n listed → Region.schedB md ops n s listed = true → wpSteps P ops C Lq ops.toList s a w →
    wpAnyH P md ops C n (fun listed' a' w' => Region.seqB md ops (ops.size - n) n listed' = true ∧ Lq a' w') s.length listed a w
  | (true, k) :: s, listed, a, w, hC, inv, hB, h => by
    simp only [Region.schedB, Bool.and_eq_true, decide_eq_true_eq] at hB
    obtain ⟨⟨⟨⟨hr, hf⟩, hkn⟩, hq⟩, hB⟩ := hB
    have hks : k < ops.size := by omega
    obtain ⟨o, h0⟩ : ∃ o, ops[k]? = some o := ⟨ops[k], by simp [hks]⟩
    have h0' : ops.toList[k]? = some o := by simpa using h0
    simp only [wpSteps, h0'] at h
    have hqo : quietOp o.op = true := by rw [h0] at hq; simpa using hq
    rw [List.length_cons]
    unfold wpQuiet at h
    split at h
    · rename_i hw
      obtain ⟨v, h1, h2⟩ := h
      have hy : YieldsC P ops C o v a := .inl ⟨hw, fun w1 hC1 => by
        have g := h1 w1 hC1
        unfold Oper.quietAt at g
        generalize hr1 : (execOp a.eval o).run P w1 = r at g ⊢
        cases r with
        | ok nx w2 =>
          cases nx with
          | value u => obtain ⟨e1, e2⟩ := g; rw [e1, e2]
          | _ => exact absurd hr1 (quietOp_noEnter hqo (by intro v; simp))
        | halt x w2 => exact g.elim⟩
      exact wpAnyH_take h0 hsel hs hc hn hkn (fun listed' a' w' hL => seqB_ge hL.1 (Nat.le_refl _)) hC inv hf hr hy
        (wpAnyH_sched hsel hs hc hn s _ _ w hC (inv.set (by simpa using hr) hkn) hB h2)
    · rename_i hw
      exact wpAnyH_take h0 hsel hs hc hn hkn (fun listed' a' w' hL => seqB_ge hL.1 (Nat.le_refl _)) hC inv hf hr (.inr ⟨by simpa using hw, rfl⟩)
        (wpAnyH_sched hsel hs hc hn s _ _ w hC (inv.set (by simpa using hr) hkn) hB h)
  | (false, k) :: s, listed, a, w, hC, inv, hB, h => by
    simp only [Region.schedB, Bool.and_eq_true, decide_eq_true_eq] at hB
    obtain ⟨⟨hr, hkn⟩, hB⟩ := hB
    have hks : k < ops.size := by omega
    obtain ⟨o, h0⟩ : ∃ o, ops[k]? = some o := ⟨ops[k], by simp [hks]⟩
    have h0' : ops.toList[k]? = some o := by simpa using h0
    simp only [wpSteps, h0'] at h
    rw [List.length_cons]
    refine ⟨by rw [hr]; simp, fun i hi => ?_⟩
    rw [hr] at hi
    obtain rfl : i = k := by simpa using hi
    refine ⟨hkn, hOp_mono (fun a' w' hC' h3 => ?_) (wpOp_of_list h0 h)⟩
    exact wpAnyH_sched hsel hs hc hn s _ _ w' hC' (inv.set (by rw [hr]; simp) hkn) hB h3
  | [], listed, a, w, hC, inv, hB, h => by
    simp only [Region.schedB] at hB
    exact ⟨hB, h⟩

/-- **The law.** -/
theorem wp_region_sched {id : Nat} {Q : Exit → Act → World → Prop} {a : Act} {w : World} {l : List Oper} (n : Nat) (s : List (Bool × Nat)) (C : World → Prop) (hm : P.follows .mixedOrders = true) (hB : Region.schedTailB .any l.toArray n s = true) (hC : C (w.drewN 1))
    (h : wpSteps P l.toArray C (fun a' w' => wpList P l.toArray Q (l.drop n) a' w') l s a (w.drewN 1)) : (Code.region id l.toArray true).wp P Q a w := by
  simp only [Region.schedTailB, Bool.and_eq_true, decide_eq_true_eq] at hB
  obtain ⟨⟨⟨⟨⟨hsel, hn⟩, hs⟩, hc⟩, hqn⟩, hlex⟩ := hB
  have inv0 : HeadInv .any l.toArray n (Array.replicate l.toArray.size false) :=
    ⟨by simp, fun j oj _ hl => (by rw [getD_replicate_false] at hl; cases hl), fun t _ ht => getD_in (by simpa using ht) (getD_replicate_false _ _)⟩
  have H := wpAnyH_sched (md := .any) (Lq := fun a' w' => wpList P l.toArray Q (l.drop n) a' w') hsel hs hc hn s _ a _ hC inv0 hlex (by simpa using h)
  refine wp_region_any hm ?_
  have hdl : (l.drop n).length = l.toArray.size - n := by simp
  have := wpAny_of_headH (Q' := Q) (g := l.toArray.size - n) (fun listed a' w' hL => by
    have := wpAny_of_seq (md := .any) (Q' := Q) (l.drop n) n listed a' w' (fun j => by simp [List.getElem?_drop]) (by rw [hdl]; exact hL.1) hL.2
    rwa [hdl] at this) _ _ _ _ H
  rw [hqn, show n + (l.toArray.size - n) = l.toArray.size by omega] at this
  exact this

end

/-- The worlds of which φ holds. -/
def Held (φ : World → Prop) : Type := { W : World // φ W }
/-- The class of these worlds. -/
def InHeld (φ : World → Prop) : World → Prop := fun W => ∃ x : Held φ, W = x.1
theorem InHeld.of {φ : World → Prop} {W : World} (h : φ W) : InHeld φ W := ⟨⟨W, h⟩, rfl⟩

/-- The law at the worlds of which φ holds. -/
theorem wp_region_held {P : Program} {id : Nat} {Q : Exit → Act → World → Prop} {a : Act} {w : World} {l : List Oper} (n : Nat) (s : List (Bool × Nat)) (φ : World → Prop) (hm : P.follows .mixedOrders = true) (hB : Region.schedTailB .any l.toArray n s = true) (hφ : φ (w.drewN 1))
    (h : Nonempty (Held φ) → wpSteps P l.toArray (fun W => ∃ x : Held φ, W = x.1) (fun a' w' => wpList P l.toArray Q (l.drop n) a' w') l s a (w.drewN 1)) : (Code.region id l.toArray true).wp P Q a w :=
  wp_region_sched n s (InHeld φ) hm hB (.of hφ) (h ⟨⟨_, hφ⟩⟩)

/-- The law at the worlds that have grown out of w. -/
theorem wp_region_grewS {P : Program} {id : Nat} {Q : Exit → Act → World → Prop} {a : Act} {w : World} {l : List Oper} (n : Nat) (s : List (Bool × Nat)) (hm : P.follows .mixedOrders = true) (hB : Region.schedTailB .any l.toArray n s = true)
    (h : wpSteps P l.toArray (fun W => ∃ x : Grew w, W = x.1) (fun a' w' => wpList P l.toArray Q (l.drop n) a' w') l s a (w.drewN 1)) : (Code.region id l.toArray true).wp P Q a w :=
  wp_region_sched n s (InGrew w) hm hB (.of ⟨rfl, rfl, rfl, Nat.le_refl _, fun _ _ => rfl⟩) h

/-- A run of steps that only read. -/
theorem wpSteps_quiet {P : Program} {ops : Array Oper} {C : World → Prop} {R : Act → World → Prop} {l : List Oper} {i : Nat} {s : List (Bool × Nat)} {a : Act} {w : World} {o : Oper} (ho : l[i]? = some o)
    (h : wpQuiet P ops C (fun a' => wpSteps P ops C R l s a' w) [o] a) : wpSteps P ops C R l ((true, i) :: s) a w := by
  simp only [wpSteps, ho]; exact h
theorem wpSteps_one {P : Program} {ops : Array Oper} {C : World → Prop} {R : Act → World → Prop} {l : List Oper} {i : Nat} {s : List (Bool × Nat)} {a : Act} {w : World} {o : Oper} (ho : l[i]? = some o)
    (h : wpList P ops (QN fun a' w' => C w' ∧ wpSteps P ops C R l s a' w') [o] a w) : wpSteps P ops C R l ((false, i) :: s) a w := by
  simp only [wpSteps, ho]; exact h
theorem wpSteps_done {P : Program} {ops : Array Oper} {C : World → Prop} {R : Act → World → Prop} {l : List Oper} {a : Act} {w : World} (h : R a w) : wpSteps P ops C R l [] a w := h

end Go.Proofs.YtjaejnacdanpkaaDoor

namespace Go.Proofs.YtjaejnacdanpkaaDoor
open Go.RowKit

theorem wp_region_quietG {P : Program} {id : Nat} {Q : Exit → Act → World → Prop} {a : Act} {w : World} {l : List Oper} (hm : P.follows .mixedOrders = true) (hB : Region.lexB .any l.toArray = true)
    (h : wpQuiet P l.toArray (fun W => ∃ x : Grew w, W = x.1) (fun a' => ∀ w', (∃ x : Grew w, w' = x.1) → Q .normal a' w') l a) : (Code.region id l.toArray true).wp P Q a w :=
  wp_region_quiet (C := fun W => ∃ x : Grew w, W = x.1) hm hB ⟨⟨w.drewN 1, (below_drewN (Below.refl _ _) 1)⟩, rfl⟩ (by simpa using h)

theorem grew_below {w w' : World} (h : ∃ x : Grew w, w' = x.1) : Below w.heap.size w w' := by
  obtain ⟨x, rfl⟩ := h
  exact x.2

/-- A callee that makes memory, in a world that has grown. -/
theorem Calls.grew_of {P : Program} {f : FuncId} {args : Array Value} {w : World} {x : Grew w} {v : Value}
    (h : Calls P f args x.1 fun e w' => e = .returned v ∧ Below x.1.heap.size x.1 w') : Calls P f args x.1 fun e w'' => e = .returned v ∧ ∃ y : Grew w, w'' = y.1 :=
  h.mono fun _ w' ⟨he, hb⟩ => ⟨he, ⟨w', x.2.trans (hb.mono x.2.size)⟩, rfl⟩

/-- A run of quiet steps at once. -/
theorem wpSteps_run {P : Program} {ops : Array Oper} {C : World → Prop} {R : Act → World → Prop} {l : List Oper} {w : World} {s : List (Bool × Nat)} : ∀ (is : List Nat) (a : Act), (∀ i ∈ is, i < l.length) →
    wpQuiet P ops C (fun a' => wpSteps P ops C R l s a' w) (is.filterMap (fun i => l[i]?)) a → wpSteps P ops C R l (is.map (fun i => (true, i)) ++ s) a w
  | [], _, _, h => h
  | i :: is, a, hl, h => by
    have hi : i < l.length := hl i (List.mem_cons_self ..)
    have ho : l[i]? = some l[i] := List.getElem?_eq_getElem hi
    have ih := fun a => wpSteps_run (P := P) (ops := ops) (C := C) (R := R) (w := w) (s := s) is a (fun j hj => hl j (List.mem_cons_of_mem _ hj))
    rw [List.filterMap_cons, ho] at h
    refine wpSteps_quiet ho ?_
    show wpQuiet P ops C _ [l[i]] a
    unfold wpQuiet at h ⊢
    split
    · rename_i hw
      rw [if_pos hw] at h
      exact Oper.quiet_mono (fun a' h' => ih a' h') h
    · rename_i hw
      rw [if_neg hw] at h
      exact ih _ h

theorem filterMap_range_take {α : Type} (l : List α) : ∀ n, n ≤ l.length → (List.range n).filterMap (fun i => l[i]?) = l.take n
  | 0, _ => by simp
  | n + 1, h => by
    rw [List.range_succ, List.filterMap_append, filterMap_range_take l n (by omega), List.take_succ_eq_append_getElem (show n < l.length by omega)]
    simp [List.getElem?_eq_getElem (show n < l.length by omega)]

/-- The first n operations, all quiet, at once. -/
theorem wpSteps_pre {P : Program} {ops : Array Oper} {C : World → Prop} {R : Act → World → Prop} {l : List Oper} {w : World} {s : List (Bool × Nat)} (n : Nat) (hn : n ≤ l.length) {a : Act}
    (h : wpQuiet P ops C (fun a' => wpSteps P ops C R l s a' w) (l.take n) a) : wpSteps P ops C R l ((List.range n).map (fun i => (true, i)) ++ s) a w :=
  wpSteps_run (List.range n) a (fun i hi => by have := List.mem_range.1 hi; omega) (by rw [filterMap_range_take l n hn]; exact h)

end Go.Proofs.YtjaejnacdanpkaaDoor

namespace Go.Proofs.YtjaejnacdanpkaaDoor
open Go.RowKit

/-- Only objects of the kind A are turned, and nothing below n0. -/
def TurnT (A : Nat → Obj → Prop) (n0 : Nat) (W W' : World) : Prop := Below n0 W W' ∧ ∀ (b : Nat) (o : Obj), W.heap[b]? = some o → ¬ A b o → W'.heap[b]? = some o

theorem TurnT.refl (A : Nat → Obj → Prop) (n0 : Nat) (W : World) : TurnT A n0 W W := ⟨Below.refl _ _, fun _ _ h _ => h⟩
theorem TurnT.trans {A : Nat → Obj → Prop} {n0 : Nat} {W W1 W2 : World} (h : TurnT A n0 W W1) (k : TurnT A n0 W1 W2) : TurnT A n0 W W2 :=
  ⟨h.1.trans k.1, fun b o hb ha => k.2 b o (h.2 b o hb ha) ha⟩
theorem TurnT.mono {A A' : Nat → Obj → Prop} {n0 : Nat} {W W1 : World} (h : TurnT A n0 W W1) (hA : ∀ b o, A b o → A' b o) : TurnT A' n0 W W1 :=
  ⟨h.1, fun b o hb ha => h.2 b o hb (fun h => ha (hA b o h))⟩
theorem TurnT.putObj {A : Nat → Obj → Prop} {n0 : Nat} {W : World} {l : Nat} {o : Obj} (o' : Obj) (h : W.heap[l]? = some o) (ha : A l o) (hn : n0 ≤ l) : TurnT A n0 W (W.putObj l o') := by
  have hlt : l < W.heap.size := (Array.getElem?_eq_some_iff.1 h).1
  refine ⟨(Below.refl n0 W).grown (grownBy_putObj' W l o') (by omega) (fun k e => by cases e; omega), fun b o2 hb ha2 => ?_⟩
  by_cases e : b = l
  · subst e; rw [h] at hb; cases hb; exact absurd ha ha2
  · exact (World.putObj_heap_other e).trans hb
theorem TurnT.alloc {A : Nat → Obj → Prop} {n0 : Nat} {W W1 : World} (h : TurnT A n0 W W1) (hn : n0 ≤ W.heap.size) (o : Obj) : TurnT A n0 W (W1.alloc o) :=
  ⟨h.1.alloc (Nat.le_trans hn h.1.size) o, fun b o2 hb ha => (Below.heap_alloc W1 o b (Array.getElem?_eq_some_iff.1 (h.2 b o2 hb ha)).1).trans (h.2 b o2 hb ha)⟩
theorem TurnT.drewN {A : Nat → Obj → Prop} {n0 : Nat} {W W1 : World} (h : TurnT A n0 W W1) (m : Nat) : TurnT A n0 W (W1.drewN m) := ⟨below_drewN h.1 m, h.2⟩
theorem TurnT.setCell {A : Nat → Obj → Prop} {n0 : Nat} {W W1 : World} (h : TurnT A n0 W W1) {p : Addr} {o : Obj} (hp : W1.heap[p.block]? = some o) (ha : A p.block o) (hn : n0 ≤ p.block) (v : Value) : TurnT A n0 W (W1.setCell p v) := by
  refine h.trans ⟨(Below.refl _ _).setCell hn v, fun b o2 hb ha2 => ?_⟩
  by_cases e : b = p.block
  · subst e; rw [hp] at hb; cases hb; exact absurd ha ha2
  · exact (Below.heap_setCell _ _ _ _ e).trans hb
theorem TurnT.grown {A : Nat → Obj → Prop} {n0 : Nat} {W W1 W2 : World} {S : Nat → Prop} (h : TurnT A n0 W W1) (hn : n0 ≤ W.heap.size) (hg : Turns S W1 W2) (hS : ∀ b, S b → n0 ≤ b ∧ ∀ o, W1.heap[b]? = some o → A b o) : TurnT A n0 W W2 := by
  refine h.trans ⟨hg.below (Nat.le_trans hn h.1.size) (fun b hb => (hS b hb).1), fun b o hb ha => ?_⟩
  rw [hg.block b (fun hs => ha ((hS b hs).2 o hb)) (Array.getElem?_eq_some_iff.1 hb).1]
  exact hb

/-- The loop's own book. -/
def book : Obj → Prop
  | .loop _ => True
  | .deferred _ => True
  | _ => False
/-- The book of a loop that begins where nB blocks lie. -/
def isBook (nB : Nat) : Nat → Obj → Prop := fun b o => nB ≤ b ∧ book o
/-- Cells of the types of T. -/
def ofT (T : List TypeId) : Obj → Prop
  | .cells _ t _ => t ∈ T
  | _ => False
def cellsOf (T : List TypeId) : Nat → Obj → Prop := fun _ o => ofT T o
theorem cellsOf_book {T : List TypeId} (b : Nat) (o : Obj) (h : cellsOf T b o) : ¬ book o := by cases o <;> simp_all [cellsOf, ofT, book]

theorem TurnT.cell {A : Nat → Obj → Prop} {n0 : Nat} {W W1 : World} (h : TurnT A n0 W W1) {p : Addr} {v : Value} {c : Array Value} {t : TypeId} {fr : Nat × Nat} (hp : W.heap[p.block]? = some (.cells c t fr)) (ha : ¬ A p.block (.cells c t fr)) (hc : W.cell? p = some v) : W1.cell? p = some v := by
  rw [World.cell?_of_block (w := W) (by rw [h.2 _ _ hp ha, hp])]; exact hc

/-- What an iterator promises: it hands the x's of some xs to yield, one behind the other; J is what holds between two rounds. -/
def IterG {α : Type} (P : Program) (n n0 nB gf : Nat) (lb : Array Value) (encs : α → Array Value) (G : List α → α → World → Prop) (bA iA : Nat → Obj → Prop) (S : List α → World → Prop) (w : World) : Prop :=
  ∀ (l : Nat) (J : List α → World → Prop) (W : World), Below w.heap.size w W → (∀ pre A B, J pre A → TurnT iA n0 A B → J pre B) →
    (∀ pre x W1, J pre W1 → G pre x W1 → YieldAt Fence.wide (n - 1) P l (encs x) W1 fun e W' => e = .returned (.bool true) ∧ J (pre ++ [x]) W' ∧ TurnT (fun b o => bA b o ∨ isBook nB b o) n0 W1 W') →
    J [] W → CallsIn Fence.wide n P gf (#[.func (.yield l) #[] #[]] ++ lb) W fun e W' => (∃ v, e = .returned v) ∧ ∃ xs, S xs W' ∧ J xs W'

/-- **The law of the statement.** The body goes on in every round. -/
theorem wpIn_range {P : Program} {α : Type} {n n0 : Nat} {g : Operand} {ps : Array Tmp} {assign body : Code} {Q : Exit → Act → World → Prop} {a : Act} {w : World}
    {gf : Nat} {lb : Array Value} (hg : a.eval g = .func (.func gf) #[] lb) (eg : ∀ args w, (callFunc gf args).run P w = .ok (.enter gf args) w)
    {encs : α → Array Value} (hps : ∀ x, (encs x).size = ps.size) {G : List α → α → World → Prop} {bA iA : Nat → Obj → Prop} {S : List α → World → Prop} (hseq : IterG P (n - 1) n0 w.heap.size gf lb encs G bA iA S w)
    (hn0 : n0 ≤ w.heap.size) (hiA : ∀ b o, iA b o → ¬ book o) (hbA : ∀ b o, bA b o → ¬ book o)
    (I : List α → World → Prop) (hI : ∀ pre A B, I pre A → TurnT (fun b o => iA b o ∨ isBook w.heap.size b o) n0 A B → I pre B) (hS : ∀ xs A B, S xs A → TurnT (isBook w.heap.size) n0 A B → S xs B) (h0 : I [] w)
    (hround : ∀ l pre x W, w.heap.size ≤ W.heap.size → I pre W → G pre x W → assign.wpIn (Fence.wide.inRound l) (n - 1 - 1) P (Exit.then (fun a₁ W1 => TurnT bA n0 W W1 ∧ ∀ W2, TurnT (isBook w.heap.size) n0 W1 W2 → W2.heap.size = W1.heap.size →
        body.wpIn (Fence.wide.inRound l) (n - 1 - 1) P (QN fun _ W3 => TurnT bA n0 W2 W3 ∧ I (pre ++ [x]) W3) a₁ W2) (fun _ _ _ => False))
      { tmps := (ps.zip (encs x)).foldl (fun t (p, v) => t.setIfInBounds p v) a.tmps, defers := [] } W)
    (hdone : ∀ D xs W, w.heap.size ≤ D → S xs W → I xs W → W.heap[D]? = some (.deferred (some [])) → Q .normal { a with defers := { target := .collected D, args := #[] } :: a.defers } W) :
    (Code.rangeFunc g ps assign body).wpIn Fence.wide n P Q a w := by
  refine wpIn_rangeFunc ?_
  intro fn hfn
  obtain ⟨rec, hrec⟩ : ∃ rec : LoopState → Option Code → Loop, rec = fun st pe => { state := st, pending := pe, fn, tmps := a.tmps, params := ps, assign, body, defers := w.heap.size } := ⟨_, rfl⟩
  obtain ⟨W1, hW1⟩ : ∃ W1, (w.alloc (.deferred (some []))).alloc (.loop (rec .ready none)) = W1 := ⟨_, rfl⟩
  have hL1 : W1.heap[w.heap.size + 1]? = some (.loop (rec .ready none)) := by
    rw [← hW1]; have := World.alloc_heap_new (w.alloc (.deferred (some []))) (.loop (rec .ready none)); rwa [World.size_alloc] at this
  have hK1 : W1.heap[w.heap.size]? = some (.deferred (some [])) := by
    rw [← hW1]; exact (Below.heap_alloc _ _ _ (by simp)).trans (World.alloc_heap_new w _)
  have hb1 : Below w.heap.size w W1 := by rw [← hW1]; exact ((Below.refl _ w).alloc (Nat.le_refl _) _).alloc (by simp) _
  have hI1 : I [] W1 := hI _ _ _ h0 (by rw [← hW1]; exact ((TurnT.refl _ n0 w).alloc hn0 _).alloc hn0 _)
  refine ⟨w.heap.size + 1, [{ target := .collected w.heap.size, args := #[] }], W1, { target := .fn (.func gf) lb, args := #[.func (.yield (w.heap.size + 1)) #[] #[]] }, W1, gf,
    #[.func (.yield (w.heap.size + 1)) #[] #[]] ++ lb, W1, ?_, ?_, fun _ _ => trivial, ?_, fun h => by simp [Fence.wide] at h, ?_⟩
  · rw [← hW1, hrec]; exact run_enterLoop_outer _ _ _ _ _
  · simp only [resolve, hg]
    simp [go_sem]
  · simp [invoke, go_sem, eg]
  · have keepL : ∀ {A : Nat → Obj → Prop} {X Y : World} {st : LoopState} {pe : Option Code}, (∀ b o, A b o → ¬ book o) → TurnT A n0 X Y → X.heap[w.heap.size + 1]? = some (.loop (rec st pe)) → Y.heap[w.heap.size + 1]? = some (.loop (rec st pe)) :=
      fun hA ht hl => ht.2 _ _ hl (fun h => hA _ _ h trivial)
    have keepD : ∀ {A : Nat → Obj → Prop} {X Y : World}, (∀ b o, A b o → ¬ book o) → TurnT A n0 X Y → X.heap[w.heap.size]? = some (.deferred (some [])) → Y.heap[w.heap.size]? = some (.deferred (some [])) :=
      fun hA ht hl => ht.2 _ _ hl (fun h => hA _ _ h trivial)
    refine (hseq (w.heap.size + 1) (fun pre W => I pre W ∧ W.heap[w.heap.size + 1]? = some (.loop (rec .ready none)) ∧ W.heap[w.heap.size]? = some (.deferred (some []))) W1 hb1
      (fun pre A B hj ht => ⟨hI _ _ _ hj.1 (ht.mono fun b o h => .inl h), keepL hiA ht hj.2.1, keepD hiA ht hj.2.2⟩) ?_ ⟨hI1, hL1, hK1⟩).mono ?_
    · rintro pre x W ⟨hi, hl, hk⟩ hG
      have hlt : w.heap.size + 1 < W.heap.size := (Array.getElem?_eq_some_iff.1 hl).1
      have hy := run_yield (P := P) (args := encs x) hl (by rw [hrec]; exact hps x)
      rw [hrec] at hy
      refine ⟨fn, _, assign, body, hy, roundIn_of_wpIn hfn (wpIn_mono (hround _ pre x W (by omega) hi hG) ?_)⟩
      rintro e a1 W2 hp
      cases e with
      | normal =>
        obtain ⟨ht1, hbody⟩ := hp
        have hl2 := keepL hbA ht1 hl
        have hk2 := keepD hbA ht1 hk
        have hlt2 : w.heap.size + 1 < W2.heap.size := (Array.getElem?_eq_some_iff.1 hl2).1
        have hput : TurnT (isBook w.heap.size) n0 W2 (W2.putObj (w.heap.size + 1) (.loop (rec .busy none))) := TurnT.putObj _ hl2 ⟨by omega, trivial⟩ (by omega)
        have hbr : (Instr.beginRound (w.heap.size + 1)).run P W2 = .ok () (W2.putObj (w.heap.size + 1) (.loop (rec .busy none))) := by
          have := run_beginRound (P := P) hl2 (by rw [hrec]); rw [hrec] at this ⊢; exact this
        have hl3 : (W2.putObj (w.heap.size + 1) (.loop (rec .busy none))).heap[w.heap.size + 1]? = some (.loop (rec .busy none)) := World.putObj_heap_same hlt2
        have hk3 : (W2.putObj (w.heap.size + 1) (.loop (rec .busy none))).heap[w.heap.size]? = some (.deferred (some [])) := (World.putObj_heap_other (by omega)).trans hk2
        refine ⟨_, hbr, wpIn_mono (hbody _ hput (by simp)) ?_⟩
        rintro e a3 W3 hq
        cases e with
        | normal =>
          obtain ⟨ht3, hi3⟩ := hq
          have hl4 := keepL hbA ht3 hl3
          have hk4 := keepD hbA ht3 hk3
          have hlt4 : w.heap.size + 1 < W3.heap.size := (Array.getElem?_eq_some_iff.1 hl4).1
          have hend : (Instr.endRound (w.heap.size + 1) none).run P W3 = .ok (.bool true) (W3.putObj (w.heap.size + 1) (.loop (rec .ready none))) := by
            have := run_endRound (P := P) none hl4; rw [hrec] at this ⊢; exact this
          have hput2 : TurnT (isBook w.heap.size) n0 W3 (W3.putObj (w.heap.size + 1) (.loop (rec .ready none))) := TurnT.putObj _ hl4 ⟨by omega, trivial⟩ (by omega)
          exact ⟨_, _, hend, rfl, ⟨hI _ _ _ hi3 (hput2.mono fun b o h => .inr h), World.putObj_heap_same hlt4, (World.putObj_heap_other (by omega)).trans hk4⟩,
            (((ht1.mono fun b o h => .inl h).trans (hput.mono fun b o h => .inr h)).trans (ht3.mono fun b o h => .inl h)).trans (hput2.mono fun b o h => .inr h)⟩
        | _ => exact hq.elim
      | _ => exact hp.elim
    · rintro e W2 ⟨⟨v, rfl⟩, xs, hSx, hi, hl, hk⟩
      have hlt : w.heap.size + 1 < W2.heap.size := (Array.getElem?_eq_some_iff.1 hl).1
      have hend := run_endLoop (P := P) hl (by rw [hrec]; simp)
      have hput : ∀ o', TurnT (isBook w.heap.size) n0 W2 (W2.putObj (w.heap.size + 1) o') := fun o' => TurnT.putObj o' hl ⟨by omega, trivial⟩ (by omega)
      refine ⟨none, _, by rw [hrec] at hend; exact hend, ?_⟩
      exact hdone _ xs _ (Nat.le_refl _) (hS _ _ _ hSx (hput _)) (hI _ _ _ hi ((hput _).mono fun b o h => .inr h)) ((World.putObj_heap_other (by omega)).trans hk)

end Go.Proofs.YtjaejnacdanpkaaDoor

namespace Go.Proofs.YtjaejnacdanpkaaDoor
open Go.RowKit

attribute [local go_sem] Oper.semAt_some

theorem room_none {F : Fence} (hd : F.depth = none) (k : Nat) : F.room k := fun d h => by rw [hd] at h; cases h
theorem RoundIn.anyDepth {F : Fence} (hd : F.depth = none) {m m' : Nat} {P : Program} {l : Nat} {f : FuncId} {tmps : Array Value} {assign body : Code} {w : World} {R : Ending → World → Prop}
    (h : RoundIn F m P l f tmps assign body w R) : RoundIn F m' P l f tmps assign body w R := ⟨h.1, fun c cs _ => h.2 c cs (room_none hd _)⟩
theorem YieldAt.anyDepth {F : Fence} (hd : F.depth = none) {m : Nat} (m' : Nat) {P : Program} {l : Nat} {args : Array Value} {W : World} {R : Ending → World → Prop} (h : YieldAt F m P l args W R) : YieldAt F m' P l args W R := by
  obtain ⟨fn, tmps, assign, body, hy, hR⟩ := h
  exact ⟨fn, tmps, assign, body, hy, RoundIn.anyDepth hd hR⟩

/-- A box of one cell. -/
theorem one_cell {W : World} {B : Nat} {t : TypeId} {v : Value} (h : W.heap[B]? = some (.cells #[v] t (0, 0))) : W.cell? ⟨B, 0, none⟩ = some v ∧ W.frozen? ⟨B, 0, none⟩ = false := by
  constructor <;> simp [World.cell?, World.frozen?, h]
theorem one_set {W : World} {B : Nat} {t : TypeId} {v : Value} (v' : Value) (h : W.heap[B]? = some (.cells #[v] t (0, 0))) : (W.setCell ⟨B, 0, none⟩ v').heap[B]? = some (.cells #[v'] t (0, 0)) := by
  obtain ⟨hlt, hk⟩ := Array.getElem?_eq_some_iff.1 h
  show (W.heap.modify B _)[B]? = _
  rw [Array.getElem?_eq_getElem (by rw [Array.size_modify]; exact hlt), Array.getElem_modify_self, hk]
  rfl

theorem TurnT.of_below {A : Nat → Obj → Prop} {n0 : Nat} {w w' : World} (h : Below w.heap.size w w') (hn : n0 ≤ w.heap.size) : TurnT A n0 w w' :=
  ⟨h.mono hn, fun b _ hb _ => (h.block b (Array.getElem?_eq_some_iff.1 hb).1).trans hb⟩

theorem heap_step {W : World} {k : Nat} {v : Obj} (o : Obj) (h : W.heap[k]? = some v) : (W.alloc o).heap[k]? = some v :=
  (Below.heap_alloc _ _ _ (Array.getElem?_eq_some_iff.1 h).1).trans h
theorem heap_new {k : Nat} (W : World) (o : Obj) (h : k = W.heap.size) : (W.alloc o).heap[k]? = some o := by
  rw [h]; exact World.alloc_heap_new _ _

theorem box_cell {A : Nat → Obj → Prop} {n0 : Nat} {W W1 : World} (ht : TurnT A n0 W W1) {B : Nat} {v : Value} {t : TypeId} (h : W.heap[B]? = some (.cells #[v] t (0, 0))) (ha : ¬ A B (.cells #[v] t (0, 0))) : W1.cell? ⟨B, 0, none⟩ = some v :=
  (one_cell (ht.2 _ _ h ha)).1

end Go.Proofs.YtjaejnacdanpkaaDoor

namespace Go.Proofs.YtjaejnacdanpkaaDoor
open Go.RowKit

set_option maxHeartbeats 1000000 in
theorem clone_any (xs : List Int) (hx : xs.length ≤ 100000) (v : Value) (S : Nat → Prop) (w : World) (hv : IntsV S w v xs) :
    Calls Tryd.prog 38 #[v] w fun e w' => ∃ x, e = .returned x ∧ IntsF (w.heap.size ≤ ·) w' x xs ∧ Below w.heap.size w w' := by
  have hv0 := hv
  obtain ⟨a, cap, rfl, hok, hcap, hmax⟩ := hv.form
  clear hv
  cases a with
  | none =>
    have hz : xs = [] := by
      rcases Nat.eq_zero_or_pos xs.length with h | h
      · exact List.eq_nil_of_length_eq_zero h
      · obtain ⟨b, o, e⟩ := hok h; cases e
    subst hz
    have hq : ∀ W, (binOp .eql 22 (.slice none 0 cap) (.slice none 0 0)).run Tryd.prog W = .ok (.bool true) W := fun W => Lib.run_eql_slice_nil W 22 3 none 0 cap 0 0 (by kernel_rfl)
    go_enter Tryd.func38, Tryd.ntmps38
    go_wp2
    go_ret
    exact ⟨_, rfl, IntsF.nil _ _, Below.refl _ _⟩
  | some ad =>
    have hq : ∀ W, (binOp .eql 22 (.slice (some ad) xs.length cap) (.slice none 0 0)).run Tryd.prog W = .ok (.bool false) W := fun W => Lib.run_eql_slice_nil W 22 3 (some ad) xs.length cap 0 0 (by kernel_rfl)
    have hI : IntsF (w.heap.size ≤ ·) (w.alloc (.cells #[] 3)) (.slice (some ⟨w.heap.size, 0, none⟩) 0 0) [] :=
      ⟨World.ownsRow_made w #[] 0 (Nat.zero_le _) (Nat.zero_le _) (by simp), fun b hb => by simp [Value.ownBlock] at hb; omega⟩
    have hrr1 : IntsV S (w.alloc (.cells #[] 3)) (.slice (some ad) xs.length cap) xs := IntsV.keep hv0 (KeepS.below ((Below.refl _ _).alloc (Nat.le_refl _) _))
    go_enter Tryd.func38, Tryd.ntmps38
    go_wp2_with (at_builtin; go_must (refine wpList_appI rfl _ _ rfl Tryd.app22 rfl hI (Below.refl _ _) rfl hrr1 (by simp; omega) ?_))
    intro v1 w1 hI1 ht1
    have hI2 : IntsF (w.heap.size ≤ ·) w1 v1 xs := by
      have := steady_intsF.mono hI1 (fun b _ hb => grow_from (by simp) b hb)
      simpa using this
    have hb3 : Below w.heap.size w w1 := ((Below.refl _ _).alloc (Nat.le_refl _) _).trans (ht1.below (by simp) (fun b hb => by simp [Value.ownBlock] at hb; omega))
    clear hI hI1 hrr1 ht1 hq
    go_wp2
    go_ret
    exact ⟨_, rfl, hI2, hb3⟩

end Go.Proofs.YtjaejnacdanpkaaDoor
