/- Words for slices in memory that are read: what a slice value holds, said of cells; and how it stays when other blocks are written. Leaf functions of the references: Around, At, SameInts. SameInts: two slices of numbers are compared. Words for slices that the call itself makes: the law of append in a form that tells the new block; rows of one-cell elements that are owned, with what their elements lead to. The generators of the reference of layer 36: Shape, World. Slices of the call's own whose elements' blocks are apart from each other: a world that is changed in place. One element is borrowed, changed, and handed back. -/
import Derived.Test.YteepdnamkcgndaaRows
import Derived.WalkKit
import Derived.WalkSpells
import Derived.WalkLawsBesides
import Derived.BigQuiet
import Derived.Deep.QuietTactic
namespace Go.Proofs.Yteepdnamkcgndaa
open Go.RowKit

theorem hid {p : Prop} (h : p) : Hid p := h

theorem bneF {a b : Int} (h : a = b) : (a != b) = false := by simpa using h
theorem bneT {a b : Int} (h : a ≠ b) : (a != b) = true := by simpa using h
theorem beqT {a b : Int} (h : a = b) : (a == b) = true := by simpa using h
theorem beqF {a b : Int} (h : a ≠ b) : (a == b) = false := by simpa using h

/-- The block and the offset of a slice's base (0 for nil). -/
def slb (a : Option Addr) : Nat := (a.getD ⟨0, 0, none⟩).block
def slo (a : Option Addr) : Nat := (a.getD ⟨0, 0, none⟩).off
@[simp, go_sem] theorem slb_some (b o : Nat) (s : Option Nat) : slb (some ⟨b, o, s⟩) = b := rfl
@[simp, go_sem] theorem slo_some (b o : Nat) (s : Option Nat) : slo (some ⟨b, o, s⟩) = o := rfl
/-- A slice of n elements has a base, if it has an element. -/
def Slok (a : Option Addr) (n : Nat) : Prop := 0 < n → ∃ b o, a = some ⟨b, o, none⟩

@[go_sem] theorem run_indexAt_var {P : Program} (w : World) (t : TypeId) (a : Option Addr) (len cap : Nat) (k : IntKind) (i : Int)
    (h : P.underlying t = some (.slice (P.elem t))) (hok : Slok a len) (h0 : 0 ≤ i) (h1 : i < len) :
    (Instr.indexAt t (.slice a len cap) (.int k i)).run P w =
      ((sizeOf (P.elem t)).run P w).andThen fun s w => .ok (.pointer (some ⟨slb a, slo a + i.toNat * s, none⟩)) w := by
  obtain ⟨b, o, rfl⟩ := hok (by omega)
  rw [run_indexAt_slice w t _ len cap k i h, if_pos ⟨h0, h1⟩]
  simp [Addr.add_lit]

/-- What the blocks of S hold has stayed. -/
def KeepS (S : Nat → Prop) (w w' : World) : Prop := ∀ b, S b → b < w.heap.size → w'.heap[b]? = w.heap[b]?
theorem KeepS.refl (S : Nat → Prop) (w : World) : KeepS S w w := fun _ _ _ => rfl
theorem KeepS.of_below {S : Nat → Prop} {w w' : World} {B : Nat} (h : Below B w w') (hS : ∀ b, S b → b < B) : KeepS S w w' := fun b hb _ => h.block b (hS b hb)
theorem KeepS.below {S : Nat → Prop} {w w' : World} (h : Below w.heap.size w w') : KeepS S w w' := fun b _ hlt => h.block b hlt
theorem KeepS.of_grown {S : Nat → Prop} {w w' : World} {row : Option Nat} (h : w.grownBy w' row) (hS : ∀ b, S b → some b ≠ row) : KeepS S w w' := fun b hb hlt => h.block b hlt (hS b hb)

/-- v is a slice of the elements xs, each of one cell; R says what a cell's value is; the cells lie in a block of S. -/
def SlV {α : Type} (R : World → Value → α → Prop) (S : Nat → Prop) (w : World) (v : Value) (xs : List α) : Prop :=
  ∃ a cap, v = .slice a xs.length cap ∧ Slok a xs.length ∧ xs.length ≤ cap ∧ cap ≤ maxLen ∧ (0 < xs.length → S (slb a)) ∧
    ∀ j (h : j < xs.length), ∃ u, w.cell? ⟨slb a, slo a + j, none⟩ = some u ∧ R w u xs[j]

theorem SlV.keep {α : Type} {R : World → Value → α → Prop} {S : Nat → Prop} {w w' : World} {v : Value} {xs : List α}
    (h : SlV R S w v xs) (hk : KeepS S w w') (hR : ∀ u x, R w u x → R w' u x) : SlV R S w' v xs := by
  obtain ⟨a, cap, rfl, h1, h2, h3, h4, h5⟩ := h
  refine ⟨a, cap, rfl, h1, h2, h3, h4, fun j hj => ?_⟩
  obtain ⟨u, hu, hr⟩ := h5 j hj
  refine ⟨u, ?_, hR _ _ hr⟩
  rw [World.cell?_of_block (w := w) (a := ⟨slb a, slo a + j, none⟩) (hk _ (h4 (by omega)) (World.block_lt_of_cell? w ⟨slb a, slo a + j, none⟩ hu))]
  exact hu

theorem SlV.mono {α : Type} {R R' : World → Value → α → Prop} {S S' : Nat → Prop} {w : World} {v : Value} {xs : List α}
    (h : SlV R S w v xs) (hS : ∀ b, b < w.heap.size → S b → S' b) (hR : ∀ u x, R w u x → R' w u x) : SlV R' S' w v xs := by
  obtain ⟨a, cap, rfl, h1, h2, h3, h4, h5⟩ := h
  refine ⟨a, cap, rfl, h1, h2, h3, fun h0 => ?_, fun j hj => ?_⟩
  · obtain ⟨u, hu, _⟩ := h5 0 h0
    exact hS _ (World.block_lt_of_cell? w ⟨slb a, slo a + 0, none⟩ hu) (h4 h0)
  · obtain ⟨u, hu, hr⟩ := h5 j hj
    exact ⟨u, hu, hR _ _ hr⟩

theorem SlV.nil {α : Type} (R : World → Value → α → Prop) (S : Nat → Prop) (w : World) : SlV R S w (.slice none 0 0) [] :=
  ⟨none, 0, rfl, fun h => absurd h (by simp), Nat.le_refl _, Nat.zero_le _, fun h => absurd h (by simp), fun j h => absurd h (by simp)⟩

/-- A slice of numbers. -/
abbrev IntsV (S : Nat → Prop) := SlV (fun _ u (x : Int) => u = .int .i64 x) S
/-- A slice of slices of numbers: the records of a kind. -/
abbrev RowsV (S : Nat → Prop) := SlV (IntsV S) S
/-- A world. -/
abbrev WorldV (S : Nat → Prop) := SlV (RowsV S) S
/-- Any block. -/
abbrev AnyB : Nat → Prop := fun _ => True

theorem IntsV.keep {S w w' v xs} (h : IntsV S w v xs) (hk : KeepS S w w') : IntsV S w' v xs := SlV.keep h hk fun _ _ h => h
theorem RowsV.keep {S w w' v xs} (h : RowsV S w v xs) (hk : KeepS S w w') : RowsV S w' v xs := SlV.keep h hk fun _ _ h => IntsV.keep h hk
theorem WorldV.keep {S w w' v xs} (h : WorldV S w v xs) (hk : KeepS S w w') : WorldV S w' v xs := SlV.keep h hk fun _ _ h => RowsV.keep h hk
theorem IntsV.mono {S S' w v xs} (h : IntsV S w v xs) (hS : ∀ b, b < w.heap.size → S b → S' b) : IntsV S' w v xs := SlV.mono h hS fun _ _ h => h
theorem RowsV.mono {S S' w v xs} (h : RowsV S w v xs) (hS : ∀ b, b < w.heap.size → S b → S' b) : RowsV S' w v xs := SlV.mono h hS fun _ _ h => IntsV.mono h hS
theorem WorldV.mono {S S' w v xs} (h : WorldV S w v xs) (hS : ∀ b, b < w.heap.size → S b → S' b) : WorldV S' w v xs := SlV.mono h hS fun _ _ h => RowsV.mono h hS

end Go.Proofs.Yteepdnamkcgndaa

namespace Go.Proofs.Yteepdnamkcgndaa
open Go.RowKit

def around (n most : Int) : Int := if most < 1 then 0 else (if n < 0 then -(n + 1) else n) % most

theorem around_neg {n most : Int} (h3 : 1 ≤ most) (hn : n < 0) : -((n + 1).tmod most) = around n most := by
  unfold around; rw [if_neg (by omega), if_pos hn, ← Int.neg_tmod, Int.tmod_eq_emod_of_nonneg (by omega)]
theorem around_pos {n most : Int} (h3 : 1 ≤ most) (hn : 0 ≤ n) : n % most = around n most := by
  unfold around; rw [if_neg (by omega), if_neg (by omega)]
theorem around_lt (n most : Int) (h3 : 1 ≤ most) : 0 ≤ around n most ∧ around n most < most := by
  unfold around; rw [if_neg (by omega)]
  exact ⟨Int.emod_nonneg _ (by omega), Int.emod_lt_of_pos _ (by omega)⟩
theorem ret_int {k : IntKind} {a b : Int} (h : a = b) : Ending.returned (.int k a) = .returned (.int k b) := by rw [h]
theorem ret_bool {a b : Bool} (h : a = b) : Ending.returned (.bool a) = .returned (.bool b) := by rw [h]

set_option maxHeartbeats 400000 in
theorem around_any (n most : Int) (w : World) (h1 : -9223372036854775808 ≤ n) (h2 : n ≤ 9223372036854775807) (h3 : 1 ≤ most) (h4 : most ≤ 1000000) :
    Calls Try.prog 22 #[.int .i64 n, .int .i64 most] w fun e w' => e = .returned (.int .i64 (around n most)) ∧ w = w' := by
  by_cases hn : n < 0
  · go_enter Try.func22, Try.ntmps22
    go_wp2
    go_ret
    exact ⟨ret_int (around_neg h3 hn), rfl⟩
  · go_enter Try.func22, Try.ntmps22
    go_wp2
    go_ret
    exact ⟨ret_int (around_pos h3 (by omega)), rfl⟩

/-- The number that At makes of an element (0 after the end). -/
def atI (l : List Int) (i : Nat) (most : Int) : Int := if i < l.length then around (l.getD i 0) most else 0
theorem atI_lt (l : List Int) (i : Nat) (most : Int) (h3 : 1 ≤ most) : 0 ≤ atI l i most ∧ atI l i most < most := by
  unfold atI; split
  · exact around_lt _ _ h3
  · omega

/-- The numbers of a list fit int. -/
def Fit (l : List Int) : Prop := ∀ x ∈ l, -9223372036854775808 ≤ x ∧ x ≤ 9223372036854775807

set_option maxHeartbeats 400000 in
theorem at_any (l : List Int) (hl : Fit l) (v : Value) (i : Int) (most : Int) (S : Nat → Prop) (w : World) (hv : IntsV S w v l) (h3 : 1 ≤ most) (h4 : most ≤ 1000000) (hi : 0 ≤ i) :
    Calls Try.prog 18 #[v, .int .i64 i, .int .i64 most] w fun e w' => e = .returned (.int .i64 (atI l i.toNat most)) ∧ w = w' := by
  obtain ⟨a, cap, rfl, hok, hcap, hmax, hS, hcell⟩ := hv
  clear hS
  by_cases hlt : i < l.length
  · obtain ⟨u, hu, rfl⟩ := hcell i.toNat (by omega)
    have hb := hl _ (List.getElem_mem (l := l) (n := i.toNat) (by omega))
    have e1 : around l[i.toNat] most = atI l i.toNat most := by unfold atI; rw [if_pos (by omega), List.getD_eq_getElem?_getD, List.getElem?_eq_getElem (by omega)]; rfl
    obtain ⟨x, hx⟩ : ∃ x, x = l[i.toNat] := ⟨_, rfl⟩
    rw [← hx] at e1 hu hb
    rw [← e1]
    clear e1 hx hcell
    generalize l.length = n at *
    go_enter Try.func18, Try.ntmps18
    go_wp2_with (go_at_call 22; refine (around_any _ _ _ (by omega) (by omega) (by omega) (by omega)).mono ?_; rintro e w' ⟨rfl, rfl⟩)
    go_ret
    exact ⟨rfl, rfl⟩
  · have e1 : atI l i.toNat most = 0 := by unfold atI; rw [if_neg (by omega)]
    rw [e1]
    clear e1 hcell
    generalize l.length = n at *
    go_enter Try.func18, Try.ntmps18
    go_wp2
    go_ret
    exact ⟨rfl, rfl⟩

end Go.Proofs.Yteepdnamkcgndaa

namespace Go.Proofs.Yteepdnamkcgndaa
open Go.RowKit

theorem same_prefix {xs ys : List Int} {k : Nat} (hl : xs.length = ys.length) (hk : k = xs.length) (h : xs.take k = ys.take k) : xs = ys := by
  have e1 : xs.take xs.length = xs := List.take_length
  have e2 : ys.take ys.length = ys := List.take_length
  rw [hk] at h
  rw [← e1, h, hl, e2]

theorem take_eq_succ {xs ys : List Int} {k : Nat} (hx : k < xs.length) (hy : k < ys.length) (h : xs.take k = ys.take k) (e : xs[k] = ys[k]) : xs.take (k + 1) = ys.take (k + 1) := by
  rw [List.take_succ_eq_append_getElem hx, List.take_succ_eq_append_getElem hy, h, e]

set_option maxHeartbeats 400000 in
theorem sameInts_any (xs ys : List Int) (u v : Value) (S T : Nat → Prop) (w : World) (hu : IntsV S w u xs) (hv : IntsV T w v ys) :
    Calls Try.prog 55 #[u, v] w fun e w' => e = .returned (.bool (decide (xs = ys))) ∧ ∃ n, w' = w.drewN n := by
  obtain ⟨a, cap, rfl, hok, hcap, hmax, hS, hcell⟩ := hu
  obtain ⟨a', cap', rfl, hok', hcap', hmax', hS', hcell'⟩ := hv
  clear hS hS'
  unfold maxLen at hmax hmax'
  by_cases hl : xs.length = ys.length
  · have hl2 : ((xs.length : Int) != (ys.length : Int)) = false := by simp [hl]
    have hl3 : xs.length ≤ ys.length := by omega
    have HL := hid hl
    clear hl
    go_enter Try.func55, Try.ntmps55
    go_wp2
    go_loopw [5] (fun i wr => ∃ k : Nat, k ≤ xs.length ∧ i = .int .i64 k ∧ Hid (xs.take k = ys.take k) ∧ ∃ n, wr = w.drewN n) (fun i _ => xs.length - (intOf i).toNat)
    case atStart => exact ⟨0, Nat.zero_le _, rfl, hid rfl, 0, rfl⟩
    case round =>
      obtain ⟨k, hk, rfl, hpre, n, rfl⟩ := hrel
      by_cases hlt : k < xs.length
      · obtain ⟨x, hx, hx2⟩ := hcell k hlt
        obtain ⟨y, hy, hy2⟩ := hcell' k (by omega)
        obtain ⟨x0, hx0⟩ : ∃ x0, x0 = xs[k] := ⟨_, rfl⟩
        obtain ⟨y0, hy0⟩ : ∃ y0, y0 = ys[k] := ⟨_, rfl⟩
        rw [← hx0] at hx2
        rw [← hy0] at hy2
        subst hx2; subst hy2
        have hk0 : (0 : Int) ≤ (k : Int) := by omega
        have hk1 : (k : Int) < (xs.length : Int) := by omega
        have hk2 : (k : Int) < (ys.length : Int) := by omega
        have HX := hid hx0
        have HY := hid hy0
        clear hx0 hy0
        by_cases hxy : x0 = y0
        · subst hxy
          go_wp2
          go_quiet (fail)
          go_wp2
          go_roundw
          case rel => exact ⟨k + 1, by omega, by go_num, hid (take_eq_succ hlt (by omega) hpre.out (HX.out.symm.trans HY.out)), _, rfl⟩
          case measure => simp [intOf]; omega
        · have hb : (x0 != y0) = true := by simpa using hxy
          have hne : xs ≠ ys := by
            intro e
            subst e
            exact hxy (HX.out.trans HY.out.symm)
          have HN := hid hne
          clear hxy hne
          go_wp2
          go_quiet (fail)
          go_wp2
          go_ret
          exact ⟨ret_bool (decide_eq_false HN.out).symm, by rw [World.drewN_drewN]; exact ⟨_, rfl⟩⟩
      · go_wp2
        go_ret
        exact ⟨ret_bool (decide_eq_true (same_prefix HL.out (by omega) hpre.out)).symm, _, rfl⟩
  · have hl2 : ((xs.length : Int) != (ys.length : Int)) = true := by simpa using (by omega : (xs.length : Int) ≠ ys.length)
    rw [decide_eq_false (fun e => hl (by rw [e]))]
    clear hl
    go_enter Try.func55, Try.ntmps55
    go_wp2
    go_ret
    exact ⟨rfl, 0, rfl⟩

end Go.Proofs.Yteepdnamkcgndaa

namespace Go.Proofs.Yteepdnamkcgndaa
open Go.RowKit

theorem range_snoc {α : Type} (f : Nat → α) (k : Nat) : (List.range k).map f ++ [f k] = (List.range (k + 1)).map f := by simp [List.range_succ]

/-- What append asks of the element's type. -/
def AppT (P : Program) (t e : TypeId) (size bytes : Nat) : Prop :=
  P.underlying t = some (.slice e) ∧ P.underlying t ≠ none ∧ ∃ i z, P.info? e = some i ∧ i.zero = some z ∧ i.size = size ∧ i.bytes = bytes ∧ z.cells.size = size ∧ 0 < size ∧ bytes ≤ 1000

theorem appT_mk {P : Program} {t e : TypeId} {z : Value} {size bytes : Nat} (h : P.underlying t = some (.slice e))
    (hi : (P.info? e).map (fun i => (i.zero, i.size, i.bytes)) = some (some z, size, bytes)) (hz : z.cells.size = size) (h0 : 0 < size) (hb : bytes ≤ 1000) : AppT P t e size bytes := by
  obtain ⟨i, h1, h2, h3, h4⟩ := info_parts hi
  exact ⟨h, by rw [h]; simp, i, z, h1, h2, h3, h4, hz, h0, hb⟩

section
variable {P : Program} {w : World} {t e : TypeId} {size bytes : Nat}

/-- Nothing is appended. -/
theorem run_app_zero (ty : TypeId) (hT : AppT P t e size bytes) {base : Nat} {v : Value} {n : Nat} {xs : List Value} (hown : w.ownsRow base e size v n xs) (ao : Option Addr) (c : Nat) :
    (Builtin.append_ #[t, t] ty #[v, .slice ao 0 c]).run P w = .ok v w := by
  obtain ⟨ht, _, i, z, h1, h2, h3, h4, h5, h6, _⟩ := hT
  have hs : (sizeOf e).run P w = .ok i.size w := by simp [sizeOf, typeInfo, h1]
  have hf : (Builtin.firstCells i.size 0 (.slice ao 0 c)).run P w = .ok #[] w := by
    cases ao <;> simp [Builtin.firstCells, loadCells, loadCellsFrom]
  rcases hown.2 with ⟨rfl, rfl⟩ | ⟨g, cap, cur, rfl, _, _, hn, _⟩
  · simp [Builtin.append_, run_underlying ht, hs, Builtin.lenOf, hf]
  · simp [Builtin.append_, run_underlying ht, hs, Builtin.lenOf, hf, hn, storeCells]

/-- 'append(v, x...)', v owned: what it hands back, and in which block it lies. -/
theorem run_app (ty : TypeId) (hT : AppT P t e size bytes) {base : Nat} {v : Value} {n : Nat} {xs : List Value} (hown : w.ownsRow base e size v n xs)
    (ao : Option Addr) (m c : Nat) (hok : Slok ao m) (news : List Value) (hl : news.length = m * size)
    (hnews : ∀ j u, news[j]? = some u → w.cell? ⟨slb ao, slo ao + j, none⟩ = some u) (h1 : ∀ u ∈ news, u.oneCell' = true)
    (hsmall : n + m ≤ 1000000000) (hbase : base ≤ w.heap.size) :
    ∃ v' w', (Builtin.append_ #[t, t] ty #[v, .slice ao m c]).run P w = .ok v' w' ∧ w'.ownsRow base e size v' (n + m) (xs ++ news) ∧ w.grownBy w' v.ownBlock ∧
      (v'.ownBlock = v.ownBlock ∨ v'.ownBlock = some w.heap.size) := by
  rcases Nat.eq_zero_or_pos m with rfl | hm
  · obtain rfl : news = [] := List.eq_nil_of_length_eq_zero (by simpa using hl)
    exact ⟨v, w, run_app_zero ty hT hown ao c, by simpa using hown, ⟨rfl, rfl, rfl, Nat.le_refl _, fun _ _ _ => rfl⟩, .inl rfl⟩
  obtain ⟨ab, ao', rfl⟩ := hok hm
  have hnews' : ∀ j u, news[j]? = some u → w.cell? ((⟨ab, ao', none⟩ : Addr).add j) = some u := fun j u hu => by
    rw [Addr.add_lit]; exact hnews j u hu
  obtain ⟨ht, _, i, z, g1, g2, g3, g4, g5, g6, g7⟩ := hT
  subst g3
  subst g4
  have hby : (n + m) * i.bytes ≤ 140737488355328 := by have := Nat.mul_le_mul hsmall g7; omega
  have h63 : n + m ≤ maxLen := by unfold maxLen; omega
  have hlen : (xs ++ news).length = (n + m) * i.size := by rw [List.length_append, hown.1, hl, Nat.add_mul]
  have grown : ∀ (old : Nat), old < n + m → ∀ (row : Option Nat),
      (w.drew.alloc (.cells (xs.toArray ++ news.toArray ++ Builtin.zeroCells z.cells (grownCap w (n + m) old e - (n + m))) e)).ownsRow base e i.size
        (.slice (some ⟨w.heap.size, 0, none⟩) (n + m) (grownCap w (n + m) old e)) (n + m) (xs ++ news) ∧
      w.grownBy (w.drew.alloc (.cells (xs.toArray ++ news.toArray ++ Builtin.zeroCells z.cells (grownCap w (n + m) old e - (n + m))) e)) row := by
    intro old _ row
    have hge := grownCap_ge w (n + m) old e
    have hcm : grownCap w (n + m) old e ≤ maxLen := grownCap_le_maxLen w (n + m) old e h63
    refine ⟨⟨hlen, .inr ⟨w.heap.size, _, _, rfl, hbase, heap_alloc_new w.drew _, hge, hcm, ?_, ?_⟩⟩, ⟨rfl, rfl, rfl, by simp, fun k hk _ => Below.heap_alloc w.drew _ k hk⟩⟩
    · have e1 : n * i.size + m * i.size = (n + m) * i.size := (Nat.add_mul _ _ _).symm
      have e2 : (n + m) * i.size + (grownCap w (n + m) old e - (n + m)) * i.size = grownCap w (n + m) old e * i.size := by rw [← Nat.add_mul]; congr 1; omega
      simp only [Array.size_append, List.size_toArray, size_zeroCells, g5, hown.1, hl, e1, e2]
    · simp only [Array.toList_append, List.append_assoc]
      rw [← List.append_assoc, ← hlen]
      exact List.take_left
  rcases hown.2 with ⟨rfl, rfl⟩ | ⟨g, cap, cur, rfl, hbg, hg, hnc, hcm, hcs, htake⟩
  · have hx : xs = [] := List.eq_nil_of_length_eq_zero (by simpa using hown.1)
    subst hx
    have hr := run_append_nil (P := P) w t ty e i z ht g1 g2 ⟨ab, ao', none⟩ m c news hl hnews' hm (by omega) (by rw [Nat.zero_add] at hby; omega)
    have hgr := grown 0 (by omega) (Value.ownBlock (.slice none 0 0))
    simp only [Nat.zero_add, List.nil_append] at hgr ⊢
    refine ⟨_, _, hr, ?_, ?_, .inr rfl⟩
    · simpa using hgr.1
    · simpa using hgr.2
  · by_cases hroom : n + m ≤ cap
    · have hfit : n * i.size + news.length ≤ cur.size := by rw [hl, hcs, ← Nat.add_mul]; exact Nat.mul_le_mul_right _ hroom
      have hr := run_append_room (P := P) w t ty e i ht g1 g n cap cur hg ⟨ab, ao', none⟩ m c news hl hnews' h1 hroom hfit
      refine ⟨_, _, hr, ⟨hlen, .inr ⟨g, cap, _, rfl, hbg, setRow_heap w g cur _ e _ hg, hroom, hcm, ?_, ?_⟩⟩, ⟨rfl, rfl, rfl, by simp, fun k _ hk => setRow_other w g k _ (fun e => hk (by simp [Value.ownBlock, e]))⟩, .inl rfl⟩
      · simp only [List.size_toArray, List.length_append, List.length_take, List.length_drop, Array.length_toList]
        omega
      · rw [htake, ← hlen]
        exact List.take_left
    · have holds : ∀ j u, xs[j]? = some u → w.cell? ((⟨g, 0, none⟩ : Addr).add j) = some u := hown.cells (g := g) rfl
      have hr := run_append_grow (P := P) w t ty e i z ht g1 g2 ⟨g, 0, none⟩ n cap xs hown.1 holds ⟨ab, ao', none⟩ m c news hl hnews' (by omega) (by omega) (growslice_fits (by omega) hby)
      have hgr := grown cap (by omega) (Value.ownBlock (.slice (some ⟨g, 0, none⟩) n cap))
      exact ⟨_, _, hr, hgr.1, hgr.2, .inr rfl⟩

/-- The same as a law of the walk. -/
theorem wpList_app {ops : Array Oper} {rest : List Oper} {o : Oper} {a : Act} {Q : Exit → Act → World → Prop} (hgd : o.guard = none) (s x : Operand)
    (ho : o.op = .call { callee := .builtin .append, args := #[s, x], argTypes := #[t, t] }) (hT : AppT P t e size bytes)
    {base : Nat} {v : Value} {n : Nat} {xs : List Value} (hs : a.eval s = v) (hown : w.ownsRow base e size v n xs)
    (ao : Option Addr) (m c : Nat) (hx : a.eval x = .slice ao m c) (hok : Slok ao m) (news : List Value) (hl : news.length = m * size)
    (hnews : ∀ j u, news[j]? = some u → w.cell? ⟨slb ao, slo ao + j, none⟩ = some u) (h1 : ∀ u ∈ news, u.oneCell' = true)
    (hsmall : n + m ≤ 1000000000) (hbase : base ≤ w.heap.size)
    (h : ∀ v' w', w'.ownsRow base e size v' (n + m) (xs ++ news) → w.grownBy w' v.ownBlock → (v'.ownBlock = v.ownBlock ∨ v'.ownBlock = some w.heap.size) → wpList P ops Q rest (a.put o.dst v') w') :
    wpList P ops Q (o :: rest) a w := by
  obtain ⟨v', w', hr, h2, h3, h4⟩ := run_app o.type hT hown ao m c hok news hl hnews h1 hsmall hbase
  refine wpList_plain hgd fun K hK => ?_
  unfold Oper.wp
  simp [execOp, ho, resolve, invoke, builtin, hs, hx, hr, Result.andThen]
  exact hK _ _ (h v' w' h2 h3 h4)
end

/-- The cells of a block that has just been made. -/
theorem news_alloc (w : World) (cs : Array Value) (t : TypeId) : ∀ j u, cs.toList[j]? = some u → (w.alloc (.cells cs t)).cell? ⟨w.heap.size, 0 + j, none⟩ = some u := by
  intro j u hu
  rw [Nat.zero_add, World.cell?_alloc_new]
  simpa using hu

/-- A word on a value that speaks of the blocks of S alone. -/
structure Steady {α : Type} (RR : (Nat → Prop) → World → Value → α → Prop) : Prop where
  keep : ∀ {S w w' u x}, RR S w u x → KeepS S w w' → RR S w' u x
  mono : ∀ {S S' : Nat → Prop} {w u x}, RR S w u x → (∀ b, b < w.heap.size → S b → S' b) → RR S' w u x

theorem steady_int : Steady (fun _ _ u (x : Int) => u = .int .i64 x) := ⟨fun h _ => h, fun h _ => h⟩
theorem steady_ints : Steady (α := List Int) (fun S => IntsV S) := ⟨fun h k => h.keep k, fun h k => h.mono k⟩
theorem steady_rows : Steady (α := List (List Int)) (fun S => RowsV S) := ⟨fun h k => h.keep k, fun h k => h.mono k⟩
theorem steady_world : Steady (α := List (List (List Int))) (fun S => WorldV S) := ⟨fun h k => h.keep k, fun h k => h.mono k⟩

/-- v is a row of the call's own (from block B on) whose elements are xs; what they lead to lies from B on, and not in v's own block. -/
def OwnV {α : Type} (RR : (Nat → Prop) → World → Value → α → Prop) (B : Nat) (e : TypeId) (w : World) (v : Value) (xs : List α) : Prop :=
  ∃ us, w.ownsRow B e 1 v xs.length us ∧ us.length = xs.length ∧ ∀ j (h1 : j < us.length) (h2 : j < xs.length), RR (fun b => B ≤ b ∧ some b ≠ v.ownBlock) w us[j] xs[j]

theorem OwnV.nil {α : Type} (RR : (Nat → Prop) → World → Value → α → Prop) (B : Nat) (e : TypeId) (w : World) : OwnV RR B e w (.slice none 0 0) [] :=
  ⟨[], World.ownsRow_nil _ _ _ _, rfl, fun j h => absurd h (by simp)⟩

/-- It reads as a slice. -/
theorem OwnV.sl {α : Type} {RR : (Nat → Prop) → World → Value → α → Prop} (hR : Steady RR) {B : Nat} {e : TypeId} {w : World} {v : Value} {xs : List α} (h : OwnV RR B e w v xs) :
    SlV (RR (B ≤ ·)) (B ≤ ·) w v xs := by
  obtain ⟨us, ⟨h1, h2⟩, hl, hr⟩ := h
  simp only [Nat.mul_one] at h1
  rcases h2 with ⟨rfl, h0⟩ | ⟨g, cap, cur, rfl, hb, hg, hn, hc, hs, ht⟩
  · obtain rfl : xs = [] := List.eq_nil_of_length_eq_zero h0
    exact SlV.nil _ _ w
  · simp only [Nat.mul_one] at hs ht
    refine ⟨some ⟨g, 0, none⟩, cap, rfl, fun _ => ⟨g, 0, rfl⟩, by omega, hc, fun _ => hb, fun j hj => ?_⟩
    refine ⟨us[j]'(by omega), ?_, hR.mono (hr j (by omega) hj) (fun b _ h => h.1)⟩
    rw [slb_some, slo_some, Nat.zero_add, cell_of_row w g j cur e (0, 0) hg]
    have h3 : us[j]? = some (us[j]'(by omega)) := List.getElem?_eq_getElem (by omega)
    rw [← h3, ← ht, List.getElem?_take, if_pos (by omega)]
    simp

theorem OwnV.kept {α : Type} {RR : (Nat → Prop) → World → Value → α → Prop} (hR : Steady RR) {B : Nat} {e : TypeId} {w w' : World} {v : Value} {xs : List α} (h : OwnV RR B e w v xs)
    (hk : KeepS (B ≤ ·) w w') : OwnV RR B e w' v xs := by
  obtain ⟨us, ⟨h1, h2⟩, hl, hr⟩ := h
  refine ⟨us, ⟨h1, ?_⟩, hl, fun j g1 g2 => hR.keep (hr j g1 g2) (fun b hb hlt => hk b hb.1 hlt)⟩
  rcases h2 with h2 | ⟨g, cap, cur, hv, hb, hg, r⟩
  · exact .inl h2
  · exact .inr ⟨g, cap, cur, hv, hb, by rw [hk g hb (Array.getElem?_eq_some_iff.1 hg).1]; exact hg, r⟩

/-- New blocks, and whatever happens from the heap's end on, leave it. -/
theorem OwnV.below {α : Type} {RR : (Nat → Prop) → World → Value → α → Prop} (hR : Steady RR) {B : Nat} {e : TypeId} {w w' : World} {v : Value} {xs : List α} (h : OwnV RR B e w v xs)
    (hk : Below w.heap.size w w') : OwnV RR B e w' v xs := h.kept hR (KeepS.below hk)

/-- A block that is newer than the row's world is none of its own. -/
theorem OwnV.fresh {α : Type} {RR : (Nat → Prop) → World → Value → α → Prop} {B : Nat} {e : TypeId} {w : World} {v : Value} {xs : List α} (h : OwnV RR B e w v xs) (hB : B ≤ w.heap.size) :
    ∀ b, w.heap.size ≤ b → B ≤ b ∧ some b ≠ v.ownBlock := by
  intro b hb
  obtain ⟨us, h1, _⟩ := h
  refine ⟨by omega, fun e => ?_⟩
  have := (h1.lt b e.symm).2
  omega

/-- One more element. -/
theorem OwnV.app {α : Type} {RR : (Nat → Prop) → World → Value → α → Prop} (hR : Steady RR) {B : Nat} {e : TypeId} {w w0 w' : World} {v v' : Value} {xs : List α} {us : List Value} {x : α} {u : Value}
    (hl : us.length = xs.length) (hr : ∀ j (h1 : j < us.length) (h2 : j < xs.length), RR (fun b => B ≤ b ∧ some b ≠ v.ownBlock) w us[j] xs[j])
    (hu : RR (fun b => B ≤ b ∧ some b ≠ v.ownBlock) w u x) (hb : Below w.heap.size w w0)
    (hown : w'.ownsRow B e 1 v' (xs.length + 1) (us ++ [u])) (hg : w0.grownBy w' v.ownBlock) (hn : v'.ownBlock = v.ownBlock ∨ v'.ownBlock = some w0.heap.size) : OwnV RR B e w' v' (xs ++ [x]) := by
  have key : ∀ {u x}, RR (fun b => B ≤ b ∧ some b ≠ v.ownBlock) w u x → RR (fun b => B ≤ b ∧ some b ≠ v'.ownBlock) w' u x := by
    intro u x h
    have hsz := hb.size
    have h1 := hR.mono (S' := fun b => (B ≤ b ∧ some b ≠ v.ownBlock) ∧ b < w.heap.size) h (fun b hlt hb' => ⟨hb', hlt⟩)
    have h2 := hR.keep (w' := w') h1 (fun b hb' _ => (hg.block b (by omega) hb'.1.2).trans (hb.block b hb'.2))
    refine hR.mono h2 (fun b _ hb' => ⟨hb'.1.1, ?_⟩)
    rcases hn with hn | hn
    · rw [hn]; exact hb'.1.2
    · rw [hn]; intro e'; have := Option.some.inj e'; omega
  refine ⟨us ++ [u], by simpa using hown, by simp [hl], fun j h1 h2 => ?_⟩
  by_cases hj : j < us.length
  · rw [List.getElem_append_left hj, List.getElem_append_left (by omega)]
    exact key (hr j hj (by omega))
  · simp at h1
    obtain rfl : j = us.length := by omega
    simp only [List.getElem_append_right (Nat.le_refl _), Nat.sub_self, List.getElem_cons_zero]
    rw [List.getElem_append_right (by omega)]
    simp [hl]
    exact key hu

/-- 'append(s, x)', s a row of the call's own, the one new element u; what is kept. -/
theorem wpList_app1 {P : Program} {t e : TypeId} {bytes : Nat} {α : Type} {RR : (Nat → Prop) → World → Value → α → Prop} (hR : Steady RR) {w : World} {ops : Array Oper} {rest : List Oper} {o : Oper} {a : Act} {Q : Exit → Act → World → Prop} (hgd : o.guard = none) (s x : Operand)
    (ho : o.op = .call { callee := .builtin .append, args := #[s, x], argTypes := #[t, t] }) (hT : AppT P t e 1 bytes)
    {base : Nat} {v : Value} {xs : List α} (hs : a.eval s = v) (hown : OwnV RR base e w v xs)
    {u : Value} {e' : TypeId} (hx : a.eval x = .slice (some ⟨w.heap.size, 0, none⟩) 1 1) (y : α) (hu : RR (fun b => base ≤ b ∧ some b ≠ v.ownBlock) w u y) (h1 : u.oneCell' = true)
    (hsmall : xs.length + 1 ≤ 1000000000) (hbase : base ≤ w.heap.size) {B0 : Nat} {w0 : World} (hb : Below B0 w0 w) (hB : B0 ≤ base)
    (h : ∀ v' w', OwnV RR base e w' v' (xs ++ [y]) → Below B0 w0 w' → (∀ S : Nat → Prop, (∀ b, S b → some b ≠ v.ownBlock) → KeepS S w w') → wpList P ops Q rest (a.put o.dst v') w') :
    wpList P ops Q (o :: rest) a (w.alloc (.cells #[u] e')) := by
  obtain ⟨us, h2, h3, h4⟩ := hown
  refine wpList_app hgd s x ho hT hs (h2.alloc _) _ 1 1 hx (fun _ => ⟨_, _, rfl⟩) [u] rfl (news_alloc w #[u] e') (by simpa using h1) hsmall (by simp; omega) (fun v' w' g1 g2 g3 => ?_)
  have ha : Below w.heap.size w (w.alloc (.cells #[u] e')) := (Below.refl _ _).alloc (Nat.le_refl _) _
  refine h v' w' (OwnV.app hR h3 h4 hu ha g1 g2 g3) ?_ (fun S hS b hb' hlt => ?_)
  · have hB0 : B0 ≤ w.heap.size := by omega
    exact (hb.alloc hB0 _).grown g2 (by simp; omega) (fun k hk => by have := (h2.lt k hk).1; omega)
  · exact (g2.block b (by simp; omega) (hS b hb')).trans (ha.block b hlt)

theorem Try.app22 : AppT Try.prog 22 3 1 8 := appT_mk (z := .int .i64 0) (by kernel_rfl) (by kernel_rfl) rfl (by omega) (by omega)
theorem Try.app63 : AppT Try.prog 46 22 1 24 := appT_mk (z := .slice none 0 0) (by kernel_rfl) (by kernel_rfl) rfl (by omega) (by omega)
theorem Try.app25 : AppT Try.prog 25 46 1 24 := appT_mk (z := .slice none 0 0) (by kernel_rfl) (by kernel_rfl) rfl (by omega) (by omega)

end Go.Proofs.Yteepdnamkcgndaa

namespace Go.Proofs.Yteepdnamkcgndaa
open Go.RowKit

/-- What Shape returns. -/
def shapeL (l : List Int) : List Int := (List.range (1 + (atI l 0 3).toNat)).map fun i => 1 + atI l (1 + i) 4

set_option maxHeartbeats 400000 in
theorem shape_any (l : List Int) (hl : Fit l) (v : Value) (S : Nat → Prop) (w : World) (hv : IntsV S w v l) :
    Calls Try.prog 5 #[v] w fun e w' => ∃ u, e = .returned u ∧ IntsV (w.heap.size ≤ ·) w' u (shapeL l) ∧ Below w.heap.size w w' := by
  have h0 := atI_lt l 0 3 (by omega)
  obtain ⟨n, hn⟩ := Int.eq_ofNat_of_zero_le h0.1
  have hn3 : n < 3 := by omega
  have HS : Hid (shapeL l = (List.range (1 + n)).map fun i => 1 + atI l (1 + i) 4) := by unfold shapeL; rw [hn]; rfl
  have HN := hid hn
  clear hn h0
  go_enter Try.func5, Try.ntmps5
  go_wp2
  go_loopw [3, 4] (fun u i wr => ∃ k : Nat, k ≤ 1 + n ∧ i = .int .i64 k ∧ OwnV (fun _ _ u (x : Int) => u = .int .i64 x) w.heap.size 3 wr u ((List.range k).map fun i => 1 + atI l (1 + i) 4) ∧ Below w.heap.size w wr) (fun _ i _ => 1 + n - (intOf i).toNat)
  case atStart => exact ⟨0, by omega, rfl, OwnV.nil _ _ _ _, Below.refl _ _⟩
  case round =>
    obtain ⟨k, hk, rfl, hown, hb⟩ := hrel
    have hv1 : IntsV S wr v l := hv.keep (KeepS.below hb)
    go_wp2_with fail
    refine (at_any l hl v 0 3 S wr hv1 (by omega) (by omega) (by omega)).mono ?_
    rintro e w' ⟨rfl, rfl⟩
    rw [show Int.toNat 0 = 0 from rfl, HN.out]
    by_cases hlt : k < 1 + n
    · have hb4 := atI_lt l (1 + k) 4 (by omega)
      have HT := hid (range_snoc (fun i => 1 + atI l (1 + i) 4) k)
      have hlen : ((List.range k).map fun i => 1 + atI l (1 + i) 4).length ≤ k := by simp
      generalize ((List.range k).map fun i => 1 + atI l (1 + i) 4) = us at *
      go_wp2_with fail
      refine (at_any l hl v _ 4 S wr hv1 (by omega) (by omega) (by omega)).mono ?_
      rintro e w'' ⟨rfl, rfl⟩
      rw [show ((1 : Int) + (k : Int)).toNat = 1 + k from by omega]
      generalize atI l (1 + k) 4 = x at *
      go_wp2_with (at_builtin; refine wpList_app1 steady_int rfl _ _ rfl Try.app22 rfl hown rfl (1 + x) rfl rfl (by omega) (by have := hb.size; omega) hb (Nat.le_refl _) ?_)
      intro v' w1 hown1 hb1 _
      rw [HT.out] at hown1
      clear hown HT hb hv1
      go_wp2
      go_roundw
      case rel => exact ⟨k + 1, by omega, by go_num, hown1, hb1⟩
      case measure => simp [intOf]; omega
    · obtain rfl : k = 1 + n := by omega
      have hres : IntsV (w.heap.size ≤ ·) wr u3 (shapeL l) := by rw [HS.out]; exact hown.sl steady_int
      clear hown
      go_wp2
      go_ret
      exact ⟨_, rfl, hres, hb⟩

/-- The record i of a kind whose numbers begin at p, of n values; the kind; what World returns. -/
def recL (l : List Int) (p i n : Nat) : List Int := (List.range n).map fun f => atI l (p + 1 + 4 * i + f) 3
def kindL (l : List Int) (p n : Nat) : List (List Int) := (List.range (atI l p 5).toNat).map fun i => recL l p i n
def worldL (s l : List Int) : List (List (List Int)) := (List.range s.length).map fun k => kindL l (17 * k) (s.getD k 0).toNat

/-- What Shape makes. -/
def ShapeOk (s : List Int) : Prop := s.length ≤ 3 ∧ ∀ x ∈ s, 1 ≤ x ∧ x ≤ 4
theorem shapeL_ok (l : List Int) : ShapeOk (shapeL l) := by
  have h0 := atI_lt l 0 3 (by omega)
  refine ⟨by unfold shapeL; simp; omega, fun x hx => ?_⟩
  unfold shapeL at hx
  obtain ⟨i, _, rfl⟩ := List.mem_map.1 hx
  have := atI_lt l (1 + i) 4 (by omega)
  omega

/-- A slice of numbers that has been read once: its cells, for the walk. -/
theorem IntsV.cell {S : Nat → Prop} {w : World} {a : Option Addr} {n cap : Nat} {xs : List Int} (h : IntsV S w (.slice a n cap) xs) (hn : n = xs.length) {j : Nat} (hj : j < n) :
    w.cell? ⟨slb a, slo a + j, none⟩ = some (.int .i64 (xs.getD j 0)) := by
  obtain ⟨a', cap', hv, h1, h2, h3, h4, h5⟩ := h
  cases hv
  obtain ⟨u, hu, rfl⟩ := h5 j hj
  rw [hu, List.getD_eq_getElem?_getD, List.getElem?_eq_getElem hj]
  rfl

set_option maxHeartbeats 1000000 in
theorem world_any (s : List Int) (hs : ShapeOk s) (l : List Int) (hl : Fit l) (u v : Value) (S T : Nat → Prop) (w : World) (hu : IntsV T w u s) (hv : IntsV S w v l) :
    Calls Try.prog 6 #[u, v] w fun e w' => ∃ x, e = .returned x ∧ WorldV (w.heap.size ≤ ·) w' x (worldL s l) ∧ Below w.heap.size w w' := by
  have hu0 := hu
  obtain ⟨a, cap, rfl, hok, hcap, hmax, _, _⟩ := hu
  unfold maxLen at hmax
  have hs3 := hs.1
  go_enter Try.func6, Try.ntmps6
  go_wp2
  go_loopw [5, 6, 7] (fun x at_ i wr => ∃ k p : Nat, k ≤ s.length ∧ Hid (p = 17 * k) ∧ p ≤ 51 ∧ i = .int .i64 k ∧ at_ = .int .i64 p ∧ OwnV (fun S => RowsV S) w.heap.size 46 wr x ((List.range k).map fun k => kindL l (17 * k) (s.getD k 0).toNat) ∧ Below w.heap.size w wr) (fun _ _ i _ => s.length - (intOf i).toNat)
  case atStart => exact ⟨0, 0, by omega, hid rfl, by omega, rfl, rfl, OwnV.nil _ _ _ _, Below.refl _ _⟩
  case round =>
    obtain ⟨k, p, hk, hp, hp51, rfl, rfl, hown, hb⟩ := hrel
    by_cases hlt : k < s.length
    · have hsk : 1 ≤ s.getD k 0 ∧ s.getD k 0 ≤ 4 := by
        rw [List.getD_eq_getElem?_getD, List.getElem?_eq_getElem hlt]
        exact hs.2 _ (List.getElem_mem hlt)
      obtain ⟨n, hn⟩ := Int.eq_ofNat_of_zero_le (show 0 ≤ s.getD k 0 by omega)
      have hn4 : n ≤ 4 := by omega
      have HT := hid (range_snoc (fun k => kindL l (17 * k) (s.getD k 0).toNat) k)
      have hlen : ((List.range k).map fun k => kindL l (17 * k) (s.getD k 0).toNat).length ≤ k := by simp
      generalize ((List.range k).map fun k => kindL l (17 * k) (s.getD k 0).toNat) = us at *
      have h5 := atI_lt l p 5 (by omega)
      obtain ⟨m, hm⟩ := Int.eq_ofNat_of_zero_le h5.1
      have hm5 : m < 5 := by omega
      have hp17 := hp.out
      have HK : Hid (kindL l (17 * k) (s.getD k 0).toNat = (List.range m).map fun i => recL l p i n) := by
        rw [← hp17, hn]; unfold kindL; rw [hm]; rfl
      have HM := hid hm
      have HN := hid hn
      generalize kindL l (17 * k) (s.getD k 0).toNat = kk at *
      clear hsk hn hm h5 hp17
      have hv1 : IntsV S wr v l := hv.keep (KeepS.below hb)
      have hu1 : IntsV T wr (.slice a s.length cap) s := hu0.keep (KeepS.below hb)
      obtain ⟨wo, rfl⟩ : ∃ wo : World, wo = wr := ⟨_, rfl⟩
      go_wp2
      go_loopw [8, 9] (fun x i w2 => ∃ j : Nat, j ≤ m ∧ i = .int .i64 j ∧ OwnV (fun S => IntsV S) wo.heap.size 22 w2 x ((List.range j).map fun i => recL l p i n) ∧ Below wo.heap.size wo w2) (fun _ i _ => m - (intOf i).toNat)
      case atStart => exact ⟨0, by omega, rfl, OwnV.nil _ _ _ _, Below.refl _ _⟩
      case round =>
        obtain ⟨j, hj, rfl, hown2, hb2⟩ := hrel
        have hv2 : IntsV S wr v l := hv1.keep (KeepS.below hb2)
        have hu2 : IntsV T wr (.slice a s.length cap) s := hu1.keep (KeepS.below hb2)
        obtain ⟨wm, rfl⟩ : ∃ wm : World, wm = wr := ⟨_, rfl⟩
        go_wp2_with fail
        refine (at_any l hl v p 5 S wm hv2 (by omega) (by omega) (by omega)).mono ?_
        rintro e w' ⟨rfl, rfl⟩
        rw [Int.toNat_natCast, HM.out]
        by_cases hjm : j < m
        · have HT2 := hid (range_snoc (fun i => recL l p i n) j)
          have hlen2 : ((List.range j).map fun i => recL l p i n).length ≤ j := by simp
          generalize ((List.range j).map fun i => recL l p i n) = us2 at *
          have HR : Hid (recL l p j n = (List.range n).map fun f => atI l (p + 1 + 4 * j + f) 3) := hid rfl
          generalize recL l p j n = rj at *
          go_wp2
          go_loopw [10, 11] (fun x i w3 => ∃ f : Nat, f ≤ n ∧ i = .int .i64 f ∧ OwnV (fun _ _ u (x : Int) => u = .int .i64 x) wm.heap.size 3 w3 x ((List.range f).map fun f => atI l (p + 1 + 4 * j + f) 3) ∧ Below wm.heap.size wm w3) (fun _ i _ => n - (intOf i).toNat)
          case atStart => exact ⟨0, by omega, rfl, OwnV.nil _ _ _ _, Below.refl _ _⟩
          case round =>
            obtain ⟨f, hf, rfl, hown3, hb3⟩ := hrel
            have hv3 : IntsV S wr v l := hv2.keep (KeepS.below hb3)
            have hu3 : IntsV T wr (.slice a s.length cap) s := hu2.keep (KeepS.below hb3)
            have hc := hu3.cell rfl hlt
            rw [HN.out] at hc
            by_cases hfn : f < n
            · have HT3 := hid (range_snoc (fun f => atI l (p + 1 + 4 * j + f) 3) f)
              have hlen3 : ((List.range f).map fun f => atI l (p + 1 + 4 * j + f) 3).length ≤ f := by simp
              generalize ((List.range f).map fun f => atI l (p + 1 + 4 * j + f) 3) = us3 at *
              go_wp2_with fail
              refine (at_any l hl v _ 3 S wr hv3 (by omega) (by omega) (by omega)).mono ?_
              rintro e w' ⟨rfl, rfl⟩
              rw [show ((p : Int) + 1 + 4 * (j : Int) + (f : Int)).toNat = p + 1 + 4 * j + f from by omega]
              generalize atI l (p + 1 + 4 * j + f) 3 = y at *
              go_wp2_with (at_builtin; refine wpList_app1 steady_int rfl _ _ rfl Try.app22 rfl hown3 rfl y rfl rfl (by omega) (by have := hb3.size; omega) hb3 (Nat.le_refl _) ?_)
              intro v' w1 hown4 hb4 _
              rw [HT3.out] at hown4
              clear hown3 HT3 hb3 hv3 hu3 hc
              go_wp2
              go_roundw
              case rel => exact ⟨f + 1, by omega, by go_num, hown4, hb4⟩
              case measure => simp [intOf]; omega
            · obtain rfl : f = n := by omega
              rw [← HR.out] at hown3
              have hres := hown3.sl steady_int
              have hfr := hown2.fresh hb2.size
              have hown5 := hown2.below steady_ints hb3
              have hb5 := hb2.trans (hb3.mono hb2.size)
              clear hown3 hown2 hv3 hu3 hv2 hu2
              have hres0 := hres
              obtain ⟨a3, cap3, rfl, hok3, -⟩ := hres
              go_wp2_with (at_builtin; refine wpList_app1 steady_ints rfl _ _ rfl Try.app63 rfl hown5 rfl rj (steady_ints.mono hres0 fun b _ h => hfr b h) rfl (by omega) (by have := hb5.size; omega) hb5 (Nat.le_refl _) ?_)
              intro v' w1 hown6 hb6 _
              rw [HT2.out] at hown6
              clear hown5 HT2 hb5 hb3 hres0 hfr hok3
              go_wp2
              go_roundw
              case rel => exact ⟨j + 1, by omega, by go_num, hown6, hb6⟩
              case measure => simp [intOf]; omega
        · obtain rfl : j = m := by omega
          rw [← HK.out] at hown2
          have hres := hown2.sl steady_ints
          have hfr := hown.fresh hb.size
          have hown5 := hown.below steady_rows hb2
          have hb5 := hb.trans (hb2.mono hb.size)
          clear hown2 hown hv2 hu2 hv1 hu1
          have hres0 := hres
          obtain ⟨a3, cap3, rfl, hok3, -⟩ := hres
          go_wp2_with (at_builtin; refine wpList_app1 steady_rows rfl _ _ rfl Try.app25 rfl hown5 rfl kk (steady_rows.mono hres0 fun b _ h => hfr b h) rfl (by omega) (by have := hb5.size; omega) hb5 (Nat.le_refl _) ?_)
          intro v' w1 hown6 hb6 _
          rw [HT.out] at hown6
          have hp2 : Hid (p + 17 = 17 * (k + 1)) := hid (by have := hp.out; omega)
          clear hown5 HT hb5 hb2 hres0 hfr hok3 hp
          go_wp2
          go_roundw
          case rel => exact ⟨k + 1, p + 17, by omega, hp2, by have := hp2.out; omega, by go_num, by go_num, hown6, hb6⟩
          case measure => simp [intOf]; omega
    · obtain rfl : k = s.length := by omega
      have hres : WorldV (w.heap.size ≤ ·) wr u5 (worldL s l) := hown.sl steady_rows
      clear hown
      go_wp2
      go_ret
      exact ⟨_, rfl, hres, hb⟩

end Go.Proofs.Yteepdnamkcgndaa

namespace Go.Proofs.Yteepdnamkcgndaa
open Go.RowKit

/-- The blocks of S that were there, and all new ones. -/
def Grow (S : Nat → Prop) (N : Nat) : Nat → Prop := fun b => (S b ∧ b < N) ∨ N ≤ b
theorem grow_from {B N : Nat} (h : B ≤ N) : ∀ b, Grow (B ≤ ·) N b → B ≤ b := by
  intro b hb
  rcases hb with hb | hb
  · exact hb.1
  · exact Nat.le_trans h hb

/-- What lies outside of S has stayed, and no block has gone. -/
structure Turns (S : Nat → Prop) (w w' : World) : Prop where
  os : w'.os = w.os
  tape : w'.tape = w.tape
  output : w'.output = w.output
  size : w.heap.size ≤ w'.heap.size
  block : ∀ b, ¬ S b → b < w.heap.size → w'.heap[b]? = w.heap[b]?

theorem Turns.refl (S : Nat → Prop) (w : World) : Turns S w w := ⟨rfl, rfl, rfl, Nat.le_refl _, fun _ _ _ => rfl⟩
theorem Turns.trans {S : Nat → Prop} {w w1 w2 : World} (h : Turns S w w1) (k : Turns S w1 w2) : Turns S w w2 :=
  ⟨k.os.trans h.os, k.tape.trans h.tape, k.output.trans h.output, Nat.le_trans h.size k.size, fun b hb hlt => (k.block b hb (Nat.lt_of_lt_of_le hlt h.size)).trans (h.block b hb hlt)⟩
theorem Turns.mono {S S' : Nat → Prop} {w w1 : World} (h : Turns S w w1) (hS : ∀ b, b < w.heap.size → S b → S' b) : Turns S' w w1 :=
  ⟨h.os, h.tape, h.output, h.size, fun b hb hlt => h.block b (fun hs => hb (hS b hlt hs)) hlt⟩
theorem Turns.of_below {S : Nat → Prop} {w w1 : World} (h : Below w.heap.size w w1) : Turns S w w1 := ⟨h.os, h.tape, h.output, h.size, fun b _ hlt => h.block b hlt⟩
theorem Turns.below {S : Nat → Prop} {w w1 : World} {B : Nat} (h : Turns S w w1) (hB : B ≤ w.heap.size) (hS : ∀ b, S b → B ≤ b) : Below B w w1 :=
  ⟨h.os, h.tape, h.output, h.size, fun b hb => h.block b (fun hs => by have := hS b hs; omega) (by omega)⟩
theorem Turns.keep {S T : Nat → Prop} {w w1 : World} (h : Turns S w w1) (hT : ∀ b, T b → ¬ S b) : KeepS T w w1 := fun b hb hlt => h.block b (hT b hb) hlt
theorem Turns.setCell {S : Nat → Prop} {w w1 : World} (h : Turns S w w1) (a : Addr) (v : Value) (ha : S a.block) : Turns S w (w1.setCell a v) :=
  h.trans ⟨rfl, rfl, rfl, by simp [World.setCell], fun b hb _ => Below.heap_setCell _ _ _ _ (fun e => hb (e ▸ ha))⟩
theorem Turns.of_grown {S : Nat → Prop} {w w1 : World} {row : Option Nat} (h : w.grownBy w1 row) (hr : ∀ b, row = some b → S b) : Turns S w w1 :=
  ⟨h.os, h.tape, h.output, h.size, fun b hb hlt => h.block b hlt (fun e => hb (hr b e.symm))⟩

/-- A row of numbers of the call's own, in a block of S. -/
def IntsF (S : Nat → Prop) (w : World) (v : Value) (xs : List Int) : Prop :=
  w.ownsRow 0 3 1 v xs.length (xs.map (Value.int .i64)) ∧ ∀ b, v.ownBlock = some b → S b

/-- A row of the call's own, in a block of S, whose elements lie in blocks of S that are apart from each other and from the row's own. -/
def OwnF {α : Type} (RR : (Nat → Prop) → World → Value → α → Prop) (e : TypeId) (S : Nat → Prop) (w : World) (v : Value) (xs : List α) : Prop :=
  (∀ b, v.ownBlock = some b → S b) ∧ ∃ (us : List Value) (Z : Nat → Nat), w.ownsRow 0 e 1 v xs.length us ∧ us.length = xs.length ∧
    ∀ j (h1 : j < us.length) (h2 : j < xs.length), RR (fun b => S b ∧ some b ≠ v.ownBlock ∧ Z b = j) w us[j] xs[j]

theorem ownsRow_keep {S : Nat → Prop} {w w' : World} {base : Nat} {e : TypeId} {size : Nat} {v : Value} {n : Nat} {us : List Value} (h : w.ownsRow base e size v n us) (hS : ∀ b, v.ownBlock = some b → S b) (hk : KeepS S w w') : w'.ownsRow base e size v n us := by
  refine ⟨h.1, ?_⟩
  rcases h.2 with h2 | ⟨g, cap, cur, rfl, hb, hg, r⟩
  · exact .inl h2
  · exact .inr ⟨g, cap, cur, rfl, hb, by rw [hk g (hS g rfl) (Array.getElem?_eq_some_iff.1 hg).1]; exact hg, r⟩

theorem steady_intsF : Steady (α := List Int) IntsF :=
  ⟨fun h k => ⟨ownsRow_keep h.1 h.2 k, h.2⟩, fun h k => ⟨h.1, fun b hb => k b (h.1.lt b hb).2 (h.2 b hb)⟩⟩

theorem steady_ownF {α : Type} {RR : (Nat → Prop) → World → Value → α → Prop} (hR : Steady RR) (e : TypeId) : Steady (α := List α) (OwnF RR e) where
  keep := by
    rintro S w w' v xs ⟨h1, us, Z, h2, h3, h4⟩ hk
    exact ⟨h1, us, Z, ownsRow_keep h2 h1 hk, h3, fun j g1 g2 => hR.keep (h4 j g1 g2) (fun b hb hlt => hk b hb.1 hlt)⟩
  mono := by
    rintro S S' w v xs ⟨h1, us, Z, h2, h3, h4⟩ hS
    exact ⟨fun b hb => hS b (h2.lt b hb).2 (h1 b hb), us, Z, h2, h3, fun j g1 g2 => hR.mono (h4 j g1 g2) (fun b hlt hb => ⟨hS b hlt hb.1, hb.2⟩)⟩

abbrev RowsF := OwnF IntsF 22
abbrev WorldF := OwnF RowsF 46
theorem steady_rowsF : Steady (α := List (List Int)) RowsF := steady_ownF steady_intsF _
theorem steady_worldF : Steady (α := List (List (List Int))) WorldF := steady_ownF steady_rowsF _

/-- It reads as a slice. -/
theorem ownsRow_sl {α : Type} {R : World → Value → α → Prop} {S : Nat → Prop} {w : World} {base : Nat} {e : TypeId} {v : Value} {us : List Value} {xs : List α}
    (h : w.ownsRow base e 1 v xs.length us) (hS : ∀ b, v.ownBlock = some b → S b) (hl : us.length = xs.length) (hR : ∀ j (h1 : j < us.length) (h2 : j < xs.length), R w us[j] xs[j]) : SlV R S w v xs := by
  obtain ⟨h1, h2⟩ := h
  simp only [Nat.mul_one] at h1
  rcases h2 with ⟨rfl, h0⟩ | ⟨g, cap, cur, rfl, hb, hg, hn, hc, hs, ht⟩
  · obtain rfl : xs = [] := List.eq_nil_of_length_eq_zero h0
    exact SlV.nil R S w
  · simp only [Nat.mul_one] at hs ht
    refine ⟨some ⟨g, 0, none⟩, cap, rfl, fun _ => ⟨g, 0, rfl⟩, by omega, hc, fun _ => hS g rfl, fun j hj => ?_⟩
    refine ⟨us[j]'(by omega), ?_, hR j (by omega) hj⟩
    rw [slb_some, slo_some, Nat.zero_add, cell_of_row w g j cur e (0, 0) hg]
    have h3 : us[j]? = some (us[j]'(by omega)) := List.getElem?_eq_getElem (by omega)
    rw [← h3, ← ht, List.getElem?_take, if_pos (by omega)]
    simp

theorem IntsF.sl {S : Nat → Prop} {w : World} {v : Value} {xs : List Int} (h : IntsF S w v xs) : IntsV S w v xs :=
  ownsRow_sl h.1 h.2 (by simp) (fun j h1 h2 => by simp)
theorem OwnF.sl {α : Type} {RR : (Nat → Prop) → World → Value → α → Prop} (hR : Steady RR) {R : (Nat → Prop) → World → Value → α → Prop} (hS : ∀ {S w u x}, RR S w u x → R S w u x)
    {e : TypeId} {S : Nat → Prop} {w : World} {v : Value} {xs : List α} (h : OwnF RR e S w v xs) : SlV (R S) S w v xs := by
  obtain ⟨h1, us, Z, h2, h3, h4⟩ := h
  exact ownsRow_sl h2 h1 h3 (fun j g1 g2 => hS (hR.mono (h4 j g1 g2) (fun b _ hb => hb.1)))
theorem RowsF.sl {S : Nat → Prop} {w : World} {v : Value} {xs : List (List Int)} (h : RowsF S w v xs) : RowsV S w v xs := OwnF.sl (R := fun S => IntsV S) steady_intsF (fun h => IntsF.sl h) h
theorem WorldF.sl {S : Nat → Prop} {w : World} {v : Value} {xs : List (List (List Int))} (h : WorldF S w v xs) : WorldV S w v xs := OwnF.sl (R := fun S => RowsV S) steady_rowsF (fun h => RowsF.sl h) h

theorem OwnF.nil {α : Type} (RR : (Nat → Prop) → World → Value → α → Prop) (e : TypeId) (S : Nat → Prop) (w : World) : OwnF RR e S w (.slice none 0 0) [] :=
  ⟨fun b hb => by simp [Value.ownBlock] at hb, [], fun _ => 0, World.ownsRow_nil _ _ _ _, rfl, fun j h => absurd h (by simp)⟩
theorem IntsF.nil (S : Nat → Prop) (w : World) : IntsF S w (.slice none 0 0) [] := ⟨World.ownsRow_nil _ _ _ _, fun b hb => by simp [Value.ownBlock] at hb⟩

/-- A cell of an owned row is written. -/
theorem ownsRow_set {w : World} {base : Nat} {e : TypeId} {g n cap : Nat} {us : List Value} (h : w.ownsRow base e 1 (.slice (some ⟨g, 0, none⟩) n cap) n us) (j : Nat) (u : Value) :
    (w.setCell ⟨g, j, none⟩ u).ownsRow base e 1 (.slice (some ⟨g, 0, none⟩) n cap) n (us.set j u) := by
  obtain ⟨h1, h2⟩ := h
  refine ⟨by simpa using h1, ?_⟩
  rcases h2 with ⟨h2, _⟩ | ⟨g', cap', cur, hv, hb, hg, hn, hc, hs, ht⟩
  · cases h2
  · cases hv
    refine .inr ⟨g, cap, cur.setIfInBounds j u, rfl, hb, heap_setCell_same w g j cur e u hg, hn, hc, by simpa using hs, ?_⟩
    rw [Array.toList_setIfInBounds, ← ht]
    exact List.take_set ..

/-- An owned row of at least one element is a slice at the head of its block; its cells. -/
theorem ownsRow_form {w : World} {base : Nat} {e : TypeId} {v : Value} {n : Nat} {us : List Value} (h : w.ownsRow base e 1 v n us) (hn : 0 < n) :
    ∃ g cap, v = .slice (some ⟨g, 0, none⟩) n cap ∧ n ≤ cap ∧ cap ≤ maxLen ∧ w.shape? g = some (e, cap) ∧ ∀ j (hj : j < us.length), w.cell? ⟨g, j, none⟩ = some us[j] ∧ w.frozen? ⟨g, j, none⟩ = false := by
  obtain ⟨h1, h2⟩ := h
  rcases h2 with ⟨_, h2⟩ | ⟨g, cap, cur, hv, hb, hg, hn, hc, hs, ht⟩
  · omega
  · simp only [Nat.mul_one] at h1 hs ht
    refine ⟨g, cap, hv, hn, hc, by simp [World.shape?, hg, hs], fun j hj => ⟨?_, frozen_of_row w g j cur e hg⟩⟩
    rw [cell_of_row w g j cur e (0, 0) hg]
    have h3 : us[j]? = some us[j] := List.getElem?_eq_getElem hj
    rw [← h3, ← ht, List.getElem?_take, if_pos (by omega)]
    simp

/-- ONE ELEMENT IS BORROWED: the cell in which its value stands; the value and its blocks; and how it is handed back: changed where it lies, or a new value stored in the cell. -/
theorem OwnF.borrow {α : Type} {RR : (Nat → Prop) → World → Value → α → Prop} (hR : Steady RR) {e : TypeId} {S : Nat → Prop} {w : World} {v : Value} {xs : List α} (h : OwnF RR e S w v xs) (j : Nat) (hj : j < xs.length) :
    ∃ g cap u T, v = .slice (some ⟨g, 0, none⟩) xs.length cap ∧ xs.length ≤ cap ∧ cap ≤ maxLen ∧ S g ∧ w.cell? ⟨g, j, none⟩ = some u ∧ w.frozen? ⟨g, j, none⟩ = false ∧ RR T w u xs[j] ∧ (∀ b, T b → S b ∧ b ≠ g ∧ b < w.heap.size) ∧
      (∀ w2 x', Turns T w w2 → RR (Grow T w.heap.size) w2 u x' → OwnF RR e (Grow S w.heap.size) w2 v (xs.set j x')) ∧
      (∀ w2 u' x', Turns T w w2 → RR (Grow T w.heap.size) w2 u' x' → w2.cell? ⟨g, j, none⟩ = some u ∧ w2.frozen? ⟨g, j, none⟩ = false ∧ OwnF RR e (Grow S w.heap.size) (w2.setCell ⟨g, j, none⟩ u') v (xs.set j x') ∧ Turns (fun b => T b ∨ b = g) w (w2.setCell ⟨g, j, none⟩ u')) := by
  obtain ⟨h1, us, Z, h2, h3, h4⟩ := h
  obtain ⟨g, cap, rfl, h5, h6, _, h7⟩ := ownsRow_form h2 (by omega)
  have hg : S g := h1 g rfl
  have hgl : g < w.heap.size := (h2.lt g rfl).2
  have hj' : j < us.length := by omega
  obtain ⟨c1, c2⟩ := h7 j hj'
  let T : Nat → Prop := fun b => (S b ∧ some b ≠ some g ∧ Z b = j) ∧ b < w.heap.size
  have hT : ∀ b, T b → S b ∧ b ≠ g ∧ b < w.heap.size := fun b hb => ⟨hb.1.1, fun e => hb.1.2.1 (by rw [e]), hb.2⟩
  have hgT : ¬ T g := fun hb => (hT g hb).2.1 rfl
  -- the other elements, and the row itself, behind a turn of T
  have row : ∀ w2, Turns T w w2 → w2.ownsRow 0 e 1 (.slice (some ⟨g, 0, none⟩) xs.length cap) xs.length us := fun w2 ht =>
    ownsRow_keep (S := fun b => b = g) h2 (fun b hb => by simpa [Value.ownBlock] using hb.symm) (ht.keep fun b hb => by rw [hb]; exact hgT)
  have back : ∀ w2 w3 (u' : Value) x', Turns T w w2 → RR (Grow T w.heap.size) w2 u' x' → (∀ b, b ≠ g → b < w2.heap.size → w3.heap[b]? = w2.heap[b]?) →
      w3.ownsRow 0 e 1 (.slice (some ⟨g, 0, none⟩) xs.length cap) xs.length (us.set j u') → OwnF RR e (Grow S w.heap.size) w3 (.slice (some ⟨g, 0, none⟩) xs.length cap) (xs.set j x') := by
    intro w2 w3 u' x' ht hr hk hrow
    refine ⟨fun b hb => ?_, us.set j u', fun b => if b < w.heap.size then Z b else j, by simpa using hrow, by simpa using h3, fun i g1 g2 => ?_⟩
    · obtain rfl : g = b := by simpa [Value.ownBlock] using hb
      exact .inl ⟨hg, hgl⟩
    · by_cases hij : j = i
      · subst hij
        simp only [List.getElem_set_self]
        have hr2 := hR.mono (S' := fun b => Grow S w.heap.size b ∧ some b ≠ some g ∧ (if b < w.heap.size then Z b else j) = j) hr (fun b _ hb => by
          rcases hb with hb | hb
          · exact ⟨.inl ⟨hb.1.1.1, hb.2⟩, hb.1.1.2.1, by rw [if_pos hb.2]; exact hb.1.1.2.2⟩
          · exact ⟨.inr hb, fun e => by have := Option.some.inj e; omega, by rw [if_neg (by omega)]⟩)
        exact hR.keep hr2 (fun b hb hlt => hk b (fun e => hb.2.1 (by rw [e]; rfl)) hlt)
      · have g1' : i < us.length := by simpa using g1
        have g2' : i < xs.length := by simpa using g2
        rw [List.getElem_set_ne hij, List.getElem_set_ne hij]
        have hr1 := hR.mono (S' := fun b => (S b ∧ some b ≠ some g ∧ Z b = i) ∧ b < w.heap.size) (h4 i g1' g2') (fun b hlt hb => ⟨hb, hlt⟩)
        have hr2 := hR.keep hr1 (ht.keep fun b hb hb' => hij (hb'.1.2.2.symm.trans hb.1.2.2))
        have hr3 := hR.keep (w' := w3) hr2 (fun b hb hlt => hk b (fun e => hb.1.2.1 (by rw [e])) hlt)
        exact hR.mono hr3 (fun b _ hb => ⟨.inl ⟨hb.1.1, hb.2⟩, hb.1.2.1, by show (if b < w.heap.size then Z b else j) = i; rw [if_pos hb.2]; exact hb.1.2.2⟩)
  refine ⟨g, cap, us[j], T, rfl, h5, h6, hg, c1, c2, hR.mono (h4 j hj' hj) (fun b hlt hb => ⟨hb, hlt⟩), hT, fun w2 x' ht hr => ?_, fun w2 u' x' ht hr => ?_⟩
  · exact back w2 w2 us[j] x' ht hr (fun _ _ _ => rfl) (by rw [List.set_getElem_self]; exact row w2 ht)
  · have c3 : w2.heap[g]? = w.heap[g]? := ht.block g hgT hgl
    refine ⟨(World.cell?_of_block (a := ⟨g, j, none⟩) c3).trans c1, (World.frozen?_of_block (a := ⟨g, j, none⟩) c3).trans c2, ?_, ?_⟩
    · exact back w2 _ u' x' ht hr (fun b hb _ => Below.heap_setCell w2 ⟨g, j, none⟩ u' b hb) (ownsRow_set (row w2 ht) j u')
    · exact (ht.mono fun b _ hb => .inl hb).setCell ⟨g, j, none⟩ u' (.inr rfl)

/-- The cells of a slice value that reads as a slice. -/
theorem SlV.news {α : Type} {R : World → Value → α → Prop} {S : Nat → Prop} {w : World} {ao : Option Addr} {m c : Nat} {ys : List α} (h : SlV R S w (.slice ao m c) ys) :
    m = ys.length ∧ Slok ao m ∧ ∃ us : List Value, us.length = m ∧ (∀ j u, us[j]? = some u → w.cell? ⟨slb ao, slo ao + j, none⟩ = some u) ∧ ∀ j (h1 : j < us.length) (h2 : j < ys.length), R w us[j] ys[j] := by
  obtain ⟨a, cap, hv, h1, h2, h3, h4, h5⟩ := h
  cases hv
  refine ⟨rfl, h1, (List.range ys.length).map (fun j => (w.cell? ⟨slb ao, slo ao + j, none⟩).getD undef), by simp, fun j u hu => ?_, fun j g1 g2 => ?_⟩
  · have hj : j < ys.length := by
      have := (List.getElem?_eq_some_iff.1 hu).1
      simpa using this
    obtain ⟨u', hu', _⟩ := h5 j hj
    rw [List.getElem?_eq_getElem (by simpa using hj)] at hu
    simp only [List.getElem_map, List.getElem_range] at hu
    rw [hu'] at hu
    rw [hu', ← hu]
    rfl
  · obtain ⟨u', hu', hr⟩ := h5 j g2
    simp only [List.getElem_map, List.getElem_range, hu']
    exact hr

section
variable {P : Program} {t e : TypeId} {bytes : Nat} {α : Type} {RR : (Nat → Prop) → World → Value → α → Prop} {w : World} {ops : Array Oper} {rest : List Oper} {o : Oper} {a : Act} {Q : Exit → Act → World → Prop}

/-- 'append(s, x...)' to a row whose elements are apart; the new elements lie in blocks that are newer than the row's world. -/
theorem wpList_appF (hR : Steady RR) (hgd : o.guard = none) (s x : Operand)
    (ho : o.op = .call { callee := .builtin .append, args := #[s, x], argTypes := #[t, t] }) (hT : AppT P t e 1 bytes)
    {S : Nat → Prop} {w1 : World} {v : Value} {xs : List α} (hs : a.eval s = v) (hown : OwnF RR e S w1 v xs) (hb : Below w1.heap.size w1 w)
    {ao : Option Addr} {m c : Nat} (hx : a.eval x = .slice ao m c) (hok : Slok ao m) (news : List Value) (hl : news.length = m)
    (hnews : ∀ j u, news[j]? = some u → w.cell? ⟨slb ao, slo ao + j, none⟩ = some u) (h1 : ∀ u ∈ news, u.oneCell' = true)
    (ys : List α) (hy : ys.length = m) (Zn : Nat → Nat) (hu : ∀ i (g1 : i < news.length) (g2 : i < ys.length), RR (fun b => w1.heap.size ≤ b ∧ Zn b = i) w news[i] ys[i])
    (hsmall : xs.length + m ≤ 1000000000)
    (h : ∀ v' w', OwnF RR e (Grow S w1.heap.size) w' v' (xs ++ ys) → Turns (fun b => some b = v.ownBlock) w w' → wpList P ops Q rest (a.put o.dst v') w') :
    wpList P ops Q (o :: rest) a w := by
  obtain ⟨f1, us, Z, f2, f3, f4⟩ := hown
  have hsz := hb.size
  have f2' : w.ownsRow 0 e 1 v xs.length us := ownsRow_keep (S := fun _ => True) f2 (fun _ _ => trivial) (KeepS.below hb)
  refine wpList_app hgd s x ho hT hs f2' ao m c hx hok news (by simpa using hl) hnews h1 hsmall (Nat.zero_le _) (fun v' w' g1 g2 g3 => ?_)
  refine h v' w' ⟨fun b hb' => ?_, us ++ news, fun b => if b < w1.heap.size then Z b else xs.length + Zn b, ?_, ?_, fun j k1 k2 => ?_⟩ (Turns.of_grown g2 fun b hb' => hb'.symm)
  · rcases g3 with g3 | g3
    · rw [g3] at hb'; exact .inl ⟨f1 b hb', (f2.lt b hb').2⟩
    · rw [g3] at hb'; exact .inr (by have := Option.some.inj hb'; omega)
  · rw [List.length_append, hy]; exact g1
  · simp [f3, hl, hy]
  · have other : ∀ {u y}, ∀ S' : Nat → Prop, RR S' w u y → (∀ b, b < w.heap.size → S' b → some b ≠ v.ownBlock) → (∀ b, b < w.heap.size → S' b → Grow S w1.heap.size b ∧ (if b < w1.heap.size then Z b else xs.length + Zn b) = j) →
        RR (fun b => Grow S w1.heap.size b ∧ some b ≠ v'.ownBlock ∧ (if b < w1.heap.size then Z b else xs.length + Zn b) = j) w' u y := by
      intro u y S' hr hne hS'
      have r1 := hR.mono (S' := fun b => S' b ∧ b < w.heap.size) hr (fun b hlt hb' => ⟨hb', hlt⟩)
      have r2 := hR.keep (w' := w') r1 (fun b hb' _ => g2.block b hb'.2 (hne b hb'.2 hb'.1))
      refine hR.mono r2 (fun b _ hb' => ⟨(hS' b hb'.2 hb'.1).1, ?_, (hS' b hb'.2 hb'.1).2⟩)
      rcases g3 with g3 | g3
      · rw [g3]; exact hne b hb'.2 hb'.1
      · rw [g3]; intro e'; have := Option.some.inj e'; omega
    by_cases hj : j < us.length
    · rw [List.getElem_append_left hj, List.getElem_append_left (by omega)]
      have r0 := hR.mono (S' := fun b => (S b ∧ some b ≠ v.ownBlock ∧ Z b = j) ∧ b < w1.heap.size) (f4 j hj (by omega)) (fun b hlt hb' => ⟨hb', hlt⟩)
      have r1 := hR.keep (w' := w) r0 (fun b hb' _ => hb.block b hb'.2)
      exact other _ r1 (fun b _ hb' => hb'.1.2.1) (fun b _ hb' => ⟨.inl ⟨hb'.1.1, hb'.2⟩, by rw [if_pos hb'.2]; exact hb'.1.2.2⟩)
    · have k1' : j < us.length + news.length := by simpa using k1
      rw [List.getElem_append_right (by omega), List.getElem_append_right (by omega)]
      have e1 : j - us.length = j - xs.length := by omega
      have hr := hu (j - us.length) (by omega) (by omega)
      simp only [e1] at hr ⊢
      refine other _ hr (fun b _ hb' e' => ?_) (fun b _ hb' => ⟨.inr hb'.1, by rw [if_neg (by omega), hb'.2]; omega⟩)
      have := (f2.lt b e'.symm).2
      omega

/-- 'append(s, x)': one new element. -/
theorem wpList_appF1 (hR : Steady RR) (hgd : o.guard = none) (s x : Operand)
    (ho : o.op = .call { callee := .builtin .append, args := #[s, x], argTypes := #[t, t] }) (hT : AppT P t e 1 bytes)
    {S : Nat → Prop} {w1 : World} {v : Value} {xs : List α} (hs : a.eval s = v) (hown : OwnF RR e S w1 v xs) (hb : Below w1.heap.size w1 w)
    {u : Value} {e' : TypeId} (hx : a.eval x = .slice (some ⟨w.heap.size, 0, none⟩) 1 1) (y : α) (hu : RR (fun b => w1.heap.size ≤ b) w u y) (h1 : u.oneCell' = true)
    (hsmall : xs.length + 1 ≤ 1000000000)
    (h : ∀ v' w', OwnF RR e (Grow S w1.heap.size) w' v' (xs ++ [y]) → Turns (fun b => some b = v.ownBlock) w w' → wpList P ops Q rest (a.put o.dst v') w') :
    wpList P ops Q (o :: rest) a (w.alloc (.cells #[u] e')) := by
  have ha : Below w.heap.size w (w.alloc (.cells #[u] e')) := (Below.refl _ _).alloc (Nat.le_refl _) _
  refine wpList_appF hR hgd s x ho hT hs hown (hb.trans (ha.mono hb.size)) hx (fun _ => ⟨_, _, rfl⟩) [u] rfl (news_alloc w #[u] e') (by simpa using h1) [y] rfl (fun _ => 0) ?_ hsmall (fun v' w' g1 g2 => h v' w' g1 ((Turns.of_below ha).trans ⟨g2.os, g2.tape, g2.output, g2.size, g2.block⟩))
  intro i g1 g2
  obtain rfl : i = 0 := by simp at g1; omega
  exact hR.mono (hR.keep hu (KeepS.below ha)) (fun b _ hb' => ⟨hb', rfl⟩)

/-- 'append(s, x...)' of numbers. -/
theorem wpList_appI (hgd : o.guard = none) (s x : Operand)
    (ho : o.op = .call { callee := .builtin .append, args := #[s, x], argTypes := #[t, t] }) (hT : AppT P t 3 1 bytes)
    {S : Nat → Prop} {w1 : World} {v : Value} {xs : List Int} (hs : a.eval s = v) (hown : IntsF S w1 v xs) (hb : Below w1.heap.size w1 w)
    {ao : Option Addr} {m c : Nat} (hx : a.eval x = .slice ao m c) {T : Nat → Prop} {ys : List Int} (hy : IntsV T w (.slice ao m c) ys)
    (hsmall : xs.length + m ≤ 1000000000)
    (h : ∀ v' w', IntsF (Grow S w1.heap.size) w' v' (xs ++ ys) → Turns (fun b => some b = v.ownBlock) w w' → wpList P ops Q rest (a.put o.dst v') w') :
    wpList P ops Q (o :: rest) a w := by
  obtain ⟨rfl, hok, us, l1, l2, l3⟩ := SlV.news hy
  have hus : us = ys.map (Value.int .i64) := by
    refine List.ext_getElem (by simp [l1]) (fun i g1 g2 => ?_)
    simpa using l3 i g1 (by simpa using g2)
  have hsz := hb.size
  have f2' : w.ownsRow 0 3 1 v xs.length (xs.map (Value.int .i64)) := ownsRow_keep (S := fun _ => True) hown.1 (fun _ _ => trivial) (KeepS.below hb)
  refine wpList_app hgd s x ho hT hs f2' ao ys.length c hx hok us (by simpa using l1) l2 ?_ hsmall (Nat.zero_le _) (fun v' w' g1 g2 g3 => h v' w' ⟨?_, fun b hb' => ?_⟩ (Turns.of_grown g2 fun b hb' => hb'.symm))
  · rw [hus]; intro u hu; obtain ⟨y, _, rfl⟩ := List.mem_map.1 hu; rfl
  · rw [List.length_append, List.map_append, ← hus]; exact g1
  · rcases g3 with g3 | g3
    · rw [g3] at hb'; exact .inl ⟨hown.2 b hb', (hown.1.lt b hb').2⟩
    · rw [g3] at hb'; exact .inr (by have := Option.some.inj hb'; omega)
end

end Go.Proofs.Yteepdnamkcgndaa
