/- Words for slices in memory that are read: what a slice value holds, said of cells; and how it stays when other blocks are written. -/
import Derived.Test.YtagnjhhbbjbhcaaRows
import Derived.WalkKit
import Derived.WalkSpells
import Derived.WalkLawsBesides
namespace Go.Proofs.Ytagnjhhbbjbhcaa
open Go.RowKit

theorem hid {p : Prop} (h : p) : Hid p := h

theorem bneF {a b : Int} (h : a = b) : (a != b) = false := by simpa using h
theorem bneT {a b : Int} (h : a ≠ b) : (a != b) = true := by simpa using h
theorem beqT {a b : Int} (h : a = b) : (a == b) = true := by simpa using h
theorem beqF {a b : Int} (h : a ≠ b) : (a == b) = false := by simpa using h

/-- The block and the offset of a slice's base (0 for nil). -/
def slb (a : Option Addr) : Nat := (a.getD ⟨0, 0, none⟩).block
def slo (a : Option Addr) : Nat := (a.getD ⟨0, 0, none⟩).off
@[simp, go_sem] theorem slb_some (b o : Nat) (s : Option Nat) : slb (some ⟨b, o, s⟩) = b := rfl
@[simp, go_sem] theorem slo_some (b o : Nat) (s : Option Nat) : slo (some ⟨b, o, s⟩) = o := rfl
/-- A slice of n elements has a base, if it has an element. -/
def Slok (a : Option Addr) (n : Nat) : Prop := 0 < n → ∃ b o, a = some ⟨b, o, none⟩

@[go_sem] theorem run_indexAt_var {P : Program} (w : World) (t : TypeId) (a : Option Addr) (len cap : Nat) (k : IntKind) (i : Int)
    (h : P.underlying t = some (.slice (P.elem t))) (hok : Slok a len) (h0 : 0 ≤ i) (h1 : i < len) :
    (Instr.indexAt t (.slice a len cap) (.int k i)).run P w =
      ((sizeOf (P.elem t)).run P w).andThen fun s w => .ok (.pointer (some ⟨slb a, slo a + i.toNat * s, none⟩)) w := by
  obtain ⟨b, o, rfl⟩ := hok (by omega)
  rw [run_indexAt_slice w t _ len cap k i h, if_pos ⟨h0, h1⟩]
  simp [Addr.add_lit]

/-- What the blocks of S hold has stayed. -/
def KeepS (S : Nat → Prop) (w w' : World) : Prop := ∀ b, S b → b < w.heap.size → w'.heap[b]? = w.heap[b]?
theorem KeepS.refl (S : Nat → Prop) (w : World) : KeepS S w w := fun _ _ _ => rfl
theorem KeepS.of_below {S : Nat → Prop} {w w' : World} {B : Nat} (h : Below B w w') (hS : ∀ b, S b → b < B) : KeepS S w w' := fun b hb _ => h.block b (hS b hb)
theorem KeepS.below {S : Nat → Prop} {w w' : World} (h : Below w.heap.size w w') : KeepS S w w' := fun b _ hlt => h.block b hlt
theorem KeepS.of_grown {S : Nat → Prop} {w w' : World} {row : Option Nat} (h : w.grownBy w' row) (hS : ∀ b, S b → some b ≠ row) : KeepS S w w' := fun b hb hlt => h.block b hlt (hS b hb)

/-- v is a slice of the elements xs, each of one cell; R says what a cell's value is; the cells lie in a block of S. -/
def SlV {α : Type} (R : World → Value → α → Prop) (S : Nat → Prop) (w : World) (v : Value) (xs : List α) : Prop :=
  ∃ a cap, v = .slice a xs.length cap ∧ Slok a xs.length ∧ xs.length ≤ cap ∧ cap ≤ maxLen ∧ (0 < xs.length → S (slb a)) ∧
    ∀ j (h : j < xs.length), ∃ u, w.cell? ⟨slb a, slo a + j, none⟩ = some u ∧ R w u xs[j]

theorem SlV.keep {α : Type} {R : World → Value → α → Prop} {S : Nat → Prop} {w w' : World} {v : Value} {xs : List α}
    (h : SlV R S w v xs) (hk : KeepS S w w') (hR : ∀ u x, R w u x → R w' u x) : SlV R S w' v xs := by
  obtain ⟨a, cap, rfl, h1, h2, h3, h4, h5⟩ := h
  refine ⟨a, cap, rfl, h1, h2, h3, h4, fun j hj => ?_⟩
  obtain ⟨u, hu, hr⟩ := h5 j hj
  refine ⟨u, ?_, hR _ _ hr⟩
  rw [World.cell?_of_block (w := w) (a := ⟨slb a, slo a + j, none⟩) (hk _ (h4 (by omega)) (World.block_lt_of_cell? w ⟨slb a, slo a + j, none⟩ hu))]
  exact hu

theorem SlV.mono {α : Type} {R R' : World → Value → α → Prop} {S S' : Nat → Prop} {w : World} {v : Value} {xs : List α}
    (h : SlV R S w v xs) (hS : ∀ b, b < w.heap.size → S b → S' b) (hR : ∀ u x, R w u x → R' w u x) : SlV R' S' w v xs := by
  obtain ⟨a, cap, rfl, h1, h2, h3, h4, h5⟩ := h
  refine ⟨a, cap, rfl, h1, h2, h3, fun h0 => ?_, fun j hj => ?_⟩
  · obtain ⟨u, hu, _⟩ := h5 0 h0
    exact hS _ (World.block_lt_of_cell? w ⟨slb a, slo a + 0, none⟩ hu) (h4 h0)
  · obtain ⟨u, hu, hr⟩ := h5 j hj
    exact ⟨u, hu, hR _ _ hr⟩

theorem SlV.nil {α : Type} (R : World → Value → α → Prop) (S : Nat → Prop) (w : World) : SlV R S w (.slice none 0 0) [] :=
  ⟨none, 0, rfl, fun h => absurd h (by simp), Nat.le_refl _, Nat.zero_le _, fun h => absurd h (by simp), fun j h => absurd h (by simp)⟩

/-- A slice of numbers. -/
abbrev IntsV (S : Nat → Prop) := SlV (fun _ u (x : Int) => u = .int .i64 x) S
/-- A slice of slices of numbers: the records of a kind. -/
abbrev RowsV (S : Nat → Prop) := SlV (IntsV S) S
/-- A world. -/
abbrev WorldV (S : Nat → Prop) := SlV (RowsV S) S
/-- Any block. -/
abbrev AnyB : Nat → Prop := fun _ => True

theorem IntsV.keep {S w w' v xs} (h : IntsV S w v xs) (hk : KeepS S w w') : IntsV S w' v xs := SlV.keep h hk fun _ _ h => h
theorem RowsV.keep {S w w' v xs} (h : RowsV S w v xs) (hk : KeepS S w w') : RowsV S w' v xs := SlV.keep h hk fun _ _ h => IntsV.keep h hk
theorem WorldV.keep {S w w' v xs} (h : WorldV S w v xs) (hk : KeepS S w w') : WorldV S w' v xs := SlV.keep h hk fun _ _ h => RowsV.keep h hk
theorem IntsV.mono {S S' w v xs} (h : IntsV S w v xs) (hS : ∀ b, b < w.heap.size → S b → S' b) : IntsV S' w v xs := SlV.mono h hS fun _ _ h => h
theorem RowsV.mono {S S' w v xs} (h : RowsV S w v xs) (hS : ∀ b, b < w.heap.size → S b → S' b) : RowsV S' w v xs := SlV.mono h hS fun _ _ h => IntsV.mono h hS
theorem WorldV.mono {S S' w v xs} (h : WorldV S w v xs) (hS : ∀ b, b < w.heap.size → S b → S' b) : WorldV S' w v xs := SlV.mono h hS fun _ _ h => RowsV.mono h hS

end Go.Proofs.Ytagnjhhbbjbhcaa
