/- What applying changes does, in lists. -/
import Derived.Test.YtagnjhhbbjbhcaaForm
import Derived.Test.YtagnjhhbbjbhcaaEqual
import Derived.Test.YtagnjhhbbjbhcaaTree
namespace Go.Proofs.Ytagnjhhbbjbhcaa
open Go.RowKit

/-- The records of a change's kind. -/
abbrev rowsC (V : List (List (List Int))) (c : Chg) : List (List Int) := V.getD c.kind.toNat []
/-- The kind of a change is one of the world's. -/
def KnownC (V : List (List (List Int))) (c : Chg) : Prop := 0 ≤ c.kind ∧ c.kind < V.length
instance (V : List (List (List Int))) (c : Chg) : Decidable (KnownC V c) := by unfold KnownC; exact inferInstance
/-- A change that takes or adds a record has as many values as the records of its kind. -/
def MisC (V : List (List (List Int))) (c : Chg) : Prop := c.field < 0 ∧ KnownC V c ∧ 0 < (rowsC V c).length ∧ c.values.length ≠ ((rowsC V c).headD []).length
instance (V : List (List (List Int))) (c : Chg) : Decidable (MisC V c) := by unfold MisC; exact inferInstance
/-- The error of a change at a world. -/
def fitsE (V : List (List (List Int))) (c : Chg) : Int :=
  if ¬ FormedC c ∨ MisC V c then 2
  else if ¬ KnownC V c then 5
  else if c.field = -1 then (if c.index ≠ (rowsC V c).length then 5 else 0)
  else if c.field = -2 then (if (rowsC V c).length = 0 ∨ c.index ≠ (rowsC V c).length - 1 then 5 else if (rowsC V c).getD c.index.toNat [] ≠ c.values then 16 else 0)
  else if c.index < 0 ∨ ((rowsC V c).length : Int) ≤ c.index ∨ (((rowsC V c).headD []).length : Int) ≤ c.field then 5
  else if ((rowsC V c).getD c.index.toNat []).getD c.field.toNat 0 ≠ c.old then 16 else 0
/-- The world behind a change that fits. -/
def doC (V : List (List (List Int))) (c : Chg) : List (List (List Int)) :=
  V.set c.kind.toNat (if c.field = -1 then rowsC V c ++ [c.values] else if c.field = -2 then (rowsC V c).take c.index.toNat
    else (rowsC V c).set c.index.toNat (((rowsC V c).getD c.index.toNat []).set c.field.toNat c.new))
/-- The changes one behind the other: the error, and the world. -/
def runC : List (List (List Int)) → List Chg → Int × List (List (List Int))
  | V, [] => (0, V)
  | V, c :: cs => if fitsE V c ≠ 0 then (fitsE V c, V) else runC (doC V c) cs
/-- What Apply returns. -/
def applyL (V : List (List (List Int))) (cs : List Chg) : Int × List (List (List Int)) :=
  if ¬ ShapedW V then (2, []) else if 8192 < cs.length then (4, []) else
    if (runC V cs).1 ≠ 0 then ((runC V cs).1, []) else if 512 < total (runC V cs).2 then (4, []) else runC V cs

/-- The records of a kind are of one length, of 1 to 10 values. -/
def EvenW (V : List (List (List Int))) : Prop := ∀ rows ∈ V, ∀ r ∈ rows, 1 ≤ r.length ∧ r.length ≤ 10 ∧ r.length = (rows.headD []).length

theorem ShapedW.even {V : List (List (List Int))} (h : ShapedW V) : EvenW V := fun rows hr r hr' => h.1 rows hr r hr'

end Go.Proofs.Ytagnjhhbbjbhcaa
