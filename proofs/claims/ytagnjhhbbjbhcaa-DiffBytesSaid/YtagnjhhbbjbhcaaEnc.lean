/- Encodings of numbers, of lists of numbers, and of changes, as plain lists. -/
import Derived.Test.YtagnjhhbbjbhcaaA2
namespace Go.Proofs.Ytagnjhhbbjbhcaa
open Go.RowKit

/-- How many bytes a number takes that is below 256^8. -/
def bytesN (m : Nat) : Nat :=
  if m = 0 then 0 else if m < 256 then 1 else if m < 65536 then 2 else if m < 16777216 then 3 else if m < 4294967296 then 4 else if m < 1099511627776 then 5 else if m < 281474976710656 then 6 else if m < 72057594037927936 then 7 else 8
/-- The digits of m, the least first; k of them. -/
def digN (m k : Nat) : List Int := (List.range k).map fun i => ((m / 256 ^ i % 256 : Nat) : Int)
/-- The number whose digits are taken. -/
def magN (n : Int) : Nat := if n < 0 then (-1 - n).toNat else n.toNat
def flipI (n d : Int) : Int := if n < 0 then 255 - d else d
/-- The encoding of a number. -/
def encI (n : Int) : List Int := flipI n (128 + bytesN (magN n)) :: (digN (magN n) (bytesN (magN n))).reverse.map (flipI n)
/-- The encoding of a list of numbers. -/
def encL (l : List Int) : List Int := encI l.length ++ l.flatMap encI
/-- The encoding of a change. -/
def encC (c : Chg) : List Int := encL [c.kind, c.index, c.field, c.old, c.new] ++ encL c.values
/-- The encoding of changes. -/
def encCs (cs : List Chg) : List Int := encI cs.length ++ cs.flatMap encC

theorem bytesN_le (m : Nat) : bytesN m ≤ 8 := by unfold bytesN; (repeat' split) <;> omega
theorem encI_len (n : Int) : (encI n).length = bytesN (magN n) + 1 := by unfold encI digN; simp
theorem encI_len9 (n : Int) : (encI n).length ≤ 9 := by rw [encI_len]; have := bytesN_le (magN n); omega
theorem flat_len {α : Type} (f : α → List Int) (k : Nat) : ∀ l : List α, (∀ x ∈ l, (f x).length ≤ k) → (l.flatMap f).length ≤ k * l.length
  | [], _ => by simp
  | x :: l, h => by
    have h1 := flat_len f k l (fun y hy => h y (List.mem_cons_of_mem _ hy))
    have h2 := h x (List.mem_cons_self ..)
    rw [List.flatMap_cons, List.length_append, List.length_cons, Nat.mul_add, Nat.mul_one]
    omega
theorem encL_len (l : List Int) : (encL l).length ≤ 9 * l.length + 9 := by
  unfold encL
  have h1 := encI_len9 l.length
  have h2 := flat_len encI 9 l (fun x _ => encI_len9 x)
  rw [List.length_append]
  omega

/-- A slice of bytes. -/
abbrev BytesV (S : Nat → Prop) := SlV (fun _ u (x : Int) => u = .int .u8 x) S
theorem steady_byte : Steady (fun _ _ u (x : Int) => u = .int .u8 x) := ⟨fun h _ => h, fun h _ => h⟩
theorem BytesV.keep {S w w' v xs} (h : BytesV S w v xs) (hk : KeepS S w w') : BytesV S w' v xs := SlV.keep h hk fun _ _ h => h
theorem BytesV.mono {S S' w v xs} (h : BytesV S w v xs) (hS : ∀ b, b < w.heap.size → S b → S' b) : BytesV S' w v xs := SlV.mono h hS fun _ _ h => h
/-- A row of bytes of the call's own. -/
abbrev OwnB (B : Nat) (w : World) (v : Value) (xs : List Int) : Prop := OwnV (fun _ _ u (x : Int) => u = .int .u8 x) B 5 w v xs
theorem Try.appB : AppT Try.prog 53 5 1 1 := appT_mk (z := .int .u8 0) (by kernel_rfl) (by kernel_rfl) rfl (by omega) (by omega)

end Go.Proofs.Ytagnjhhbbjbhcaa
