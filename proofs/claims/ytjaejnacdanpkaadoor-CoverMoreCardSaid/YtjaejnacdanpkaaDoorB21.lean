/- Bits: OnesCount and TrailingZeros at small numbers. Regions that draw their order, behind a fence: reads, then the rest in the order of the text. sets of the program: the iterator over the sets of t features. sets as an iterator; small functions of the program. -/
import Derived.Test.YtjaejnacdanpkaaDoorB17
import Derived.Test.YtjaejnacdanpkaaDoorBCov
import Derived.WalkKit
import Derived.Laws.Bits64b
import Derived.Laws.BitsLemmas
import Derived.Lib.TrailingZeros
namespace Go.Proofs.YtjaejnacdanpkaaDoor
open Go.RowKit

theorem bits_and_i64_nat (a b : Nat) (ha : a < 9223372036854775808) (hb : b < 9223372036854775808) : bits .and .i64 (a : Int) (b : Int) = ((a &&& b : Nat) : Int) := by
  have hx : a &&& b < 2 ^ 63 := Nat.and_lt_two_pow _ (by omega)
  have h1 : (BitVec.ofInt 64 (a : Int)).toNat = a := by
    rw [BitVec.ofInt_natCast, BitVec.toNat_ofNat]; exact Nat.mod_eq_of_lt (by omega)
  have h2 : (BitVec.ofInt 64 (b : Int)).toNat = b := by
    rw [BitVec.ofInt_natCast, BitVec.toNat_ofNat]; exact Nat.mod_eq_of_lt (by omega)
  show IntKind.i64.wrap ((BitVec.ofInt 64 (a : Int) &&& BitVec.ofInt 64 (b : Int)).toNat : Int) = _
  rw [BitVec.toNat_and, h1, h2]
  simp [IntKind.wrap, IntKind.bits, IntKind.signed]
  omega

def oc1 (x : Nat) : Nat := (x / 2 &&& 6148914691236517205) + (x &&& 6148914691236517205)
def oc2 (y : Nat) : Nat := (y / 4 &&& 3689348814741910323) + (y &&& 3689348814741910323)
def oc3 (y : Nat) : Nat := (y / 16 + y) &&& 1085102592571150095
def oc4 (y : Nat) : Nat := y + y / 256
def oc5 (y : Nat) : Nat := y + y / 65536
def oc6 (y : Nat) : Nat := y + y / 4294967296
theorem oc_all2 : ∀ a b : Fin 64, oc6 (oc5 (oc4 (oc3 (oc2 (oc1 (64 * a.val + b.val)))))) &&& 127 = Cov.pop 12 (64 * a.val + b.val) := by decide +kernel
theorem oc_all (x : Nat) (h : x < 4096) : oc6 (oc5 (oc4 (oc3 (oc2 (oc1 x))))) &&& 127 = Cov.pop 12 x := by
  have := oc_all2 ⟨x / 64, by omega⟩ ⟨x % 64, by omega⟩
  simp only at this
  rwa [show 64 * (x / 64) + x % 64 = x by omega] at this

set_option maxRecDepth 100000 in
set_option maxHeartbeats 1000000 in
theorem ones64_any (x : Nat) (hx : x < 4096) (w : World) : Calls Tryd.prog 81 #[.int .u64 x] w fun e w' => e = .returned (.int .i64 (Cov.pop 12 x)) ∧ w = w' := by
  go_enter Tryd.func81, Tryd.ntmps81
  go_wp2
  go_ret
  refine ⟨ret_int ?_, rfl⟩
  have l1 : oc1 x ≤ 8192 := by unfold oc1; have := Nat.and_le_left (n := x / 2) (m := 6148914691236517205); have := Nat.and_le_left (n := x) (m := 6148914691236517205); omega
  have h1 : IntKind.u64.wrap (bits BinOp.and IntKind.u64 (↑x / 2) 6148914691236517205 + bits BinOp.and IntKind.u64 (↑x) 6148914691236517205) = (oc1 x : Int) := by
    have e1 := bits_and_u64_nat (x / 2) 6148914691236517205 (by omega) (by omega)
    have e2 := bits_and_u64_nat x 6148914691236517205 (by omega) (by omega)
    have e3 : ((x / 2 : Nat) : Int) = (x : Int) / 2 := by omega
    rw [e3] at e1
    rw [show ((6148914691236517205 : Nat) : Int) = 6148914691236517205 from rfl] at e1 e2
    rw [e1, e2, IntKind.wrap_u64]
    unfold oc1 at l1 ⊢
    omega
  rw [h1]
  have l2 : oc2 (oc1 x) ≤ 16384 := by unfold oc2; have := Nat.and_le_left (n := oc1 x / 4) (m := 3689348814741910323); have := Nat.and_le_left (n := oc1 x) (m := 3689348814741910323); omega
  have h2 : IntKind.u64.wrap (bits BinOp.and IntKind.u64 (↑(oc1 x) / 4) 3689348814741910323 + bits BinOp.and IntKind.u64 (↑(oc1 x)) 3689348814741910323) = (oc2 (oc1 x) : Int) := by
    have e1 := bits_and_u64_nat (oc1 x / 4) 3689348814741910323 (by omega) (by omega)
    have e2 := bits_and_u64_nat (oc1 x) 3689348814741910323 (by omega) (by omega)
    have e3 : ((oc1 x / 4 : Nat) : Int) = (oc1 x : Int) / 4 := by omega
    rw [e3] at e1
    rw [show ((3689348814741910323 : Nat) : Int) = 3689348814741910323 from rfl] at e1 e2
    rw [e1, e2, IntKind.wrap_u64]
    unfold oc2 at l2 ⊢
    omega
  rw [h2]
  have l3 : oc3 (oc2 (oc1 x)) ≤ 32768 := by unfold oc3; have := Nat.and_le_left (n := oc2 (oc1 x) / 16 + oc2 (oc1 x)) (m := 1085102592571150095); omega
  have h3 : bits BinOp.and IntKind.u64 (IntKind.u64.wrap (↑(oc2 (oc1 x)) / 16 + ↑(oc2 (oc1 x)))) 1085102592571150095 = (oc3 (oc2 (oc1 x)) : Int) := by
    have e1 := bits_and_u64_nat (oc2 (oc1 x) / 16 + oc2 (oc1 x)) 1085102592571150095 (by omega) (by omega)
    have e3 : IntKind.u64.wrap (↑(oc2 (oc1 x)) / 16 + ↑(oc2 (oc1 x))) = ((oc2 (oc1 x) / 16 + oc2 (oc1 x) : Nat) : Int) := by rw [IntKind.wrap_u64]; omega
    rw [e3]
    exact e1
  rw [h3]
  have h4 : IntKind.u64.wrap ((oc3 (oc2 (oc1 x)) : Int) + ↑(oc3 (oc2 (oc1 x))) / 256) = (oc4 (oc3 (oc2 (oc1 x))) : Int) := by rw [IntKind.wrap_u64]; unfold oc4; omega
  have l4 : oc4 (oc3 (oc2 (oc1 x))) ≤ 65536 := by unfold oc4; omega
  rw [h4]
  have h5 : IntKind.u64.wrap ((oc4 (oc3 (oc2 (oc1 x))) : Int) + ↑(oc4 (oc3 (oc2 (oc1 x)))) / 65536) = (oc5 (oc4 (oc3 (oc2 (oc1 x)))) : Int) := by rw [IntKind.wrap_u64]; unfold oc5; omega
  have l5 : oc5 (oc4 (oc3 (oc2 (oc1 x)))) ≤ 131072 := by unfold oc5; omega
  rw [h5]
  have h6 : IntKind.u64.wrap ((oc5 (oc4 (oc3 (oc2 (oc1 x)))) : Int) + ↑(oc5 (oc4 (oc3 (oc2 (oc1 x))))) / 4294967296) = (oc6 (oc5 (oc4 (oc3 (oc2 (oc1 x))))) : Int) := by rw [IntKind.wrap_u64]; unfold oc6; omega
  have l6 : oc6 (oc5 (oc4 (oc3 (oc2 (oc1 x))))) ≤ 262144 := by unfold oc6; omega
  rw [h6]
  have h7 : wrap64 (oc6 (oc5 (oc4 (oc3 (oc2 (oc1 x))))) : Int) = (oc6 (oc5 (oc4 (oc3 (oc2 (oc1 x))))) : Int) := by unfold wrap64; omega
  rw [h7]
  have h9 := oc_all x hx
  clear h1 h2 h3 h4 h5 h6 h7 l1 l2 l3 l4 l5
  generalize oc6 (oc5 (oc4 (oc3 (oc2 (oc1 x))))) = z at *
  rw [← h9]
  exact bits_and_i64_nat z 127 (by omega) (by omega)

theorem ones_z (x z : Nat) (w : World) (H : Hid (Calls Tryd.prog 81 #[.int .u64 x] w fun e w' => e = .returned (.int .i64 z) ∧ w = w')) : Calls Tryd.prog 63 #[.int .u64 x] w fun e w' => e = .returned (.int .i64 z) ∧ w = w' := by
  go_enter Tryd.func63, Tryd.ntmps63
  go_wp2_with (go_at_call 81; refine H.out.mono ?_; rintro e w' ⟨rfl, rfl⟩)
  go_ret
  exact ⟨rfl, rfl⟩
theorem ones_any (x : Nat) (hx : x < 4096) (w : World) : Calls Tryd.prog 63 #[.int .u64 x] w fun e w' => e = .returned (.int .i64 (Cov.pop 12 x)) ∧ w = w' := ones_z x _ w (hid (ones64_any x hx w))

/-- The table of the library. -/
def TabD (w : World) : Prop := ∀ j, j < Lib.deBruijn64tab.length → w.cell? ⟨1, j, none⟩ = some (.int .u8 (Lib.deBruijn64tab.getD j 0))

theorem tz_key (x a : Nat) (hx : x < 18446744073709551616) (hx0 : x ≠ 0) (hlow : x &&& (18446744073709551616 - x) = a) :
    IntKind.u64.wrap (bits BinOp.and IntKind.u64 (x : Int) (IntKind.u64.wrap (-(x : Int))) * 285870213051353865) / 288230376151711744 = ((a * 285870213051353865 % 18446744073709551616 / 288230376151711744 : Nat) : Int) := by
  have e1 : IntKind.u64.wrap (-(x : Int)) = ((18446744073709551616 - x : Nat) : Int) := by rw [IntKind.wrap_u64]; omega
  rw [e1, bits_and_u64_nat x _ hx (by omega), hlow, IntKind.wrap_u64]
  omega

set_option maxHeartbeats 1000000 in
theorem tz64_core (x k idx : Nat) (w : World) (hx0 : ((x : Int) == 0) = false)
    (key : IntKind.u64.wrap (bits BinOp.and IntKind.u64 (x : Int) (IntKind.u64.wrap (-(x : Int))) * 285870213051353865) / 288230376151711744 = (idx : Int))
    (hi : idx < 64) (hk : k < 64) (hcell : w.cell? ⟨1, idx, none⟩ = some (.int .u8 k)) :
    Calls Tryd.prog 83 #[.int .u64 x] w fun e w' => e = .returned (.int .i64 k) ∧ w = w' := by
  go_enter Tryd.func83, Tryd.ntmps83
  go_wp2_with (simp only [key])
  go_ret
  exact ⟨rfl, rfl⟩

theorem tz64_any (x : Nat) (hx : x < 18446744073709551616) (hx0 : x ≠ 0) (w : World) (hT : TabD w) :
    Calls Tryd.prog 83 #[.int .u64 x] w fun e w' => e = .returned (.int .i64 (Lib.ctz 64 x)) ∧ w = w' := by
  obtain ⟨hlow, hk⟩ := Lib.lowest_bit 64 x hx0 hx
  obtain ⟨hi, htab⟩ := Lib.deBruijn64_at _ hk
  have hcell := hT _ hi
  rw [htab] at hcell
  exact tz64_core x _ _ w (by simp; omega) (tz_key x _ hx hx0 hlow) hi hk hcell

theorem tz_z (x z : Nat) (w : World) (H : Hid (Calls Tryd.prog 83 #[.int .u64 x] w fun e w' => e = .returned (.int .i64 z) ∧ w = w')) : Calls Tryd.prog 67 #[.int .u64 x] w fun e w' => e = .returned (.int .i64 z) ∧ w = w' := by
  go_enter Tryd.func67, Tryd.ntmps67
  go_wp2_with (go_at_call 83; refine H.out.mono ?_; rintro e w' ⟨rfl, rfl⟩)
  go_ret
  exact ⟨rfl, rfl⟩
theorem tz_any (x : Nat) (hx : x < 18446744073709551616) (hx0 : x ≠ 0) (w : World) (hT : TabD w) :
    Calls Tryd.prog 67 #[.int .u64 x] w fun e w' => e = .returned (.int .i64 (Lib.ctz 64 x)) ∧ w = w' := tz_z x _ w (hid (tz64_any x hx hx0 w hT))

theorem TabD.keep {w w' : World} (h : TabD w) (hk : w'.heap[(1 : Nat)]? = w.heap[(1 : Nat)]?) : TabD w' := fun j hj => (World.cell?_of_block (w := w) (a := ⟨1, j, none⟩) hk).trans (h j hj)
theorem TabD.below {w w' : World} {B : Nat} (h : TabD w) (hb : Below B w w') (h1 : 1 < B) : TabD w' := h.keep (hb.block _ h1)
theorem TabD.lt {w : World} (h : TabD w) : 1 < w.heap.size := World.block_lt_of_cell? w ⟨1, 0, none⟩ (h 0 (by decide))

end Go.Proofs.YtjaejnacdanpkaaDoor

namespace Go.Proofs.YtjaejnacdanpkaaDoor
open Go.RowKit

/-- The wide fence, of a round or of none. -/
abbrev Fr (r : Option Nat) : Fence := { Fence.wide with round := r }

section
variable {P : Program} {ops : Array Oper} {md : Region.Mode} {r : Option Nat} {n : Nat}

theorem callsIn_fr {f : FuncId} {args : Array Value} {w : World} {R : Ending → World → Prop} : CallsIn (Fr r) n P f args w R ↔ Calls P f args w R := callsIn_wide (n := n)

theorem op_fr {o : Oper} {a : Act} {w : World} {K K2 : Act → World → Prop} {Q2 : Exit → Act → World → Prop} (hd : plainOp o.op = true) (h : o.wp P a w K (QN K2)) : o.wpIn (Fr r) n P a w K Q2 := by
  have hs : Oper.semAt (Fr r).round a.eval o = execOp a.eval o := Oper.semAt_eq _ _ _ (fun c e => by rw [e] at hd; simp [plainOp] at hd)
  unfold Oper.wpIn
  refine ⟨fun _ _ => trivial, ?_⟩
  rw [hs]
  unfold Oper.wp at h
  generalize (execOp a.eval o).run P w = r at *
  cases r with
  | ok x w' =>
    cases x with
    | value v => exact h
    | skip => exact h
    | defer d => exact h
    | enter f args =>
      refine ⟨fun h => by simp [Fence.wide] at h, callsIn_fr.2 (Calls.mono h ?_)⟩
      intro e w'' he
      cases e with
      | returned v => exact he
      | panicked c => exact he.elim
      | outgrown => exact absurd he letsOut_QN
    | row row args =>
      refine ⟨fun h => by simp [Fence.wide] at h, fun c cs _ => ?_⟩
      obtain ⟨v, w2, h1, h2⟩ := h c cs
      exact ⟨v, w2, h1, stepsIn_wide.2 h2⟩
    | _ => exact h.elim
  | halt x w' =>
    cases x <;> first | exact h.elim | exact (show False from h).elim

theorem opi_fr {i : Nat} {a : Act} {w : World} {K K' K2 : Act → World → Prop} {Q2 : Exit → Act → World → Prop} (hd : ∀ o, ops[i]? = some o → plainOp o.op = true) (hK : ∀ a w, K a w → K' a w) (h : wpOp P ops (QN K2) i K a w) : wpOpIn (Fr r) n P ops Q2 i K' a w := by
  refine wpOpIn_mono hK ?_
  unfold wpOp at h
  unfold wpOpIn
  split
  · rename_i ho; simp only [ho] at h; exact h
  · rename_i o ho
    simp only [ho] at h
    split
    · rename_i hw
      rw [if_pos hw] at h
      rcases h with h | ⟨_, h⟩
      · exact op_fr (hd o ho) h
      · exact absurd h letsOut_QN
    · rename_i hw
      rw [if_neg hw] at h
      exact ⟨fun _ _ => trivial, h⟩

theorem anyIn_of_headH {C : World → Prop} {m g : Nat} {L : Array Bool → Act → World → Prop} {Q' : Exit → Act → World → Prop} (hd : ∀ (i : Nat) (o : Oper), i < m → ops[i]? = some o → plainOp o.op = true) (hL : ∀ listed a w, L listed a w → wpAnyIn (Fr r) n P md ops Q' g listed a w) :
    ∀ (f : Nat) (listed : Array Bool) (a : Act) (w : World), wpAnyH P md ops C m L f listed a w → wpAnyIn (Fr r) n P md ops Q' (f + g) listed a w
  | 0, listed, a, w, h => by rw [Nat.zero_add]; exact hL _ _ _ h
  | f + 1, listed, a, w, h => by
    rw [show f + 1 + g = (f + g) + 1 by omega]
    exact ⟨fun h0 => absurd h0 h.1, fun i hi => opi_fr (hd i · (h.2 i hi).1) (fun a' w' h' => anyIn_of_headH hd hL f _ a' w' h'.2) (h.2 i hi).2⟩

theorem wpAnyIn_of_seq {Q' : Exit → Act → World → Prop} : ∀ (l : List Oper) (k : Nat) (listed : Array Bool) (a : Act) (w : World), (∀ j, l[j]? = ops[k + j]?) →
    Region.seqB md ops l.length k listed = true → wpListIn (Fr r) n P ops Q' l a w → wpAnyIn (Fr r) n P md ops Q' l.length listed a w
  | [], _, _, _, _, _, hB, h => ⟨by simpa [Region.seqB] using hB, h⟩
  | o :: l, k, listed, a, w, hl, hB, h => by
    have h0 : ops[k]? = some o := by simpa using (hl 0).symm
    simp only [List.length_cons, Region.seqB, Bool.and_eq_true, decide_eq_true_eq] at hB
    refine ⟨fun h1 => (by rw [hB.1] at h1; cases h1), fun i hi => ?_⟩
    rw [hB.1] at hi
    have hik : i = k := by simpa using hi
    subst hik
    have hw : wpOpIn (Fr r) n P ops Q' i (wpListIn (Fr r) n P ops Q' l) a w := by unfold wpOpIn; simp only [h0]; exact h
    exact wpOpIn_mono (fun a' w' h' => wpAnyIn_of_seq l (i + 1) _ a' w' (fun j => by have := hl (j + 1); simpa [Nat.add_assoc, Nat.add_comm 1 j] using this) hB.2 h') hw

def Region.plainHead (ops : Array Oper) (m : Nat) : Bool := (ops.toList.take m).all fun o => plainOp o.op
theorem Region.plainHead_spec {ops : Array Oper} {m : Nat} (h : Region.plainHead ops m = true) : ∀ (i : Nat) (o : Oper), i < m → ops[i]? = some o → plainOp o.op = true := by
  intro i o him ho
  unfold Region.plainHead at h
  rw [List.all_eq_true] at h
  refine h o (List.mem_iff_getElem?.2 ⟨i, ?_⟩)
  rw [List.getElem?_take, if_pos him, Array.getElem?_toList]
  exact ho

/-- **The law.** m operations by a schedule; then the rest in the order of the text. -/
theorem wpIn_region_sched {id : Nat} {Q : Exit → Act → World → Prop} {a : Act} {w : World} {l : List Oper} (m : Nat) (s : List (Bool × Nat)) (C : World → Prop) (hm : P.follows .mixedOrders = true) (hB : Region.schedTailB .any l.toArray m s = true) (hp : Region.plainHead l.toArray m = true) (hC : C (w.drewN 1))
    (h : wpSteps P l.toArray C (fun a' w' => wpListIn (Fr r) n P l.toArray Q (l.drop m) a' w') l s a (w.drewN 1)) : (Code.region id l.toArray true).wpIn (Fr r) n P Q a w := by
  simp only [Region.schedTailB, Bool.and_eq_true, decide_eq_true_eq] at hB
  obtain ⟨⟨⟨⟨⟨hsel, hn⟩, hs⟩, hc⟩, hqn⟩, hlex⟩ := hB
  have inv0 : HeadInv .any l.toArray m (Array.replicate l.toArray.size false) :=
    ⟨by simp, fun j oj _ hl => (by rw [getD_replicate_false] at hl; cases hl), fun t _ ht => getD_in (by simpa using ht) (getD_replicate_false _ _)⟩
  have H := wpAnyH_sched (md := .any) (Lq := fun a' w' => wpListIn (Fr r) n P l.toArray Q (l.drop m) a' w') hsel hs hc hn s _ a _ hC inv0 hlex (by simpa using h)
  refine wpIn_region_any hm ?_
  have hdl : (l.drop m).length = l.toArray.size - m := by simp
  have := anyIn_of_headH (r := r) (n := n) (Q' := Q) (g := l.toArray.size - m) (Region.plainHead_spec hp) (fun listed a' w' hL => by
    have := wpAnyIn_of_seq (r := r) (n := n) (md := .any) (Q' := Q) (l.drop m) m listed a' w' (fun j => by simp [List.getElem?_drop]) (by rw [hdl]; exact hL.1) hL.2
    rwa [hdl] at this) _ _ _ _ H
  rw [hqn, show m + (l.toArray.size - m) = l.toArray.size by omega] at this
  exact this

/-- The law where the first m operations only read. -/
theorem wpIn_region_tail {id : Nat} {Q : Exit → Act → World → Prop} {a : Act} {w : World} {l : List Oper} (m : Nat) (hm : P.follows .mixedOrders = true) (hB : Region.schedTailB .any l.toArray m ((List.range m).map (fun i => (true, i))) = true) (hp : Region.plainHead l.toArray m = true) (hml : m ≤ l.length)
    (h : wpQuiet P l.toArray (fun w' => w' = w.drewN 1) (fun a' => wpListIn (Fr r) n P l.toArray Q (l.drop m) a' (w.drewN 1)) (l.take m) a) : (Code.region id l.toArray true).wpIn (Fr r) n P Q a w := by
  refine wpIn_region_sched m _ (fun w' => w' = w.drewN 1) hm hB hp rfl ?_
  have := wpSteps_pre (P := P) (ops := l.toArray) (C := fun w' => w' = w.drewN 1) (R := fun a' w' => wpListIn (Fr r) n P l.toArray Q (l.drop m) a' w') (l := l) (w := w.drewN 1) (s := []) m hml (a := a) h
  simpa using this
end

end Go.Proofs.YtjaejnacdanpkaaDoor

namespace Go.Proofs.YtjaejnacdanpkaaDoor
open Go.RowKit

theorem pop_more : ∀ (n k s : Nat), s < 2 ^ n → Cov.pop (n + k) s = Cov.pop n s
  | 0, 0, _, _ => rfl
  | 0, k + 1, s, h => by
    have hs : s = 0 := by simpa using h
    subst hs
    have : ∀ k, Cov.pop k 0 = 0 := by
      intro k
      induction k with
      | zero => rfl
      | succ k ih => simp [Cov.pop, ih]
    rw [this]; rfl
  | n + 1, k, s, h => by
    rw [show n + 1 + k = (n + k) + 1 by omega]
    simp only [Cov.pop]
    rw [pop_more n k (s / 2) (by rw [Nat.pow_succ] at h; omega)]
theorem pop12 {n s : Nat} (hn : n ≤ 12) (hs : s < 2 ^ n) : Cov.pop 12 s = Cov.pop n s := by
  have := pop_more n (12 - n) s hs
  rwa [show n + (12 - n) = 12 by omega] at this
theorem pop_le12 (s : Nat) : Cov.pop 12 s ≤ 12 := Cov.pop_le 12 s

def maskTo (n t k : Nat) : List Nat := (List.range k).filter fun s => decide (Cov.pop n s = t)
theorem maskTo_zero (n t : Nat) : maskTo n t 0 = [] := rfl
theorem maskTo_succ (n t k : Nat) : maskTo n t (k + 1) = maskTo n t k ++ (if Cov.pop n k = t then [k] else []) := by
  unfold maskTo
  rw [List.range_succ, List.filter_append]
  by_cases h : Cov.pop n k = t <;> simp [h]
theorem maskTo_pre (n t : Nat) {k m : Nat} (h : k ≤ m) : maskTo n t k <+: maskTo n t m := by
  obtain ⟨j, rfl⟩ : ∃ j, m = k + j := ⟨m - k, by omega⟩
  clear h
  induction j with
  | zero => exact List.prefix_refl _
  | succ j ih => rw [← Nat.add_assoc, maskTo_succ]; exact ih.trans (List.prefix_append _ _)

set_option maxRecDepth 100000 in
set_option maxHeartbeats 4000000 in
theorem sets1_any (len t : Nat) (hlen : len ≤ 8) (ht : t ≤ 100) (n0 nB bP l : Nat) (sa : Option Addr) (sc : Nat) (fv : Value) (bA : Nat → Obj → Prop) (Kp : World → Prop) (hKp : ∀ X Y, Kp X → TurnT (fun b o => bA b o ∨ isBook nB b o) n0 X Y → Kp Y)
    (hK1 : ∀ X, Kp X → X.heap[bP]? = some (.cells #[.slice sa len sc, fv, .int .i64 t] 57 (0, 0)))
    (J Jx : List Nat → World → Prop) (hJ : ∀ pre X Y, J pre X → TurnT (fun _ _ => False) n0 X Y → J pre Y) (W : World)
    (hY : ∀ pre (x : Nat) W1, J pre W1 → pre ++ [x] <+: maskTo len t (2 ^ len) → YieldAt Fence.wide 0 Tryd.prog l #[.int .u64 x] W1 fun e W' =>
      TurnT (fun b o => bA b o ∨ isBook nB b o) n0 W1 W' ∧ ((e = .returned (.bool true) ∧ J (pre ++ [x]) W') ∨ (e = .returned (.bool false) ∧ Jx (pre ++ [x]) W')))
    (hkp : Kp W) (h0 : J [] W) :
    Calls Tryd.prog 66 #[.func (.yield l) #[] #[], .pointer (some ⟨bP, 0, none⟩)] W fun e W' => (∃ v, e = .returned v) ∧ ((∃ xs, xs = maskTo len t (2 ^ len) ∧ J xs W') ∨ ∃ xs, Jx xs W') := by
  have c0 := cell_of_row _ _ 0 _ _ (0, 0) (hK1 W hkp)
  simp only [List.getElem?_toArray, List.getElem?_cons_zero] at c0
  have hl8 : 2 ^ len ≤ 256 := Nat.le_trans (Nat.pow_le_pow_right (by omega) hlen) (by decide)
  have hw : IntKind.u64.wrap ((2 : Int) ^ len) = ((2 ^ len : Nat) : Int) := by
    have e : ((2 : Int) ^ len) = ((2 ^ len : Nat) : Int) := by push_cast; rfl
    rw [e]
    generalize 2 ^ len = m at *
    rw [IntKind.wrap_u64]
    omega
  have HM : Hid (∀ k, k < 2 ^ len → Cov.pop 12 k = Cov.pop len k) := hid (fun k hk => pop12 (by omega) hk)
  generalize 2 ^ len = M at *
  have HK0 := hid (And.intro hkp h0)
  have HY := hid hY
  have HDJ := hid (fun pre X m (h : J pre X) => hJ pre X (X.drewN m) h ((TurnT.refl _ _ _).drewN m))
  have HDK := hid (fun X m (h : Kp X) => hKp X (X.drewN m) h ((TurnT.refl _ _ _).drewN m))
  have HK1 := hid hK1
  clear hY hkp h0 hK1
  rw [← callsIn_wide (n := 1)]
  refine callsIn_of_wp Tryd.func66 rfl trivial ?_ rfl
  simp only [Tryd.ntmps66, List.size_toArray, List.length_cons, List.length_nil, Nat.reduceAdd, Nat.reduceSub, Array.replicate_succ, Array.replicate_zero, List.push_toArray, List.append_toArray, List.nil_append, List.cons_append]
  gi_wp2
  clear hw c0
  gi_loopw [8] (fun c wr => ∃ k : Nat, k ≤ M ∧ c = .int .u64 k ∧ Hid (Kp wr ∧ J (maskTo len t k) wr)) (fun c _ => M - (intOf c).toNat)
  case atStart => exact ⟨0, by omega, rfl, hid ⟨HK0.out.1, by rw [maskTo_zero]; exact HK0.out.2⟩⟩
  case round =>
    obtain ⟨k, hk, rfl, HS⟩ := hrel
    by_cases hlt : k < M
    · have c2 := cell_of_row _ _ 2 _ _ (0, 0) (HK1.out wr HS.out.1)
      simp only [List.getElem?_toArray, List.getElem?_cons_zero, List.getElem?_cons_succ] at c2
      have hk0 : (0 : Int) ≤ k := by omega
      have hk1 : (k : Int) < M := by omega
      have hsucc := maskTo_succ len t k
      have hpop := HM.out k hlt
      have hpl := pop_le12 k
      have HO := hid (fun W => ones_any k (by omega) W)
      generalize Cov.pop 12 k = z at *
      rw [← hpop] at hsucc
      by_cases hz : z = t
      · subst hz
        rw [if_pos rfl] at hsucc
        have HSU := hid hsucc
        obtain ⟨fn, tmps, assign, body, hyy, hR⟩ := YieldAt.anyDepth (m' := 0) rfl (HY.out (maskTo len z k) k (wr.drewN 1) (HDJ.out _ _ 1 HS.out.2) (by rw [← hsucc]; exact maskTo_pre _ _ hlt))
        have HR := hid hR
        clear hsucc hpop hR
        have d1 : decide ((z : Int) = z) = true := by simp
        have d2 : ((z : Int) == z) = true := by simp
        gi_wp2
        refine wpIn_region_sched (r := none) 8 [(true, 0), (true, 2), (true, 3), (false, 1), (true, 4), (true, 5), (true, 6), (true, 7)] (fun W' => W' = wr.drewN 1) (by kernel_rfl) (by kernel_rfl) (by kernel_rfl) rfl ?_
        refine wpSteps_quiet rfl ?_
        repeat (go_big_quiet_step (fail))
        refine wpQuiet_nil ?_
        refine wpSteps_quiet rfl ?_
        repeat (go_big_quiet_step (fail))
        refine wpQuiet_nil ?_
        refine wpSteps_quiet rfl ?_
        repeat (go_big_quiet_step (fail))
        refine wpQuiet_nil ?_
        refine wpSteps_one rfl ?_
        go_wp2_with fail
        refine (HO.out _).mono ?_
        rintro e w' ⟨rfl, rfl⟩
        go_wp2
        refine qn_mk ⟨rfl, ?_⟩
        refine wpSteps_quiet rfl ?_
        repeat (go_big_quiet_step (fail))
        refine wpQuiet_nil ?_
        refine wpSteps_quiet rfl ?_
        repeat (go_big_quiet_step (fail))
        refine wpQuiet_nil ?_
        refine wpSteps_quiet rfl ?_
        repeat (go_big_quiet_step (fail))
        refine wpQuiet_nil ?_
        refine wpSteps_quiet rfl ?_
        repeat (go_big_quiet_step (fail))
        refine wpQuiet_nil ?_
        refine wpSteps_done ?_
        gi_wp2
        refine (RoundIn.anyDepth rfl HR.out).mono ?_
        rintro e W2 ⟨ht2, hres⟩
        have hk2 := hKp _ _ (HDK.out _ 1 HS.out.1) ht2
        rw [← HSU.out] at hres
        rcases hres with ⟨rfl, hj2⟩ | ⟨rfl, hj2⟩
        · have H2 := hid (And.intro hk2 hj2)
          clear ht2 hk2 hj2 HR hyy HSU HS
          gi_wp2
          go_roundw
          case rel => exact ⟨k + 1, by omega, by go_num, H2⟩
          case measure => simp [intOf]; omega
        · have H2 := hid hj2
          clear ht2 hk2 hj2 HR hyy HSU HS
          gi_wp2
          refine bodyPost_ret (results_none rfl _ _ _) rfl ?_
          exact ⟨⟨_, rfl⟩, .inr ⟨_, H2.out⟩⟩
      · rw [if_neg hz, List.append_nil] at hsucc
        have HSU := hid hsucc
        clear hsucc hpop
        have d1 : decide ((z : Int) = t) = false := by rw [decide_eq_false_iff_not]; omega
        have d2 : ((z : Int) == t) = false := beqF (by omega)
        gi_wp2
        refine wpIn_region_sched (r := none) 8 [(true, 0), (true, 2), (true, 3), (false, 1), (true, 4), (true, 5), (true, 6), (true, 7)] (fun W' => W' = wr.drewN 1) (by kernel_rfl) (by kernel_rfl) (by kernel_rfl) rfl ?_
        refine wpSteps_quiet rfl ?_
        repeat (go_big_quiet_step (fail))
        refine wpQuiet_nil ?_
        refine wpSteps_quiet rfl ?_
        repeat (go_big_quiet_step (fail))
        refine wpQuiet_nil ?_
        refine wpSteps_quiet rfl ?_
        repeat (go_big_quiet_step (fail))
        refine wpQuiet_nil ?_
        refine wpSteps_one rfl ?_
        go_wp2_with fail
        refine (HO.out _).mono ?_
        rintro e w' ⟨rfl, rfl⟩
        go_wp2
        refine qn_mk ⟨rfl, ?_⟩
        refine wpSteps_quiet rfl ?_
        repeat (go_big_quiet_step (fail))
        refine wpQuiet_nil ?_
        refine wpSteps_quiet rfl ?_
        repeat (go_big_quiet_step (fail))
        refine wpQuiet_nil ?_
        refine wpSteps_quiet rfl ?_
        repeat (go_big_quiet_step (fail))
        refine wpQuiet_nil ?_
        refine wpSteps_quiet rfl ?_
        repeat (go_big_quiet_step (fail))
        refine wpQuiet_nil ?_
        refine wpSteps_done ?_
        have H2 := hid (And.intro (HDK.out _ 1 HS.out.1) (HDJ.out _ _ 1 HS.out.2))
        rw [← HSU.out] at H2
        clear HS HSU
        simp only [List.drop_succ_cons, List.drop_zero]
        refine wpListIn_skip (by kernel_rfl) (by kernel_rfl) ?_
        gi_wp2
        go_roundw
        case rel => exact ⟨k + 1, by omega, by go_num, H2⟩
        case measure => simp [intOf]; omega
    · obtain rfl : k = M := by omega
      gi_wp2
      go_end0
      exact ⟨⟨_, rfl⟩, .inl ⟨_, rfl, HS.out.2⟩⟩

end Go.Proofs.YtjaejnacdanpkaaDoor

namespace Go.Proofs.YtjaejnacdanpkaaDoor
open Go.RowKit

theorem psets_any (sv fv tv : Value) (hsv : ∃ a n k, sv = .slice a n k) (hfv : ∃ a n k, fv = .slice a n k) (htv : ∃ t, tv = .int .i64 t) (w : World) :
    Calls Tryd.prog 36 #[.agg #[sv, fv, tv]] w fun e w' => e = .returned (.func (.func 66) #[] #[.pointer (some ⟨w.heap.size, 0, none⟩)]) ∧ w' = w.alloc (.cells #[sv, fv, tv] 57) := by
  obtain ⟨sa, sl, sc, rfl⟩ := hsv
  obtain ⟨fa, fl, fc, rfl⟩ := hfv
  obtain ⟨t, rfl⟩ := htv
  go_enter Tryd.func36, Tryd.ntmps36
  go_wp2
  go_ret
  exact ⟨rfl, rfl⟩

theorem sets_iter (len t : Nat) (hlen : len ≤ 8) (ht : t ≤ 100) (n0 nB bP : Nat) (sa : Option Addr) (sc : Nat) (fv : Value) (bA : Nat → Obj → Prop) (hbA : ∀ o, ¬ bA bP o) (w : World) (hn0 : n0 ≤ w.heap.size)
    (hb : w.heap[bP]? = some (.cells #[.slice sa len sc, fv, .int .i64 t] 57 (0, 0))) :
    IterS (α := Nat) Tryd.prog n0 nB 66 #[.pointer (some ⟨bP, 0, none⟩)] (fun s => #[.int .u64 s]) (fun pre x _ => pre ++ [x] <+: Cov.masks len t) bA (fun _ _ => False) (fun xs _ => xs = Cov.masks len t) w := by
  intro l J Jx W hbW hJ hJx hY h0
  refine sets1_any len t hlen ht n0 nB bP l sa sc fv bA (fun X => TurnT (fun b o => bA b o ∨ isBook nB b o) n0 w X) (fun X Y h1 h2 => h1.trans h2) (fun X h => h.2 _ _ hb ?_) J Jx hJ W hY (TurnT.of_below hbW hn0) h0
  rintro (h | h)
  · exact hbA _ h
  · simp [isBook, book] at h

end Go.Proofs.YtjaejnacdanpkaaDoor
