/- The closures of left: which features a set has; the order of the combinations. A row of slices whose elements are of the type e. slices.SortFunc over combinations, by the shelf. -/
import Derived.Test.YtjaejnacdanpkaaDoorC40
import Derived.Test.YtjaejnacdanpkaaDoorB31
import Derived.Shelf.SlSortCmp.NoneTotal
import Derived.Ground.SlsfProg
namespace Go.Proofs.YtjaejnacdanpkaaDoor
open Go.RowKit

theorem bit_ne (s i : Nat) (hs : s < 256) (hi : i < 8) : (bits BinOp.and IntKind.u64 (s : Int) ((2 : Int) ^ i) != 0) = decide (s / 2 ^ i % 2 = 1) := by
  have h : ∀ (a b : Fin 16) (i : Fin 8), (bits BinOp.and IntKind.u64 ((16 * a.val + b.val : Nat) : Int) ((2 : Int) ^ i.val) != 0) = decide ((16 * a.val + b.val) / 2 ^ i.val % 2 = 1) := by decide +kernel
  have := h ⟨s / 16, by omega⟩ ⟨s % 16, by omega⟩ ⟨i, hi⟩
  have e : 16 * (s / 16) + s % 16 = s := by omega
  simpa only [e] using this

theorem openM_at : ∀ (ns : List Nat) (s i : Nat) (h : i < (Cov.openM ns s).length), (Cov.openM ns s)[i].2.1 = decide (s / 2 ^ i % 2 = 1)
  | [], _, _, h => absurd h (by simp [Cov.openM])
  | n :: ns, s, 0, _ => by simp [Cov.openM]
  | n :: ns, s, i + 1, h => by
    have ih := openM_at ns (s / 2) i (by simpa [Cov.openM] using h)
    simp only [Cov.openM, List.getElem_cons_succ]
    rw [ih, Nat.div_div_eq_div_mul, Nat.pow_succ, Nat.mul_comm 2]
theorem openM_len : ∀ (ns : List Nat) (s : Nat), (Cov.openM ns s).length = ns.length
  | [], _ => rfl
  | n :: ns, s => by simp [Cov.openM, openM_len ns]
theorem openM_fst : ∀ (ns : List Nat) (s : Nat), (Cov.openM ns s).map (·.1) = ns
  | [], _ => rfl
  | n :: ns, s => by simp [Cov.openM, openM_fst ns]
theorem openM_snd : ∀ (ns : List Nat) (s : Nat), (Cov.openM ns s).map (·.2.2) = emptyC ns.length
  | [], _ => rfl
  | n :: ns, s => by
    have := openM_snd ns (s / 2)
    simp only [Cov.openM, List.map_cons, this, emptyC, List.length_cons, List.replicate_succ]

set_option maxRecDepth 100000 in
set_option maxHeartbeats 1000000 in
theorem left1_any (s i : Nat) (hs : s < 256) (hi : i < 8) (b : Nat) (X : World) (hb : X.heap[b]? = some (.cells #[.int .u64 s] 67 (0, 0))) :
    Calls Tryd.prog 60 (#[.int .i64 i] ++ #[.pointer (some ⟨b, 0, none⟩)]) X fun e w' => e = .returned (.bool (decide (s / 2 ^ i % 2 = 1))) ∧ ∃ m, w' = X.drewN m := by
  have c0 := (one_cell hb).1
  have hi0 : (0 : Int) ≤ i := by omega
  have hi1 : (i : Int) < 64 := by omega
  have h256 : 2 ^ i ≤ 128 := Nat.le_trans (Nat.pow_le_pow_right (by omega) (show i ≤ 7 by omega)) (by decide)
  have hw : IntKind.u64.wrap ((2 : Int) ^ i) = ((2 ^ i : Nat) : Int) := by
    have e : ((2 : Int) ^ i) = ((2 ^ i : Nat) : Int) := by push_cast; rfl
    rw [e]
    generalize 2 ^ i = m at *
    rw [IntKind.wrap_u64]
    omega
  have hbn := hid (bit_ne s i hs hi)
  clear hb
  go_enter Tryd.func60, Tryd.ntmps60
  go_wp2
  go_quiet (fail)
  go_wp2
  go_ret
  exact ⟨by rw [hbn.out]; rfl, nq, rfl⟩

set_option maxRecDepth 100000 in
set_option maxHeartbeats 1000000 in
theorem left2_any (xs ys : List Int) (u v : Value) (S T : Nat → Prop) (w : World) (hu : IntsV S w u xs) (hv : IntsV T w v ys) :
    Calls Tryd.prog 62 #[u, v] w fun e w' => e = .returned (.int .i64 (cmpL xs ys)) ∧ w = w' := by
  have H := hid (cmpCombo_any xs ys u v S T w hu hv)
  obtain ⟨a, cap, rfl, -, -, -⟩ := hu.form
  obtain ⟨a', cap', rfl, -, -, -⟩ := hv.form
  clear hu hv
  generalize cmpL xs ys = r at *
  go_enter Tryd.func62, Tryd.ntmps62
  go_wp2_with fail
  refine H.out.mono ?_
  rintro e w' ⟨rfl, rfl⟩
  go_wp2
  go_ret
  exact ⟨rfl, rfl⟩

end Go.Proofs.YtjaejnacdanpkaaDoor

namespace Go.Proofs.YtjaejnacdanpkaaDoor
open Go.RowKit

/-- v is a row of the call's own (from block B on) whose elements lead to the blocks E. -/
def OwnE (e : TypeId) (B : Nat) (E : Nat → Prop) (w : World) (v : Value) (xs : List (List Int)) : Prop :=
  ∃ us, w.ownsRow B e 1 v xs.length us ∧ us.length = xs.length ∧ ∀ j (h1 : j < us.length) (h2 : j < xs.length), IntsV E w us[j] xs[j]
theorem OwnE.nil (e : TypeId) (B : Nat) (E : Nat → Prop) (w : World) : OwnE e B E w (.slice none 0 0) [] :=
  ⟨[], World.ownsRow_nil _ _ _ _, rfl, fun j h => absurd h (by simp)⟩
theorem OwnE.lt {e : TypeId} {B : Nat} {E : Nat → Prop} {w : World} {v : Value} {xs : List (List Int)} (h : OwnE e B E w v xs) : ∀ b, OB v b → B ≤ b ∧ b < w.heap.size := by
  obtain ⟨us, h1, _⟩ := h
  exact fun b hb => h1.lt b hb.symm
theorem OwnE.kept {e : TypeId} {B : Nat} {E : Nat → Prop} {w w' : World} {v : Value} {xs : List (List Int)} (h : OwnE e B E w v xs) (hk : ∀ b, b < w.heap.size → OB v b ∨ E b → w'.heap[b]? = w.heap[b]?) : OwnE e B E w' v xs := by
  obtain ⟨us, h1, h2, h3⟩ := h
  exact ⟨us, ownsRow_keep (S := OB v) h1 (fun b hb => hb.symm) (fun b hb hlt => hk b hlt (.inl hb)), h2, fun j g1 g2 => (h3 j g1 g2).keep (fun b hb hlt => hk b hlt (.inr hb))⟩
theorem OwnE.mono {e : TypeId} {B : Nat} {E E' : Nat → Prop} {w : World} {v : Value} {xs : List (List Int)} (h : OwnE e B E w v xs) (hE : ∀ b, b < w.heap.size → E b → E' b) : OwnE e B E' w v xs := by
  obtain ⟨us, h1, h2, h3⟩ := h
  exact ⟨us, h1, h2, fun j g1 g2 => (h3 j g1 g2).mono hE⟩
theorem OwnE.sl {e : TypeId} {B : Nat} {E : Nat → Prop} {w : World} {v : Value} {xs : List (List Int)} (h : OwnE e B E w v xs) {S : Nat → Prop} (h1 : ∀ b, OB v b → S b) (h2 : ∀ b, b < w.heap.size → E b → S b) : RowsV S w v xs := by
  obtain ⟨us, g1, g2, g3⟩ := h
  exact ownsRow_sl g1 (fun b hb => h1 b hb.symm) g2 (fun j k1 k2 => (g3 j k1 k2).mono h2)

theorem OwnE.turn {e : TypeId} {A : Nat → Obj → Prop} {n0 B : Nat} {E : Nat → Prop} {W W' : World} {v : Value} {xs : List (List Int)} (h : OwnE e B E W v xs) (ht : TurnT A n0 W W') (hO : ∀ b c t fr, OB v b → b < W.heap.size → ¬ A b (.cells c t fr)) (hA : ∀ b c t fr, E b → b < W.heap.size → ¬ A b (.cells c t fr)) : OwnE e B E W' v xs := by
  obtain ⟨us, ⟨h1, h1'⟩, h2, h3⟩ := h
  refine ⟨us, ⟨h1, ?_⟩, h2, fun j g1 g2 => (h3 j g1 g2).turn ht hA⟩
  rcases h1' with h1' | ⟨g, cap, cur, rfl, hb, hg, r⟩
  · exact .inl h1'
  · exact .inr ⟨g, cap, cur, rfl, hb, ht.2 _ _ hg (hO _ _ _ _ rfl (Array.getElem?_eq_some_iff.1 hg).1), r⟩

theorem OwnE.obj {e : TypeId} {B : Nat} {E : Nat → Prop} {w : World} {v : Value} {xs : List (List Int)} (h : OwnE e B E w v xs) : ∀ b, OB v b → ∀ o, w.heap[b]? = some o → ¬ book o := by
  obtain ⟨us, ⟨_, h1'⟩, _⟩ := h
  intro b hb o ho
  rcases h1' with h1' | ⟨g, cap, cur, rfl, hbb, hg, r⟩
  · rw [h1'.1] at hb; simp [OB, Value.ownBlock] at hb
  · obtain rfl : b = g := by simpa [OB, Value.ownBlock] using hb
    rw [hg] at ho
    cases ho
    simp [book]

/-- One more element. -/
theorem wpListIn_appE1 {F : Fence} {nf : Nat} {P : Program} {t e : TypeId} {bytes : Nat} {w : World} {ops : Array Oper} {rest : List Oper} {o : Oper} {a : Act} {Q : Exit → Act → World → Prop} (hgd : o.guard = none) (s x : Operand)
    (ho : o.op = .call { callee := .builtin .append, args := #[s, x], argTypes := #[t, t] }) (hT : AppT P t e 1 bytes)
    {B : Nat} {E : Nat → Prop} {v : Value} {xs : List (List Int)} (hs : a.eval s = v) (hown : OwnE e B E w v xs) (hE : ∀ b, b < w.heap.size → E b → ¬ OB v b)
    {u : Value} {e' : TypeId} (hx : a.eval x = .slice (some ⟨w.heap.size, 0, none⟩) 1 1) (y : List Int) (hu : IntsV E w u y) (h1 : u.oneCell' = true)
    (hsmall : xs.length + 1 ≤ 1000000000) (hB : B ≤ w.heap.size)
    (h : ∀ v' w', OwnE e B E w' v' (xs ++ [y]) → Turns (OB v) w w' → (∀ b, OB v' b → OB v b ∨ w.heap.size ≤ b) → wpListIn F nf P ops Q rest (a.put o.dst v') w') :
    wpListIn F nf P ops Q (o :: rest) a (w.alloc (.cells #[u] e')) := by
  obtain ⟨us, h2, h3, h4⟩ := hown
  have ha : Below w.heap.size w (w.alloc (.cells #[u] e')) := (Below.refl _ _).alloc (Nat.le_refl _) _
  refine wpListIn_app hgd s x ho hT hs (h2.alloc _) _ 1 1 hx (fun _ => ⟨_, _, rfl⟩) [u] rfl (news_alloc w #[u] e') (by simpa using h1) hsmall (by simp; omega) (fun v' w' g1 g2 g3 => ?_)
  have hT0 := Turns.of_grown (S := OB v) g2 fun b hb' => hb'.symm
  have hT : Turns (OB v) w w' := (Turns.of_below ha).trans ⟨hT0.os, hT0.tape, hT0.output, hT0.size, hT0.block⟩
  refine h v' w' ⟨us ++ [u], by simpa using g1, by simp [h3], fun j k1 k2 => ?_⟩ hT (fun b hb => ?_)
  · have keep : ∀ {u y}, IntsV E w u y → IntsV E w' u y := fun h => by
      have := IntsV.mono (S' := fun b => E b ∧ b < w.heap.size) h (fun b hb hE => ⟨hE, hb⟩)
      exact IntsV.mono (IntsV.keep this (hT.keep (fun b hb => hE b hb.2 hb.1))) (fun b _ hb => hb.1)
    by_cases hj : j < us.length
    · rw [List.getElem_append_left hj, List.getElem_append_left (by omega)]
      exact keep (h4 j hj (by omega))
    · simp at k1
      obtain rfl : j = us.length := by omega
      simp only [List.getElem_append_right (Nat.le_refl _), Nat.sub_self, List.getElem_cons_zero]
      rw [List.getElem_append_right (by omega)]
      simp [h3]
      exact keep hu
  · unfold OB at hb ⊢
    rcases g3 with g3 | g3
    · exact .inl (hb.trans g3)
    · rw [g3] at hb
      right
      have := Option.some.inj hb
      have := ha.size
      omega


end Go.Proofs.YtjaejnacdanpkaaDoor

namespace Go.Proofs
open Go.Shelf
def Tryd.sortL_ren : Go.Shelf.Ren := ⟨fun | 6 => 61 | 15 => 79 | 14 => 78 | 28 => 94 | 29 => 95 | 20 => 86 | 21 => 87 | 22 => 88 | 23 => 89 | 24 => 90 | 25 => 91 | 26 => 92 | 27 => 93 | 46 => 98 | 47 => 99 | 48 => 100 | 49 => 101 | 50 => 102 | 57 => 103 | n => n, fun | 22 => 29 | 24 => 53 | 25 => 76 | 3 => 3 | 39 => 67 | 0 => 0 | 53 => 102 | 55 => 104 | 4 => 4 | 46 => 109 | 45 => 108 | 50 => 113 | 5 => 5 | 9 => 9 | 66 => 121 | 70 => 125 | 76 => 127 | 77 => 128 | n => n, fun | n => n⟩
theorem Tryd.sortL : Go.Proofs.SlLaysF.n6 Tryd.prog Tryd.sortL_ren := {
  mixed := by kernel_rfl
  f6 := ⟨Tryd.f61.name, by decide, Tryd.func61.trans (congrArg some (by kernel_rfl))⟩
  f14 := ⟨Tryd.f78.name, by decide, Tryd.func78.trans (congrArg some (by kernel_rfl))⟩
  f15 := Tryd.func79.trans (congrArg some (by kernel_rfl))
  f20 := ⟨Tryd.f86.name, by decide, Tryd.func86.trans (congrArg some (by kernel_rfl))⟩
  f21 := ⟨Tryd.f87.name, by decide, Tryd.func87.trans (congrArg some (by kernel_rfl))⟩
  f22 := ⟨Tryd.f88.name, by decide, Tryd.func88.trans (congrArg some (by kernel_rfl))⟩
  f23 := ⟨Tryd.f89.name, by decide, Tryd.func89.trans (congrArg some (by kernel_rfl))⟩
  f24 := ⟨Tryd.f90.name, by decide, Tryd.func90.trans (congrArg some (by kernel_rfl))⟩
  f25 := ⟨Tryd.f91.name, by decide, Tryd.func91.trans (congrArg some (by kernel_rfl))⟩
  f26 := ⟨Tryd.f92.name, by decide, Tryd.func92.trans (congrArg some (by kernel_rfl))⟩
  f27 := ⟨Tryd.f93.name, by decide, Tryd.func93.trans (congrArg some (by kernel_rfl))⟩
  f28 := Tryd.func94.trans (congrArg some (by kernel_rfl))
  f29 := Tryd.func95.trans (congrArg some (by kernel_rfl))
  f46 := ⟨Tryd.f98.name, by decide, Tryd.func98.trans (congrArg some (by kernel_rfl))⟩
  f47 := Tryd.func99.trans (congrArg some (by kernel_rfl))
  f48 := Tryd.func100.trans (congrArg some (by kernel_rfl))
  f49 := ⟨Tryd.f101.name, by decide, Tryd.func101.trans (congrArg some (by kernel_rfl))⟩
  f50 := ⟨Tryd.f102.name, by decide, Tryd.func102.trans (congrArg some (by kernel_rfl))⟩
  f57 := ⟨Tryd.f103.name, by decide, Tryd.func103.trans (congrArg some (by kernel_rfl))⟩
  t0 := Tryd.underlying0
  a0 := Tryd.isAgg0
  z0 := Tryd.sizeOf0
  v0 := Tryd.zeroValue0
  t3 := Tryd.underlying3
  a3 := Tryd.isAgg3
  z3 := Tryd.sizeOf3
  v3 := Tryd.zeroValue3
  t4 := Tryd.underlying4
  a4 := Tryd.isAgg4
  z4 := Tryd.sizeOf4
  v4 := Tryd.zeroValue4
  t5 := Tryd.underlying5
  a5 := Tryd.isAgg5
  z5 := Tryd.sizeOf5
  v5 := Tryd.zeroValue5
  t9 := Tryd.underlying9
  a9 := Tryd.isAgg9
  z9 := Tryd.sizeOf9
  v9 := Tryd.zeroValue9
  t22 := Tryd.underlying29
  a22 := Tryd.isAgg29
  z22 := Tryd.sizeOf29
  v22 := Tryd.zeroValue29
  a24 := Tryd.isAgg53
  z24 := Tryd.sizeOf53
  t25 := Tryd.underlying76
  a25 := Tryd.isAgg76
  z25 := Tryd.sizeOf76
  v25 := Tryd.zeroValue76
  t39 := Tryd.underlying67
  a39 := Tryd.isAgg67
  z39 := Tryd.sizeOf67
  v39 := Tryd.zeroValue67
  t45 := Tryd.underlying108
  a45 := Tryd.isAgg108
  z45 := Tryd.sizeOf108
  v45 := Tryd.zeroValue108
  t46 := Tryd.underlying109
  a46 := Tryd.isAgg109
  z46 := Tryd.sizeOf109
  v46 := Tryd.zeroValue109
  t50 := Tryd.underlying113
  a50 := Tryd.isAgg113
  z50 := Tryd.sizeOf113
  v50 := Tryd.zeroValue113
  t53 := Tryd.underlying102
  a53 := Tryd.isAgg102
  z53 := Tryd.sizeOf102
  v53 := Tryd.zeroValue102
  t55 := Tryd.underlying104
  a55 := Tryd.isAgg104
  z55 := Tryd.sizeOf104
  v55 := Tryd.zeroValue104
  t66 := Tryd.underlying121
  a66 := Tryd.isAgg121
  z66 := Tryd.sizeOf121
  v66 := Tryd.zeroValue121
  t70 := Tryd.underlying125
  a70 := Tryd.isAgg125
  z70 := Tryd.sizeOf125
  v70 := Tryd.zeroValue125
  t76 := Tryd.underlying127
  a76 := Tryd.isAgg127
  z76 := Tryd.sizeOf127
  v76 := Tryd.zeroValue127
  t77 := Tryd.underlying128
  a77 := Tryd.isAgg128
  z77 := Tryd.sizeOf128
  v77 := Tryd.zeroValue128 }
end Go.Proofs

namespace Go.Proofs.YtjaejnacdanpkaaDoor
open Go.RowKit Go.Shelf Go.Lib Go.Sort

/-- A slice and the numbers it reads as. -/
abbrev El (E : Nat → Prop) (w : World) := { p : Value × List Int // IntsV E w p.1 p.2 ∧ p.1.oneCell' = true }
instance (E : Nat → Prop) (w : World) : Inhabited (El E w) := ⟨⟨(.slice none 0 0, []), SlV.nil _ _ _, rfl⟩⟩
def encE {E : Nat → Prop} {w : World} (x : El E w) : Value := x.1.1
def cfE {E : Nat → Prop} {w : World} (x y : El E w) : Int := cmpL x.1.2 y.1.2
theorem ltE {E : Nat → Prop} {w : World} (x y : El E w) : ltOf cfE x y = Cov.ltL x.1.2 y.1.2 := cmpL_neg _ _
theorem swoE {E : Nat → Prop} {w : World} : SWO (ltOf (cfE (E := E) (w := w))) where
  irrefl x := by rw [ltE]; exact Cov.ltL_irrefl _
  trans x y z h1 h2 := by rw [ltE] at *; exact Cov.ltL_trans _ _ _ h1 h2
  ntrans x y z h1 h2 := by
    rw [ltE] at *
    rcases Cov.ltL_total x.1.2 y.1.2 with h | h | h
    · rw [h] at h1; cases h1
    · rw [h]; exact h2
    · rcases Cov.ltL_total y.1.2 z.1.2 with h' | h' | h'
      · rw [h'] at h2; cases h2
      · rw [← h']; exact h1
      · have := Cov.ltL_trans _ _ _ h' h
        cases h3 : Cov.ltL x.1.2 z.1.2 with
        | false => rfl
        | true => have := Cov.ltL_trans _ _ _ h3 this; rw [Cov.ltL_irrefl] at this; cases this

theorem sortWorld_block {α : Type} [Inhabited α] (enc : α → Value) (w : World) (g n : Nat) (d : Array α) (os : Array Obj) {b : Nat} (hb : b < w.heap.size) (hne : b ≠ g) : (sortWorld enc w g 0 n d os).heap[b]? = w.heap[b]? := by
  unfold sortWorld
  rw [heap_grow_old _ _ (by simpa using hb)]
  unfold putRow mapBlock
  simp only [Array.getElem?_modify, heap_ahead]
  rw [if_neg (Ne.symm hne)]
theorem sortWorld_row {α : Type} [Inhabited α] (enc : α → Value) (w : World) (g n : Nat) (d : Array α) (os : Array Obj) {c : Array Value} {e : TypeId} {fr : Nat × Nat} (h : w.heap[g]? = some (.cells c e fr)) : (sortWorld enc w g 0 n d os).heap[g]? = some (.cells (putCells enc 0 d c) e fr) := by
  have hb := (Array.getElem?_eq_some_iff.1 h).1
  unfold sortWorld
  rw [heap_grow_old _ _ (by simpa using hb)]
  unfold putRow mapBlock
  simp only [Array.getElem?_modify, heap_ahead, if_true, h]
  rfl
theorem sortWorld_turns {α : Type} [Inhabited α] (enc : α → Value) (w : World) (g n : Nat) (d : Array α) (os : Array Obj) : Turns (· = g) w (sortWorld enc w g 0 n d os) :=
  ⟨rfl, rfl, rfl, by simp [sortWorld], fun b hb hlt => sortWorld_block enc w g n d os hlt hb⟩

theorem els {E : Nat → Prop} {w : World} : ∀ (us : List Value) (xs : List (List Int)), us.length = xs.length → (∀ j (h1 : j < us.length) (h2 : j < xs.length), IntsV E w us[j] xs[j]) → ∃ dl : List (El E w), dl.map (fun x => x.1.1) = us ∧ dl.map (fun x => x.1.2) = xs
  | [], [], _, _ => ⟨[], rfl, rfl⟩
  | u :: us, x :: xs, hl, h => by
    obtain ⟨dl, e1, e2⟩ := els us xs (by simpa using hl) (fun j h1 h2 => by
      have := h (j + 1) (by simpa using h1) (by simpa using h2)
      simpa using this)
    have h0 : IntsV E w u x := h 0 (by simp) (by simp)
    have h1 : u.oneCell' = true := by obtain ⟨a, cap, e, -⟩ := h0.form; rw [e]; rfl
    exact ⟨⟨(u, x), h0, h1⟩ :: dl, by simp [e1], by simp [e2]⟩
  | [], _ :: _, h, _ => by simp at h
  | _ :: _, [], h, _ => by simp at h

theorem sort_any (B : Nat) (E : Nat → Prop) (w : World) (a : Option Addr) (l c : Nat) (xs : List (List Int)) (h : OwnE 53 B E w (.slice a l c) xs) (hE : ∀ b, b < w.heap.size → E b → ¬ OB (.slice a l c) b) (hn : xs.length ≤ 1000000000) :
    Calls Tryd.prog 61 #[.slice a l c, .func (.func 62) #[] #[]] w fun e w' => e = .returned (.tuple #[]) ∧ ∃ ys, ys.Perm xs ∧ ys.Pairwise (fun a b => Cov.ltL b a = false) ∧ OwnE 53 B E w' (.slice a l c) ys ∧ Turns (OB (.slice a l c)) w w' := by
  obtain ⟨us, ⟨h1, h1'⟩, h2, h3⟩ := h
  rcases h1' with ⟨h0, h00⟩ | ⟨g, cap, cur, he, hbg, hg, hroom, hcm, hsz, htk⟩
  · cases h0
    obtain rfl : xs = [] := by
      exact List.eq_nil_of_length_eq_zero h00
    have hS := AnyF.slices_SortFunc_none (P := Tryd.prog) (ρ := Tryd.sortL_ren) { Tryd.sortL with } none 0 (.func (.func 62) #[] #[]) w
    refine Calls.mono hS ?_
    rintro e w' ⟨rfl, rfl⟩
    exact ⟨rfl, [], List.Perm.refl _, List.Pairwise.nil, OwnE.nil _ _ _ _, Turns.refl _ _⟩
  · cases he
    obtain ⟨dl, e1, e2⟩ := els us xs h2 h3
    have hdl : dl.length = xs.length := by rw [← e2, List.length_map]
    have hlt := (Array.getElem?_eq_some_iff.1 hg).1
    have hcur : ∀ j (h : j < dl.length), cur[j]? = some (encE dl[j]) := fun j h => by
      have : us[j]? = some (encE dl[j]) := by rw [← e1, List.getElem?_map, List.getElem?_eq_getElem h]; rfl
      rw [← htk, List.getElem?_take, if_pos (by omega)] at this
      simpa using this
    have hH : Holds encE w g 0 dl.toArray := fun j hj => by
      have hj' : j < dl.length := by simpa using hj
      have ej : dl.toArray[j]! = dl[j] := by simp [getElem!_pos, hj']
      rw [ej, Nat.zero_add]
      constructor
      · simp [World.cell?, hg, hcur j hj']
      · simp [World.frozen?, hg]
    have hcmp : CmpLays1 Tryd.prog 62 #[] (encE (E := E) (w := w)) cfE g 0 dl.toArray.size w := fun m os dk hs x y => by
      have hk : KeepS E w (sortWorld encE w g 0 m dk os) := fun b hb hlt => sortWorld_block encE w g m dk os hlt (fun e => hE b hlt hb (by rw [e]; rfl))
      refine Calls.mono (left2_any x.1.2 y.1.2 x.1.1 y.1.1 E E (sortWorld encE w g 0 m dk os) (IntsV.keep x.2.1 hk) (IntsV.keep y.2.1 hk)) ?_
      rintro e w' ⟨h1, h2⟩
      exact ⟨h1, 0, #[], by rw [grow_empty]; exact h2.symm⟩
    have hS := Any.slices_SortFunc Tryd.sortL (encE (E := E) (w := w)) (fun x => x.2.2) cfE swoE 62 #[] g 0 c dl.toArray w (fn_enters Tryd.func62 (by kernel_rfl) rfl) hcmp hH hlt (by simp; omega)
    have hdz : dl.toArray.size = xs.length := by simp [hdl]
    rw [hdz] at hS
    refine Calls.mono hS ?_
    rintro e w' ⟨rfl, d', n, os, ⟨p1, -, p3⟩, hsort, rfl⟩
    rw [hdz] at p1
    have x1 : d'.extract 0 xs.length = d' := by rw [← p1]; simp
    have x2 : dl.toArray.extract 0 xs.length = dl.toArray := by rw [← hdz]; simp
    rw [x1, x2] at p3
    have hk : KeepS E w (sortWorld encE w g 0 n d' os) := fun b hb hlt => sortWorld_block encE w g n d' os hlt (fun e => hE b hlt hb (by rw [e]; rfl))
    have hlen : d'.toList.length = xs.length := by simpa using p1
    refine ⟨rfl, d'.toList.map (fun x => x.1.2), ?_, ?_, ?_, ?_⟩
    · have := p3.map (fun x => x.1.2)
      rw [← e2]
      simpa using this
    · rw [List.pairwise_iff_getElem]
      intro i j hi hj hij
      have hi' : i < d'.size := by simpa using hi
      have hj' : j < d'.size := by simpa using hj
      have := hsort i j (Nat.zero_le _) hij (by omega)
      rw [ltE, getElem!_pos d' i hi', getElem!_pos d' j hj'] at this
      simpa using this
    · refine ⟨d'.toList.map (fun x => x.1.1), ⟨by simp, .inr ⟨g, c, putCells encE 0 d' cur, by simp [hlen], hbg, sortWorld_row encE w g n d' os hg, by simp [p1]; omega, hcm, by simp [putCells, hsz], ?_⟩⟩, by simp, fun j k1 k2 => ?_⟩
      · apply List.ext_getElem?
        intro j
        rw [List.getElem?_take]
        simp only [List.length_map, Array.length_toList, Nat.mul_one, putCells, Array.getElem?_toList, Array.getElem?_mapIdx, List.getElem?_map]
        by_cases hj : j < d'.size
        · have hjc : j < cur.size := by rw [hsz]; omega
          rw [if_pos hj, Array.getElem?_eq_getElem hjc, Array.getElem?_eq_getElem hj]
          simp [hj, encE, getElem!_pos]
        · rw [if_neg hj, Array.getElem?_eq_none (by omega)]
          rfl
      · simp only [List.getElem_map]
        exact IntsV.keep (d'.toList[j]'(by simpa using k1)).2.1 hk
    · have := sortWorld_turns (encE (E := E) (w := w)) w g n d' os
      exact ⟨this.os, this.tape, this.output, this.size, fun b hb hl => this.block b (fun e => hb (by rw [e]; rfl)) hl⟩

end Go.Proofs.YtjaejnacdanpkaaDoor
