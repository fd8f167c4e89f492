/- Regions that draw their order: first operations that only read (in every world of a class), then operations in one order that may make memory; the operations from n on wait for all others. -/
import Derived.Test.YtagnjhhbbjbhcaaRep
import Derived.StillTail
import Derived.BigQuiet
import Derived.Deep.QuietTactic
namespace Go.Proofs.Ytagnjhhbbjbhcaa
open Go.RowKit

section
variable {P : Program} {ops : Array Oper} {md : Region.Mode} {C : World → Prop}

/-- Nothing but the way on. -/
def QN (K : Act → World → Prop) : Exit → Act → World → Prop
  | .normal, a, w => K a w
  | _, _, _ => False

theorem letsOut_QN {K : Act → World → Prop} : ¬ LetsOut (QN K) := by
  rintro ⟨a, w, h⟩
  exact h

/-- Operation i is carried out; it leaves a world of the class. -/
def hOp (P : Program) (ops : Array Oper) (C : World → Prop) (i : Nat) (K : Act → World → Prop) (a : Act) (w : World) : Prop :=
  wpOp P ops (QN fun _ _ => False) i (fun a' w' => C w' ∧ K a' w') a w

theorem hOp_mono {i : Nat} {a : Act} {w : World} {K K' : Act → World → Prop} (h : ∀ a w, C w → K a w → K' a w) (hh : hOp P ops C i K a w) : hOp P ops C i K' a w :=
  wpOp_mono (fun a w hk => ⟨hk.1, h a w hk.1 hk.2⟩) hh

theorem wp_exit {o : Oper} {a : Act} {w : World} {K : Act → World → Prop} {Q Q' : Exit → Act → World → Prop} (hp : ∀ c a w, Q (.panic c) a w → Q' (.panic c) a w) (ho : LetsOut Q → LetsOut Q')
    (h : o.wp P a w K Q) : o.wp P a w K Q' := by
  unfold Oper.wp at *
  generalize (execOp a.eval o).run P w = r at *
  cases r with
  | ok n w' =>
    cases n <;> simp only [Oper.upon] at h ⊢
    case enter f args =>
      refine Calls.mono h fun e w'' he => ?_
      cases e with
      | returned u => exact he
      | panicked c => exact hp _ _ _ he
      | outgrown => exact ho he
    all_goals exact h
  | halt x w' =>
    cases x <;> simp only [Oper.upon] at h ⊢
    case panic u => exact hp _ _ _ h

theorem wpOp_exit {i : Nat} {a : Act} {w : World} {K : Act → World → Prop} {Q Q' : Exit → Act → World → Prop} (hp : ∀ c a w, Q (.panic c) a w → Q' (.panic c) a w) (ho : LetsOut Q → LetsOut Q')
    (h : wpOp P ops Q i K a w) : wpOp P ops Q' i K a w := by
  unfold wpOp at *
  split
  · rename_i hi; simp only [hi] at h; exact h
  · rename_i o hi
    simp only [hi] at h
    split
    · rename_i hw
      simp only [hw, if_true] at h
      rcases h with h | ⟨h1, h2⟩
      · exact .inl (wp_exit hp ho h)
      · exact .inr ⟨h1, ho h2⟩
    · rename_i hw
      simp only [hw] at h
      exact h

/-- In every world of the class the operation yields v, and turns nothing. -/
def YieldsC (P : Program) (ops : Array Oper) (C : World → Prop) (o : Oper) (v : Value) (a : Act) : Prop :=
  (Region.wanted o (yielded ops a.tmps) = true ∧ ∀ w, C w → (execOp a.eval o).run P w = .ok (.value v) w) ∨
  (Region.wanted o (yielded ops a.tmps) = false ∧ v = undef)

theorem YieldsC.wpOp {i : Nat} {o : Oper} {v : Value} {a : Act} (hi : ops[i]? = some o) (hy : YieldsC P ops C o v a) {K : Act → World → Prop} {Q : Exit → Act → World → Prop} {w : World} (hC : C w) (h : K (a.put o.dst v) w) :
    wpOp P ops Q i K a w := by
  unfold Go.wpOp
  simp only [hi]
  rcases hy with ⟨hw, hv⟩ | ⟨hw, rfl⟩
  · simp only [hw, if_true, Oper.wp, hv w hC, Oper.upon]; exact .inl h
  · simp only [hw, Bool.false_eq_true, if_false]; exact h

theorem YieldsC.of_same {o : Oper} {v : Value} {a a' : Act} (hy : YieldsC P ops C o v a) (he : execOp a'.eval o = execOp a.eval o)
    (hw : Region.wanted o (yielded ops a'.tmps) = Region.wanted o (yielded ops a.tmps)) : YieldsC P ops C o v a' := by
  unfold YieldsC at *
  rw [he, hw]
  exact hy

theorem hOp_put {j : Nat} {oi oj : Oper} {v : Value} (hj : ops[j]? = some oj) (hap : oi.apart ops oj = true)
    (hsi : ∀ cs b, oi.op ≠ .select cs b) (hsj : ∀ cs b, oj.op ≠ .select cs b) {K : Act → World → Prop} {a : Act} {w : World}
    (hy : YieldsC P ops C oi v a) (h : hOp P ops C j K (a.put oi.dst v) w) :
    hOp P ops C j (fun a' w' => YieldsC P ops C oi v a' ∧ K (a'.put oi.dst v) w') a w := by
  obtain ⟨h1, h2, h3⟩ := Oper.apart_spec hap
  have keep : ∀ (a : Act), YieldsC P ops C oi v a → ∀ u, YieldsC P ops C oi v (a.put oj.dst u) := fun a hy u =>
    hy.of_same (execOp_put oi hsi a oj.dst u h3) (wanted_put oi a oj.dst u h3)
  have keepD : ∀ d, YieldsC P ops C oi v { a with defers := d :: a.defers } := fun d => hy.of_same rfl rfl
  unfold hOp wpOp at *
  simp only [hj] at *
  rw [wanted_put oj a oi.dst v h1] at h
  split
  · rename_i hw
    simp only [hw, if_true] at h
    rcases h with h | ⟨_, hlets⟩
    case inr => exact absurd hlets letsOut_QN
    refine .inl ?_
    unfold Oper.wp at *
    rw [execOp_put oj hsj a oi.dst v h1] at h
    generalize (execOp a.eval oj).run P w = r at *
    cases r with
    | ok n w' =>
      cases n <;> simp only [Oper.upon] at h ⊢
      case value u => exact ⟨h.1, keep a hy u, by rw [← Act.put_comm a v u h2]; exact h.2⟩
      case skip => exact ⟨h.1, keep a hy _, by rw [← Act.put_comm a v undef h2]; exact h.2⟩
      case defer d =>
        refine ⟨h.1, keep _ (keepD d) _, ?_⟩
        rw [← Act.put_comm _ v undef h2, ← Act.put_defers]
        exact h.2
      case enter f args =>
        refine Calls.mono h fun e w'' he => ?_
        cases e with
        | returned u => exact ⟨he.1, keep a hy u, by rw [← Act.put_comm a v u h2]; exact he.2⟩
        | panicked c => exact he
        | outgrown => exact he
      case row row args => exact Rows.mono h fun u w'' he => ⟨he.1, keep a hy u, by rw [← Act.put_comm a v u h2]; exact he.2⟩
    | halt x w' =>
      cases x <;> simp only [Oper.upon] at h ⊢
      case panic u => exact h
  · rename_i hw
    simp only [hw] at h
    exact ⟨h.1, keep a hy _, by rw [← Act.put_comm a v undef h2]; exact h.2⟩

/-- Whatever order of the first n operations; then L. -/
def wpAnyH (P : Program) (md : Region.Mode) (ops : Array Oper) (C : World → Prop) (n : Nat) (L : Array Bool → Act → World → Prop) : Nat → Array Bool → Act → World → Prop
  | 0, listed, a, w => L listed a w
  | f + 1, listed, a, w =>
    Region.ready md ops listed ≠ [] ∧ ∀ i ∈ Region.ready md ops listed, i < n ∧ hOp P ops C i (wpAnyH P md ops C n L f (listed.setIfInBounds i true)) a w

theorem wpAny_of_headH {n g : Nat} {L : Array Bool → Act → World → Prop} {Q' : Exit → Act → World → Prop} (hL : ∀ listed a w, L listed a w → wpAny P md ops Q' g listed a w) :
    ∀ (f : Nat) (listed : Array Bool) (a : Act) (w : World), wpAnyH P md ops C n L f listed a w → wpAny P md ops Q' (f + g) listed a w
  | 0, listed, a, w, h => by rw [Nat.zero_add]; exact hL _ _ _ h
  | f + 1, listed, a, w, h => by
    rw [show f + 1 + g = (f + g) + 1 by omega]
    exact ⟨fun h0 => absurd h0 h.1, fun i hi => wpOp_exit (fun _ _ _ hf => absurd hf (by simp [QN])) (fun hl => absurd hl letsOut_QN) (wpOp_mono (fun a' w' h' => wpAny_of_headH hL f _ a' w' h'.2) (h.2 i hi).2)⟩

theorem wpAnyH_first {n i : Nat} {oi : Oper} {v : Value} {L : Array Bool → Act → World → Prop} (hi : ops[i]? = some oi) (hsel : ∀ (j : Nat) (o : Oper) cs b, ops[j]? = some o → o.op ≠ .select cs b)
    (hs : Region.sinkB md ops n = true) (hc : Region.chainB md ops n = true) (hn : n < ops.size) (hin : i < n)
    (hdone : ∀ listed a w, L listed a w → ∀ j ∈ Region.ready md ops listed, n ≤ j) :
    ∀ (f : Nat) (listed : Array Bool) (a : Act) (w : World), C w → HeadInv md ops n listed →
      (∀ j oj, ops[j]? = some oj → j ≠ i → listed.getD j true = false → (∀ e ∈ oj.after, Region.binds md e = true → e.on ≠ i) → oi.apart ops oj = true) →
      i ∈ Region.ready md ops listed → YieldsC P ops C oi v a →
      wpAnyH P md ops C n L f (listed.setIfInBounds i true) (a.put oi.dst v) w → wpAnyH P md ops C n L (f + 1) listed a w := by
  intro f
  induction f with
  | zero =>
    intro listed a w hCw inv _ hr hy H
    have hun := (mem_ready.1 hr).1
    refine ⟨fun h => (by rw [h] at hr; cases hr), fun j hj => ?_⟩
    have hjn : j < n := by
      rcases Nat.lt_or_ge j n with h | h
      · exact h
      · exact absurd hj (tail_waits hs hc hn inv _ i rfl hin hun j h)
    refine ⟨hjn, ?_⟩
    by_cases hji : j = i
    · subst hji; exact hy.wpOp hi hCw ⟨hCw, H⟩
    · have := hdone _ _ _ H j (ready_mono hj hji)
      omega
  | succ f ih =>
    intro listed a w hCw inv hfree hr hy H
    have hun := (mem_ready.1 hr).1
    refine ⟨fun h => (by rw [h] at hr; cases hr), fun j hj => ?_⟩
    have hjn : j < n := by
      rcases Nat.lt_or_ge j n with h | h
      · exact h
      · exact absurd hj (tail_waits hs hc hn inv _ i rfl hin hun j h)
    refine ⟨hjn, ?_⟩
    by_cases hji : j = i
    · subst hji; exact hy.wpOp hi hCw ⟨hCw, H⟩
    · have h1 := (H.2 j (ready_mono hj hji)).2
      obtain ⟨hjun, oj, hoj, hall⟩ := mem_ready.1 hj
      have hnot : ∀ e ∈ oj.after, Region.binds md e = true → e.on ≠ i := fun e he hb heq => by
        have h1 := hall e he hb
        rw [heq, getD_both hun] at h1
        cases h1
      have h2 := hOp_put hoj (hfree j oj hoj hji hjun hnot) (fun cs b => hsel i oi cs b hi) (fun cs b => hsel j oj cs b hoj) hy h1
      have hfree' : ∀ k ok, ops[k]? = some ok → k ≠ i → (listed.setIfInBounds j true).getD k true = false →
          (∀ e ∈ ok.after, Region.binds md e = true → e.on ≠ i) → oi.apart ops ok = true := fun k ok hk hki hun hno => by
        refine hfree k ok hk hki ?_ hno
        by_cases hjk : j = k
        · subst hjk; exact hjun
        · rw [getD_set_ne true hjk] at hun; exact hun
      refine hOp_mono (fun a' w' hCw' h3 => ih (listed.setIfInBounds j true) a' w' hCw' (inv.set hj hjn) hfree' (ready_mono hr (Ne.symm hji)) h3.1 ?_) h2
      rw [Array.setIfInBounds_comm _ _ hji]
      exact h3.2

/-- Operations that call no Go function. -/
def quietOp : Op → Bool
  | .move _ | .assign _ | .pick .. | .load .. | .binOp .. | .unOp .. | .build .. | .fieldAddr .. | .field .. | .indexAddr .. | .index .. | .slice .. | .extract .. | .convert .. => true
  | .call { callee := .builtin .len, .. } | .call { callee := .builtin .cap, .. } | .call { callee := .builtin .min, .. } | .call { callee := .builtin .max, .. } => true
  | _ => false

theorem noEnter_v {s : Sem Value} {w w' : World} {nx : Next} (hn : ∀ v, nx ≠ .value v) : (do pure (Next.value (← s)) : Sem Next).run P w ≠ .ok nx w' := by
  rw [Sem.run_bind]
  cases s.run P w with
  | ok a w1 => intro e; cases e; exact hn _ rfl
  | halt h w1 => intro e; cases e

theorem noEnter_if {s : Sem Bool} {x y : Value} {w w' : World} {nx : Next} (hn : ∀ v, nx ≠ .value v) : (do pure (Next.value (if ← s then x else y)) : Sem Next).run P w ≠ .ok nx w' := by
  rw [Sem.run_bind]
  cases s.run P w with
  | ok a w1 => intro e; cases e; exact hn _ rfl
  | halt h w1 => intro e; cases e

theorem quietOp_noEnter {o : Oper} (h : quietOp o.op = true) {ρ : Operand → Value} {w w' : World} {nx : Next} (hn : ∀ v, nx ≠ .value v) : (execOp ρ o).run P w ≠ .ok nx w' := by
  unfold execOp
  generalize o.op = op at *
  unfold quietOp at h
  split at h
  all_goals first
    | exact noEnter_v hn
    | exact noEnter_if hn
    | (intro e; cases e; exact hn _ rfl)
    | (simp only [resolve, invoke, builtin]; exact noEnter_v hn)
    | (exact absurd h (by simp))

/-- Of the frame at the end, once every operation of the list has been carried out or passed over. -/
theorem wpAnyH_take {n i : Nat} {oi : Oper} {v : Value} {L : Array Bool → Act → World → Prop} {f : Nat} {listed : Array Bool} {a : Act} {w : World} (hi : ops[i]? = some oi)
    (hsel : Region.noSelect ops = true) (hs : Region.sinkB md ops n = true) (hc : Region.chainB md ops n = true) (hn : n < ops.size) (hin : i < n)
    (hdone : ∀ listed a w, L listed a w → ∀ j ∈ Region.ready md ops listed, n ≤ j) (hCw : C w) (inv : HeadInv md ops n listed) (hf : Region.free md ops listed i = true) (hr : (Region.ready md ops listed).contains i = true)
    (hy : YieldsC P ops C oi v a) (h : wpAnyH P md ops C n L f (listed.setIfInBounds i true) (a.put oi.dst v) w) : wpAnyH P md ops C n L (f + 1) listed a w :=
  wpAnyH_first hi (Region.noSelect_spec hsel) hs hc hn hin hdone f listed a w hCw inv (Region.free_spec hi hf) (by simpa using hr) hy h

/-- The operations of a chain, each alone; then the rest. -/
def wpChain (P : Program) (ops : Array Oper) (C : World → Prop) (R : Act → World → Prop) : List Oper → Act → World → Prop
  | [], a, w => R a w
  | o :: l, a, w => wpList P ops (QN fun a' w' => C w' ∧ wpChain P ops C R l a' w') [o] a w

/-- Operations k, k + 1, ..: the first ones only read, and are taken first; the others of the first n come one behind the other. -/
def Region.headB (md : Region.Mode) (ops : Array Oper) (n : Nat) : (f q k : Nat) → Array Bool → Bool
  | 0, _, k, listed => k == n && Region.seqB md ops (ops.size - n) n listed
  | f + 1, 0, k, listed => decide (Region.ready md ops listed = [k]) && decide (k < n) && Region.headB md ops n f 0 (k + 1) (listed.setIfInBounds k true)
  | f + 1, q + 1, k, listed => (Region.ready md ops listed).contains k && Region.free md ops listed k && decide (k < n) && ((ops[k]?).map (fun o => quietOp o.op)).getD false && Region.headB md ops n f q (k + 1) (listed.setIfInBounds k true)

/-- The Bool of the law: m operations that only read, then c of a chain, then those that wait for all. -/
def Region.chainTailB (md : Region.Mode) (ops : Array Oper) (m c : Nat) : Bool :=
  Region.noSelect ops && decide (m + c < ops.size) && Region.sinkB md ops (m + c) && Region.chainB md ops (m + c) && Region.headB md ops (m + c) (m + c) m 0 (Array.replicate ops.size false)

theorem seqB_ge {n g k : Nat} {listed : Array Bool} (h : Region.seqB md ops g k listed = true) (hk : n ≤ k) : ∀ j ∈ Region.ready md ops listed, n ≤ j := by
  intro j hj
  have := seqB_ready h j hj
  omega

theorem wpOp_of_list {k : Nat} {o : Oper} {a : Act} {w : World} {K : Act → World → Prop} (hk : ops[k]? = some o) (h : wpList P ops (QN fun a' w' => C w' ∧ K a' w') [o] a w) : hOp P ops C k K a w := by
  unfold hOp wpOp
  simp only [hk]
  unfold wpList at h
  split
  · rename_i hw
    rw [if_pos hw] at h
    rcases h with h | ⟨_, h2⟩
    · refine .inl (wp_exit (Q := QN fun a' w' => C w' ∧ K a' w') (fun _ _ _ hf => hf) (fun hl => absurd hl letsOut_QN) ?_)
      exact Oper.wp_mono (fun a' w' h' => h') h
    · exact absurd h2 letsOut_QN
  · rename_i hw
    rw [if_neg hw] at h
    exact h

theorem wpAnyH_walk {n : Nat} {Lq : Act → World → Prop} (hsel : Region.noSelect ops = true) (hs : Region.sinkB md ops n = true) (hc : Region.chainB md ops n = true) (hn : n < ops.size) {w : World} (hC : C w) :
    ∀ (q c k : Nat) (listed : Array Bool) (a : Act), HeadInv md ops n listed → k + q + c = n → Region.headB md ops n (q + c) q k listed = true →
    wpQuiet P ops C (fun a' => wpChain P ops C Lq ((ops.toList.drop (k + q)).take c) a' w) ((ops.toList.drop k).take q) a →
    wpAnyH P md ops C n (fun listed' a' w' => Region.seqB md ops (ops.size - n) n listed' = true ∧ Lq a' w') (q + c) listed a w
  | q + 1, c, k, listed, a, inv, hk, hB, h => by
    rw [show q + 1 + c = (q + c) + 1 by omega] at hB
    simp only [Region.headB, Bool.and_eq_true, decide_eq_true_eq] at hB
    obtain ⟨⟨⟨⟨hr, hf⟩, hkn⟩, hq⟩, hB⟩ := hB
    have hks : k < ops.toList.length := by simp; omega
    have h0 : ops[k]? = some (ops.toList[k]'hks) := by simp
    generalize ops.toList[k]'hks = o at h0
    have hd : ops.toList.drop k = o :: ops.toList.drop (k + 1) := by
      rw [List.drop_eq_getElem_cons hks]
      congr 1
      have : ops[k]? = some (ops.toList[k]'hks) := by simp
      exact Option.some.inj (this.symm.trans h0)
    rw [hd, List.take_succ_cons] at h
    have hqo : quietOp o.op = true := by rw [h0] at hq; simpa using hq
    have e1 : k + (q + 1) = k + 1 + q := by omega
    rw [e1] at h
    rw [show q + 1 + c = (q + c) + 1 by omega]
    unfold wpQuiet at h
    split at h
    · rename_i hw
      obtain ⟨v, h1, h2⟩ := h
      have hy : YieldsC P ops C o v a := .inl ⟨hw, fun w1 hC1 => by
        have g := h1 w1 hC1
        unfold Oper.quietAt at g
        generalize hr1 : (execOp a.eval o).run P w1 = r at g ⊢
        cases r with
        | ok nx w2 =>
          cases nx with
          | value u => obtain ⟨e1, e2⟩ := g; rw [e1, e2]
          | _ => exact absurd hr1 (quietOp_noEnter hqo (by intro v; simp))
        | halt x w2 => exact g.elim⟩
      exact wpAnyH_take h0 hsel hs hc hn hkn (fun listed' a' w' hL => seqB_ge hL.1 (Nat.le_refl _)) hC inv hf hr hy
        (wpAnyH_walk hsel hs hc hn hC q c (k + 1) _ _ (inv.set (by simpa using hr) hkn) (by omega) hB h2)
    · rename_i hw
      exact wpAnyH_take h0 hsel hs hc hn hkn (fun listed' a' w' hL => seqB_ge hL.1 (Nat.le_refl _)) hC inv hf hr (.inr ⟨by simpa using hw, rfl⟩)
        (wpAnyH_walk hsel hs hc hn hC q c (k + 1) _ _ (inv.set (by simpa using hr) hkn) (by omega) hB h)
  | 0, c + 1, k, listed, a, inv, hk, hB, h => by
    rw [show 0 + (c + 1) = c + 1 by omega] at hB
    simp only [Region.headB, Bool.and_eq_true, decide_eq_true_eq] at hB
    obtain ⟨⟨hr, hkn⟩, hB⟩ := hB
    have hks : k < ops.toList.length := by simp; omega
    have h0 : ops[k]? = some (ops.toList[k]'hks) := by simp
    have hd : ops.toList.drop k = ops.toList[k]'hks :: ops.toList.drop (k + 1) := List.drop_eq_getElem_cons hks
    generalize ops.toList[k]'hks = o at h0 hd
    rw [List.take_zero] at h
    have h' : wpChain P ops C Lq ((ops.toList.drop k).take (c + 1)) a w := h
    rw [hd, List.take_succ_cons] at h'
    rw [show 0 + (c + 1) = (0 + c) + 1 by omega]
    refine ⟨by rw [hr]; simp, fun i hi => ?_⟩
    rw [hr] at hi
    obtain rfl : i = k := by simpa using hi
    refine ⟨hkn, hOp_mono (fun a' w' hC' h3 => ?_) (wpOp_of_list h0 h')⟩
    exact wpAnyH_walk hsel hs hc hn hC' 0 c (i + 1) _ _ (inv.set (by rw [hr]; simp) hkn) (by omega) (by rw [Nat.zero_add]; exact hB) (by rw [List.take_zero]; exact h3)
  | 0, 0, k, listed, a, inv, hk, hB, h => by
    simp only [Region.headB, Bool.and_eq_true, beq_iff_eq] at hB
    rw [List.take_zero] at h
    exact ⟨hB.2, h⟩

/-- **The law.** m operations that only read, in every world of C; c operations, one behind the other, each leaving a world of C; then the rest, which waits for all. -/
theorem wp_region_chain {id : Nat} {Q : Exit → Act → World → Prop} {a : Act} {w : World} {l : List Oper} (m c : Nat) (C : World → Prop) (hm : P.follows .mixedOrders = true) (hB : Region.chainTailB .any l.toArray m c = true) (hC : C (w.drewN 1))
    (h : wpQuiet P l.toArray C (fun a' => wpChain P l.toArray C (fun a' w' => wpList P l.toArray Q (l.drop (m + c)) a' w') ((l.drop m).take c) a' (w.drewN 1)) (l.take m) a) : (Code.region id l.toArray true).wp P Q a w := by
  simp only [Region.chainTailB, Bool.and_eq_true, decide_eq_true_eq] at hB
  obtain ⟨⟨⟨⟨hsel, hn⟩, hs⟩, hc⟩, hlex⟩ := hB
  have inv0 : HeadInv .any l.toArray (m + c) (Array.replicate l.toArray.size false) :=
    ⟨by simp, fun j oj _ hl => (by rw [getD_replicate_false] at hl; cases hl), fun t _ ht => getD_in (by simpa using ht) (getD_replicate_false _ _)⟩
  have H := wpAnyH_walk (md := .any) (Lq := fun a' w' => wpList P l.toArray Q (l.drop (m + c)) a' w') hsel hs hc hn hC m c 0 _ a inv0 (by omega) hlex (by simpa using h)
  refine wp_region_any hm ?_
  have hdl : (l.drop (m + c)).length = l.toArray.size - (m + c) := by simp
  have := wpAny_of_headH (Q' := Q) (g := l.toArray.size - (m + c)) (fun listed a' w' hL => by
    have := wpAny_of_seq (md := .any) (Q' := Q) (l.drop (m + c)) (m + c) listed a' w' (fun j => by simp [List.getElem?_drop]) (by rw [hdl]; exact hL.1) hL.2
    rwa [hdl] at this) _ _ _ _ H
  rw [show m + c + (l.toArray.size - (m + c)) = l.toArray.size by omega] at this
  exact this

end

theorem below_drewN {B : Nat} {a w : World} (h : Below B a w) (n : Nat) : Below B a (w.drewN n) := ⟨h.os, h.tape, h.output, h.size, h.block⟩
theorem qn_mk {K : Act → World → Prop} {a : Act} {w : World} (h : K a w) : QN K .normal a w := h

/-- The worlds that have grown out of w. -/
def Grew (w : World) : Type := { W : World // Below w.heap.size w W }
theorem Grew.cell {w : World} (x : Grew w) (b o : Nat) (h : b < w.heap.size) : x.1.cell? ⟨b, o, none⟩ = w.cell? ⟨b, o, none⟩ := x.2.cell (p := ⟨b, o, none⟩) h
theorem Grew.cellN {w : World} {n : Nat} (x : Grew (w.drewN n)) (b o : Nat) (h : b < w.heap.size) : x.1.cell? ⟨b, o, none⟩ = w.cell? ⟨b, o, none⟩ := x.2.cell (p := ⟨b, o, none⟩) h
instance (w : World) : Nonempty (Grew w) := ⟨⟨w, Below.refl _ _⟩⟩
/-- The class of these worlds. -/
def InGrew (w : World) : World → Prop := fun W => ∃ x : Grew w, W = x.1
theorem InGrew.of {w W : World} (h : Below w.heap.size w W) : InGrew w W := ⟨⟨W, h⟩, rfl⟩

theorem InGrew.alloc1 (w : World) (n : Nat) (o : Obj) : InGrew (w.drewN n) ((w.drewN (n + 1)).alloc o) :=
  .of ⟨rfl, rfl, rfl, by simp, fun k hk => Below.heap_alloc (w.drewN (n + 1)) o k hk⟩

/-- The law at the worlds that have grown out of w. -/
theorem wp_region_grew {P : Program} {id : Nat} {Q : Exit → Act → World → Prop} {a : Act} {w : World} {l : List Oper} (m c : Nat) (hm : P.follows .mixedOrders = true) (hB : Region.chainTailB .any l.toArray m c = true)
    (h : wpQuiet P l.toArray (fun W => ∃ x : Grew w, W = x.1) (fun a' => wpChain P l.toArray (InGrew w) (fun a' w' => wpList P l.toArray Q (l.drop (m + c)) a' w') ((l.drop m).take c) a' (w.drewN 1)) (l.take m) a) : (Code.region id l.toArray true).wp P Q a w :=
  wp_region_chain m c (InGrew w) hm hB (.of ⟨rfl, rfl, rfl, Nat.le_refl _, fun _ _ => rfl⟩) h

/-- A region that draws its order, whose first n operations only read, and whose others have one order: the reading is walked in the order of the text. -/
theorem wpStill_of_quiet {P : Program} {ops : Array Oper} {w : World} {Q : Act → Prop} : ∀ (l : List Oper) (a : Act), wpQuiet P ops (fun w' => w' = w) Q l a → wpStill P ops w Q l a
  | [], _, h => h
  | o :: l, a, h => by
    unfold wpQuiet at h
    unfold wpStill
    split
    · rename_i hw
      rw [if_pos hw] at h
      obtain ⟨v, h1, h2⟩ := h
      have h3 := h1 w rfl
      have h4 := wpStill_of_quiet l _ h2
      unfold Oper.quietAt at h3
      unfold Oper.still
      generalize (execOp a.eval o).run P w = r at *
      cases r with
      | ok n w' =>
        cases n <;> simp only [Oper.quietUpon] at h3 <;> simp only [Oper.stillUpon]
        case value u => obtain ⟨e1, e2⟩ := h3; subst e2; exact ⟨e1, h4⟩
        case skip => obtain ⟨e1, e2⟩ := h3; subst e2; exact ⟨e1, h4⟩
        case enter f args => obtain ⟨e1, hc⟩ := h3; exact ⟨e1, v, hc, h4⟩
      | halt x w' => simp only [Oper.quietUpon] at h3
    · rename_i hw
      rw [if_neg hw] at h
      exact wpStill_of_quiet l _ h

theorem wp_region_quiet_tail {P : Program} {id : Nat} {Q : Exit → Act → World → Prop} {a : Act} {w : World} {l : List Oper} (n : Nat) (hm : P.follows .mixedOrders = true) (hB : Region.lexTailB .any l.toArray n = true)
    (h : wpQuiet P l.toArray (fun w' => w' = w.drewN 1) (fun a' => wpList P l.toArray Q (l.drop n) a' (w.drewN 1)) (l.take n) a) : (Code.region id l.toArray true).wp P Q a w :=
  wp_region_still_tail n hm hB (wpStill_of_quiet _ _ h)

end Go.Proofs.Ytagnjhhbbjbhcaa
