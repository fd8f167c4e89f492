/- DiffFewest: for all arguments it returns true. -/
import Derived.Test.YtagnjhhbbjbhcaaA13
namespace Go.Proofs.Ytagnjhhbbjbhcaa
open Go.RowKit

section
variable {P : Program} {t e : TypeId} {bytes : Nat} {w : World} {ops : Array Oper} {rest : List Oper} {o : Oper} {a : Act} {Q : Exit → Act → World → Prop}

/-- 'append(s, x...)' of changes that read as a slice. -/
theorem wpList_appCC (hgd : o.guard = none) (s x : Operand)
    (ho : o.op = .call { callee := .builtin .append, args := #[s, x], argTypes := #[t, t] }) (hT : AppT P t e 6 bytes)
    {T : Nat → Prop} {B : Nat} {v : Value} {cs : List Chg} (hs : a.eval s = v) (hown : OwnC AnyB B e w v cs)
    {ao : Option Addr} {m c : Nat} (hx : a.eval x = .slice ao m c) {ds : List Chg} (hds : ChV T w (.slice ao m c) ds) (hTv : ∀ b, T b → some b ≠ v.ownBlock)
    (hsmall : cs.length + ds.length ≤ 1000000000) (hbase : B ≤ w.heap.size)
    (h : ∀ v' w', OwnC AnyB B e w' v' (cs ++ ds) → Below B w w' → wpList P ops Q rest (a.put o.dst v') w') :
    wpList P ops Q (o :: rest) a w := by
  obtain ⟨hm, hok, us', hl, hnews, h1, hu⟩ := hds.news
  have hlt := hown.lt
  refine wpList_appC hgd s x ho hT hs hown hx hok ds us' hl hm.symm hnews h1 (fun j g1 g2 => (hu j g1 g2).mono (fun b _ hb => ⟨trivial, hTv b hb⟩)) (by rw [hm]; exact hsmall) hbase (fun v' w' g1 g2 => h v' w' g1 (g2.below hbase (fun b hb => (hlt b hb).1)))
end

theorem lit3C (w : World) (t : TypeId) {va vb vc : Value} {A B C : List Chg} (hA : ChV AnyB w va A) (hB : ChV AnyB w vb B) (hC : ChV AnyB w vc C) :
    SlV (fun w => ChV AnyB w) AnyB (w.alloc (.cells #[va, vb, vc] t)) (.slice (some ⟨w.heap.size, 0, none⟩) 3 3) [A, B, C] := by
  have hb : Below w.heap.size w (w.alloc (.cells #[va, vb, vc] t)) := (Below.refl _ _).alloc (Nat.le_refl _) _
  refine sl_blk [va, vb, vc] [A, B, C] (heap_new _ _ rfl) rfl (by simp) (fun j g1 g2 => ?_)
  match j, g1 with
  | 0, _ => exact hA.keep (KeepS.below hb)
  | 1, _ => exact hB.keep (KeepS.below hb)
  | 2, _ => exact hC.keep (KeepS.below hb)

set_option maxRecDepth 100000 in
set_option maxHeartbeats 8000000 in
theorem fewest_any (l m k : List Int) (hl : Fit l) (hm : Fit m) (hk : Fit k) (al am ak : Option Addr) (nl nm nk cl cm ck : Nat) (w : World) (vl : IntsV AnyB w (.slice al nl cl) l) (vm : IntsV AnyB w (.slice am nm cm) m) (vk : IntsV AnyB w (.slice ak nk ck) k)
    (p1 p2 p3 : Int) (h1 : -9223372036854775808 ≤ p1 ∧ p1 ≤ 9223372036854775807) (h2 : -9223372036854775808 ≤ p2 ∧ p2 ≤ 9223372036854775807) (h3 : -9223372036854775808 ≤ p3 ∧ p3 ≤ 9223372036854775807) :
    Calls Try.prog 5 #[.slice al nl cl, .slice am nm cm, .slice ak nk ck, .int .i64 p1, .int .i64 p2, .int .i64 p3] w fun e w' => e = .returned (.bool true) ∧ Below w.heap.size w w' := by
  have sl := shapeL_ok l
  have A0 := worldL_shape (shapeL l) l sl
  have C0 := worldL_shape (shapeL l) k sl
  go_enter Try.func5, Try.ntmps5
  go_wp2_with fail
  refine (shape_any l hl _ _ w vl).mono ?_
  rintro e w1 ⟨s, rfl, hs, b1⟩
  have hs' := IntsV.mono (S' := AnyB) hs (fun _ _ _ => trivial)
  obtain ⟨as_, cs_, rfl, -, -, -⟩ := hs'.form
  have vl1 : IntsV AnyB w1 _ l := vl.keep (KeepS.below b1)
  go_wp2_with fail
  refine (world_any (shapeL l) sl l hl _ _ _ _ w1 hs' vl1).mono ?_
  rintro e w2 ⟨va, rfl, ha, b2⟩
  have hA2 := WorldV.mono (S' := AnyB) ha (fun _ _ _ => trivial)
  have b02 : Below w.heap.size w w2 := b1.trans (b2.mono b1.size)
  have hs2 := IntsV.keep hs' (KeepS.below b2)
  have vm2 : IntsV AnyB w2 _ m := vm.keep (KeepS.below b02)
  have vk2 : IntsV AnyB w2 _ k := vk.keep (KeepS.below b02)
  clear vl vl1 vm vk hs hs' ha b1 b2
  go_wp2_with fail
  refine (near_any _ (shapeL l) m A0 sl (shapeL_pos l) hm _ _ _ _ _ _ w2 hA2 hs2 vm2).mono ?_
  rintro e w3 ⟨vb, B, rfl, hb, B0, b3⟩
  have hB3 := WorldV.mono (S' := AnyB) (WorldF.sl hb) (fun _ _ _ => trivial)
  have hA3 := WorldV.keep hA2 (KeepS.below b3)
  have hs3 := IntsV.keep hs2 (KeepS.below b3)
  have vk3 := IntsV.keep vk2 (KeepS.below b3)
  have b03 : Below w.heap.size w w3 := b02.trans (b3.mono b02.size)
  clear hA2 hs2 vm2 vk2 hb b3 b02
  go_wp2_with fail
  refine (world_any (shapeL l) sl k hk _ _ _ _ w3 hs3 vk3).mono ?_
  rintro e w4 ⟨vc, rfl, hc, b4⟩
  have hC4 := WorldV.mono (S' := AnyB) hc (fun _ _ _ => trivial)
  have hA4 := WorldV.keep hA3 (KeepS.below b4)
  have hB4 := WorldV.keep hB3 (KeepS.below b4)
  have b04 : Below w.heap.size w w4 := b03.trans (b4.mono b03.size)
  clear hA3 hB3 hs3 vk3 hc b4 b03
  generalize worldL (shapeL l) l = A at *
  generalize worldL (shapeL l) k = C at *
  have okAB := shapeW_ok A0 B0 sl
  have okBC := shapeW_ok B0 C0 sl
  have okAC := shapeW_ok A0 C0 sl
  have hSA := A0.small sl
  have hSB := B0.small sl
  have hSC := C0.small sl
  have n1 := diffC_len_small A0 B0 sl
  have n2 := diffC_len_small B0 C0 sl
  have n3 := diffC_len_small A0 C0 sl
  have G1 := hid (diffC_good A0 B0 sl)
  have G2 := hid (diffC_good B0 C0 sl)
  have G3 := hid (diffC_good A0 C0 sl)
  have E1 : Hid (diffE A B = 0) := hid (by unfold diffE; rw [if_pos okAB])
  have E2 : Hid (diffE B C = 0) := hid (by unfold diffE; rw [if_pos okBC])
  have E3 : Hid (diffE A C = 0) := hid (by unfold diffE; rw [if_pos okAC])
  have tri := diff_tri okAB okBC
  have htri : decide (((diffC A C).length : Int) > ((diffC A B).length : Int) + (diffC B C).length) = false := decide_eq_false (by omega)
  clear okAB okBC okAC A0 B0 C0 sl
  obtain ⟨xa, ya, rfl, -⟩ := hA4.form
  obtain ⟨xb, yb, rfl, -⟩ := hB4.form
  obtain ⟨xc, yc, rfl, -⟩ := hC4.form
  go_wp2_with fail
  refine (pdiff_any A B hSA hSB _ _ AnyB AnyB w4 hA4 hB4).mono ?_
  rintro e w5 ⟨z1, rfl, hz1, b5⟩
  rw [E1.out]
  have hA5 := WorldV.keep hA4 (KeepS.below b5)
  have hB5 := WorldV.keep hB4 (KeepS.below b5)
  have hC5 := WorldV.keep hC4 (KeepS.below b5)
  have b05 : Below w.heap.size w w5 := b04.trans (b5.mono b04.size)
  obtain ⟨q1, r1, rfl, -⟩ := hz1.form
  clear hA4 hB4 hC4 b5 b04
  go_wp2_with fail
  refine (pdiff_any B C hSB hSC _ _ AnyB AnyB w5 hB5 hC5).mono ?_
  rintro e w6 ⟨z2, rfl, hz2, b6⟩
  rw [E2.out]
  have hA6 := WorldV.keep hA5 (KeepS.below b6)
  have hC6 := WorldV.keep hC5 (KeepS.below b6)
  have hz16 := ChV.keep hz1 (KeepS.below b6)
  have b06 : Below w.heap.size w w6 := b05.trans (b6.mono b05.size)
  obtain ⟨q2, r2, rfl, -⟩ := hz2.form
  clear hA5 hB5 hC5 hz1 b6 b05
  go_wp2_with fail
  refine (pdiff_any A C hSA hSC _ _ AnyB AnyB w6 hA6 hC6).mono ?_
  rintro e w7 ⟨z3, rfl, hz3, b7⟩
  rw [E3.out]
  have hA7 := WorldV.keep hA6 (KeepS.below b7)
  have hz17 := ChV.mono (S' := (· < w7.heap.size)) (ChV.keep hz16 (KeepS.below b7)) (fun b hb _ => hb)
  have hz27 := ChV.mono (S' := (· < w7.heap.size)) (ChV.keep hz2 (KeepS.below b7)) (fun b hb _ => hb)
  have hz37 := ChV.mono (S' := (· < w7.heap.size)) hz3 (fun b hb _ => hb)
  have b07 : Below w.heap.size w w7 := b06.trans (b7.mono b06.size)
  obtain ⟨q3, r3, rfl, -⟩ := hz3.form
  have HA := hid hA7
  have Z1 := hid hz17
  have Z2 := hid hz27
  have Z3 := hid hz37
  clear hA6 hC6 hz16 hz2 hz3 b7 b06 hA7 hz17 hz27 hz37
  have h0a : Below w7.heap.size w7 (w7.alloc (.cells #[] 61)) := (Below.refl _ _).alloc (Nat.le_refl _) _
  have hne1 : ∀ b, b < w7.heap.size → some b ≠ Value.ownBlock (.slice (some ⟨w7.heap.size, 0, none⟩) 0 0) := fun b hb e => by have := (Option.some.inj e : b = w7.heap.size); omega
  go_wp2_with (at_builtin; go_must (refine wpList_appCC (T := (· < w7.heap.size)) rfl _ _ rfl Try.app30 rfl (OwnC.empty AnyB w7.heap.size 61 w7 _ rfl (Nat.le_refl _)) rfl (Z1.out.keep (KeepS.of_below h0a (fun _ h => h))) hne1 (by simp; omega) (by simp) ?_))
  intro v8 w8 hown8 bb8
  have hf8 := hown8.sl
  obtain ⟨q8, r8, rfl, -⟩ := hf8.form
  have h8 : Below w7.heap.size w7 w8 := h0a.trans bb8
  have hlt8 := hown8.lt
  have HO8 := hid hown8
  have HL8 := hid hlt8
  clear hf8 hown8 bb8 h0a hne1 hlt8
  go_wp2_with (at_builtin; go_must (refine wpList_appCC (T := (· < w7.heap.size)) rfl _ _ rfl Try.app30 rfl HO8.out rfl (Z2.out.keep (KeepS.of_below h8 (fun _ h => h))) (fun b hb e => by have := (HL8.out b e).1; omega) (by omega) h8.size ?_))
  intro v9 w9 hown9 bb9
  have hf9 : ChV AnyB w9 v9 (diffC A B ++ diffC B C) := ChV.mono (S' := AnyB) hown9.sl (fun _ _ _ => trivial)
  have h9 : Below w7.heap.size w7 w9 := h8.trans bb9
  clear HO8 HL8 h8 hown9 bb9
  obtain ⟨q9, n9, r9, rfl⟩ : ∃ a l c, v9 = .slice a l c := by obtain ⟨a, c, e, _⟩ := hf9.form; exact ⟨_, _, _, e⟩
  -- the second list
  go_wp2_with fail
  refine (plain_any (diffC A C) (by omega) _ AnyB w9 ((Z3.out.keep (KeepS.of_below h9 (fun _ h => h))).mono (fun _ _ _ => trivial))).mono ?_
  rintro e w10 ⟨z4, rfl, hz4, b10⟩
  have hf10 := hf9.keep (KeepS.below b10)
  have h10 : Below w7.heap.size w7 w10 := h9.trans (b10.mono h9.size)
  obtain ⟨q10, r10, rfl, -⟩ := hz4.form
  clear hf9 b10 h9
  go_wp2_with fail
  refine (bent_any (diffC A C) (by omega) G3.out p1 p2 p3 h1.1 h1.2 h2.1 h2.2 h3.1 h3.2 _ AnyB w10 hz4).mono ?_
  rintro e w11 ⟨z5, rfl, D, hz5, hDl, hDg, b11⟩
  have GD := hid hDg
  have hf11 := hf10.keep (KeepS.below b11)
  have h11 : Below w7.heap.size w7 w11 := h10.trans (b11.mono h10.size)
  obtain ⟨q11, r11, rfl, -⟩ := hz5.form
  clear hf10 b11 h10 hz4 hDg
  go_wp2_with fail
  refine (own_any D (by omega) _ AnyB w11 hz5).mono ?_
  rintro e w12 ⟨z6, rfl, hz6, b12⟩
  have hf12 := hf11.keep (KeepS.below b12)
  have h12 : Below w7.heap.size w7 w12 := h11.trans (b12.mono h11.size)
  obtain ⟨q12, r12, rfl, -⟩ := hz6.form
  have F12 := hid hf12
  have Z6 := hid hz6
  clear hf11 b12 h11 hz5 hf12 hz6
  -- the third list
  have Z3' := hid ((Z3.out.keep (KeepS.of_below h12 (fun _ h => h))).mono (S' := (· < w12.heap.size)) (fun b hb _ => hb))
  have h0a : Below w12.heap.size w12 (w12.alloc (.cells #[] 61)) := (Below.refl _ _).alloc (Nat.le_refl _) _
  have hne1 : ∀ b, b < w12.heap.size → some b ≠ Value.ownBlock (.slice (some ⟨w12.heap.size, 0, none⟩) 0 0) := fun b hb e => by have := (Option.some.inj e : b = w12.heap.size); omega
  go_wp2_with (at_builtin; go_must (refine wpList_appCC (T := (· < w12.heap.size)) rfl _ _ rfl Try.app30 rfl (OwnC.empty AnyB w12.heap.size 61 w12 _ rfl (Nat.le_refl _)) rfl (Z3'.out.keep (KeepS.of_below h0a (fun _ h => h))) hne1 (by simp; omega) (by simp) ?_))
  intro v13 w13 hown13 bb13
  have h13 : Below w12.heap.size w12 w13 := h0a.trans bb13
  have hf13 := hown13.sl
  obtain ⟨q13, r13, rfl, -⟩ := hf13.form
  have HO13 := hid hown13
  clear hf13 hown13 h0a hne1
  go_wp2_with fail
  refine (pturn_int (diffC A C) (by omega) G3.out.values _ (· < w12.heap.size) w13 (Z3'.out.keep (KeepS.of_below h13 (fun _ h => h)))).mono ?_
  rintro e w14 ⟨z7, rfl, hz7, b14⟩
  have HO14 := hid (HO13.out.below b14)
  obtain ⟨q14, r14, rfl, -⟩ := hz7.form
  have hne2 : ∀ b, (intB w14 b ∨ w13.heap.size ≤ b) → some b ≠ Value.ownBlock (.slice q13 (diffC A C).length r13) := fun b hb e => by
    rcases hb with ⟨c, fr, hb⟩ | hb
    · obtain ⟨c', fr', hb'⟩ := HO14.out.block e
      rw [hb] at hb'
      cases hb'
    · have := (HO13.out.lt b e).2
      omega
  have h14 : Below w12.heap.size w12 w14 := h13.trans (b14.mono h13.size)
  have Z7 := hid hz7
  have N2 := hid hne2
  clear hne2 hz7 b14 h13 bb13
  go_wp2_with (at_builtin; go_must (refine wpList_appCC (T := fun b => intB w14 b ∨ w13.heap.size ≤ b) rfl _ _ rfl Try.app30 rfl HO14.out rfl Z7.out N2.out (by rw [turnL_len]; omega) h14.size ?_))
  intro v15 w15 hown15 bb15
  have hf15 : ChV AnyB w15 v15 (diffC A C ++ turnL (diffC A C)) := ChV.mono (S' := AnyB) hown15.sl (fun _ _ _ => trivial)
  have h15 : Below w12.heap.size w12 w15 := h14.trans bb15
  obtain ⟨q15, n15, r15, rfl⟩ : ∃ a l c, v15 = .slice a l c := by obtain ⟨a, c, e, _⟩ := hf15.form; exact ⟨_, _, _, e⟩
  have F15 := F12.out.keep (KeepS.below h15)
  have D15 := Z6.out.keep (KeepS.below h15)
  have h015 : Below w7.heap.size w7 w15 := h12.trans (h15.mono h12.size)
  have b015 : Below w.heap.size w w15 := b07.trans (h015.mono b07.size)
  have hA15 := HA.out.keep (KeepS.below h015)
  have hL := lit3C w15 30 F15 D15 hf15
  have b016 : Below w.heap.size w (w15.alloc (.cells #[.slice q9 n9 r9, .slice q12 D.length r12, .slice q15 n15 r15] 30)) := b015.alloc b015.size _
  have hA16 := hA15.keep (KeepS.below ((Below.refl _ _).alloc (Nat.le_refl _) _) : KeepS AnyB w15 (w15.alloc (.cells #[.slice q9 n9 r9, .slice q12 D.length r12, .slice q15 n15 r15] 30)))
  obtain ⟨w16, hw16⟩ : ∃ w16, w16 = w15.alloc (.cells #[.slice q9 n9 r9, .slice q12 D.length r12, .slice q15 n15 r15] 30) := ⟨_, rfl⟩
  rw [← hw16] at hL b016 hA16
  have HL := hid hL
  have HB16 := hid b016
  have HA16 := hid hA16
  have hvals : Hid (∀ j (h : j < [diffC A B ++ diffC B C, D, diffC A C ++ turnL (diffC A C)].length), ([diffC A B ++ diffC B C, D, diffC A C ++ turnL (diffC A C)][j]).length ≤ 1000 ∧ ∀ c ∈ [diffC A B ++ diffC B C, D, diffC A C ++ turnL (diffC A C)][j], c.values.length ≤ 100000) := hid (fun j hj => by
    match j, hj with
    | 0, _ => exact ⟨by simp; omega, (G1.out.append G2.out).values⟩
    | 1, _ => exact ⟨by simp; omega, GD.out.values⟩
    | 2, _ => exact ⟨by simp [turnL_len]; omega, (G3.out.append (turnL_good G3.out)).values⟩)
  obtain ⟨Ls, hLs⟩ : ∃ Ls, Ls = [diffC A B ++ diffC B C, D, diffC A C ++ turnL (diffC A C)] := ⟨_, rfl⟩
  have hL3 : Ls.length = 3 := by rw [hLs]; rfl
  rw [← hLs] at hvals HL
  clear hL b016 hA16 F15 D15 h015 h15 hA15 hf15 hown15 bb15 b015 Z7 N2 HO14 HO13 Z3' Z6 F12 GD G1 G2 G3 Z1 Z2 Z3 HA h12 h14 b07 E1 E2 E3 tri htri n1 n2 n3 hSB hSC hDl hLs
  go_wp2
  rw [← hw16]
  have hgs : w15.heap.size < w16.heap.size := by rw [hw16]; simp
  clear hw16
  go_loopw [24] (fun i wr => ∃ q : Nat, q ≤ 3 ∧ i = .int .i64 q ∧ Below w16.heap.size w16 wr) (fun i _ => 3 - (intOf i).toNat)
  case atStart => exact ⟨0, by omega, rfl, Below.refl _ _⟩
  case round =>
    obtain ⟨q, hq, rfl, hb⟩ := hrel
    by_cases hlt : q < 3
    · have hql : q < Ls.length := by omega
      obtain ⟨u, hc, hbk, hr⟩ := (HL.out.keep (KeepS.below hb) (fun u x h => h.keep (KeepS.below hb))).at (hL3 ▸ hql : q < Ls.length)
      obtain ⟨aq, cq, rfl, -⟩ := hr.form
      obtain ⟨hLl, hLv⟩ := hvals.out q hql
      generalize Ls[q] = L at *
      simp only [slb_some, slo_some, Nat.zero_add] at hc hbk
      have hAr := HA16.out.keep (KeepS.below hb)
      have hq3 : (q : Int) < 3 := by omega
      have hq0 : (0 : Int) ≤ q := by omega
      have hb0 : Below w.heap.size w wr := HB16.out.trans (hb.mono HB16.out.size)
      go_wp2_with fail
      refine (applyP_any A hSA L (by omega) hLv _ _ AnyB AnyB wr hAr hr).mono ?_
      rintro e w17 ⟨x, rfl, hx, b17⟩
      have hA17 := hAr.keep (KeepS.below b17)
      have hb17 : Below w16.heap.size w16 w17 := hb.trans (b17.mono hb.size)
      obtain ⟨ax, cx, rfl, -⟩ := hx.form
      clear hAr hr
      by_cases hcode : (applyL A L).1 = 0
      · have happ : applyL A L = (0, (applyL A L).2) := by rw [← hcode]
        have hSW := applyL_small happ (by omega)
        have hfew := diff_fewest (applyL_ok happ).2.1
        rw [hcode]
        generalize (applyL A L).2 = W at *
        clear happ hcode
        have hc17 := cell_later b17 hc
        go_wp2_with fail
        refine (pdiff_any A W hSA hSW _ _ AnyB AnyB w17 hA17 hx).mono ?_
        rintro e w18 ⟨z, rfl, hz, b18⟩
        have hc18 := cell_later b18 hc17
        have hb18 : Below w16.heap.size w16 w18 := hb17.trans (b18.mono hb17.size)
        obtain ⟨az, cz, rfl, -⟩ := hz.form
        have hgt : ¬ (L.length < (diffC A W).length) := by omega
        have hgt2 : decide (L.length < (diffC A W).length) = false := decide_eq_false hgt
        clear hfew hA17 hx hc hc17 hz hb hb17 b17 b18 hb0
        by_cases hE : diffE A W = 0
        · rw [hE]
          clear hE
          go_wp2
          go_roundw
          case rel => exact ⟨q + 1, by omega, by go_num, hb18⟩
          case measure => simp [intOf]; omega
        · have hE' : (diffE A W == 0) = false := beqF hE
          go_wp2
          go_roundw
          case rel => exact ⟨q + 1, by omega, by go_num, hb18⟩
          case measure => simp [intOf]; omega
      · have hE' : ((applyL A L).1 != 0) = true := by simpa using hcode
        clear hx hA17 b17
        go_wp2
        go_roundw
        case rel => exact ⟨q + 1, by omega, by go_num, hb17⟩
        case measure => simp [intOf]; omega
    · go_wp2_with fail
      refine (lives_any wr).mono ?_
      rintro e w17 ⟨rfl, b17⟩
      have b017 : Below w.heap.size w w17 := (HB16.out.trans (hb.mono HB16.out.size)).trans (b17.mono (by have := HB16.out.size; have := hb.size; omega))
      have B17 := hid b017
      clear b17 b017
      go_wp2
      go_ret
      exact ⟨rfl, B17.out⟩

end Go.Proofs.Ytagnjhhbbjbhcaa
