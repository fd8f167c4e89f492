/- Part 1 of the walks and plain laws that the proof needs (packed). -/

set_option linter.all false
set_option maxRecDepth 100000
set_option maxHeartbeats 8000000
namespace Go.Proofs.YteiakkfdchnddaaGreatDoor
theorem aC{p:Prop}(h:p:=by omega):p:=h
theorem aZ{p:Prop}(h:p:=by simp):p:=h
theorem ud{p:Prop}(h:p:=by rw[hw1];exact ay.alloc aH _):p:=h
theorem mV{p:Prop}(h:p:=by simp;omega):p:=h
theorem tr{p:Prop}(h:p:=by rw[hw1];simp):p:=h
theorem QZ{p:Prop}(h:p:=by rw[hw3];exact bK.out.alloc bK.out.size _):p:=h
theorem Oh{p:Prop}(h:p:=by rw[hw1];exact aP w _ rfl):p:=h
theorem qg{p:Prop}(h:p:=by decide):p:=h
theorem Xw{p:Prop}(h:p:=by rw[hw1];exact aY _ (fE ..)):p:=h
theorem uN{p:Prop}(h:p:=by rw[hw1];exact JO ..):p:=h
theorem Oi{p:Prop}(h:p:=by rw[hw1];exact(dZ ..).alloc (dZ ..).size _):p:=h
theorem qh{p:Prop}(h:p:=by rw[hr];simp):p:=h
theorem J9{p:Prop}(h:p:=by rw[hw3];exact eC.out.alloc eC.out.size _):p:=h
theorem Oj{p:Prop}(h:p:=by unfold Wk.bU;rw[Int.toNat_natCast,Sub.aX hi]):p:=h
theorem Ol{p:Prop}(h:p:=by have:=HRB.out;simp;omega):p:=h
theorem uO{p:Prop}(h:p:=by simpa using h):p:=h
theorem GN{p:Prop}(h:p:=by rw[hw];exact aP wr _ rfl):p:=h
theorem Om{p:Prop}(h:p:=by rw[hw3];exact xU.out.alloc xU.out.size _):p:=h
theorem Ac{p:Prop}(h:p:=by simp[bH,book]):p:=h
theorem GP{p:Prop}(h:p:=by rw[hw];exact aP _ _ rfl):p:=h
theorem Oo{p:Prop}(h:p:=by rw[<-List.not_all_eq_any_not,Bool.not_not]):p:=h
theorem Ad{p:Prop}(h:p:=by rw[HFC.out];rfl):p:=h
theorem RJ{p:Prop}(h:p:=by unfold Vm.j4;rw[List.length_set];exact H8.out):p:=h
theorem Oq{p:Prop}(h:p:=by have:=hX.size;simp at this;omega):p:=h
theorem ab0{p:Prop}(h:p:=by rw[hw];exact Ba.out.trans (Turns.below HS.out.2 Ba.out.size (fun b hb=>by omega))):p:=h
theorem RK{p:Prop}(h:p:=by rw[getD_replicate_false] at hl;cases hl):p:=h
theorem Dx{p:Prop}(h:p:=by simpa using hj):p:=h
theorem GQ{p:Prop}(h:p:=by have:=HN.out;omega):p:=h
theorem GR{p:Prop}(h:p:=by simpa using mD):p:=h
theorem Fw{p:Prop}(h:p:=by simpa using hr):p:=h
theorem Ot{p:Prop}(h:p:=by rw[D9.out];exact HF6.out):p:=h
theorem GS{p:Prop}(h:p:=by rw[hFN];exact g3):p:=h
theorem RL{p:Prop}(h:p:=by rw[hw3];exact aP w2 _ rfl):p:=h
theorem ab1{p:Prop}(h:p:=by rw[<-ni,<-Bb];exact heap_setCell_same _ rb na _ _ _ Fx.out):p:=h
theorem Xx{p:Prop}(h:p:=by rw[ni];exact jQ.out.alloc jQ.out.size _):p:=h
theorem Xy{p:Prop}(h:p:=by rw[ni];exact fF.out.alloc fF.out.size _):p:=h
theorem RM{p:Prop}(h:p:=by rw[hw1];exact aP _ _ rfl):p:=h
theorem Xz{p:Prop}(h:p:=by rw[hw];exact nj.out.alloc nj.out.size _):p:=h
theorem Ka{p:Prop}(h:p:=by simpa using HI.out):p:=h
theorem aeH{p:Prop}(h:p:=by simp[di]):p:=h
theorem Fy{p:Prop}(h:p:=by simp[Ou]):p:=h
theorem aeI{p:Prop}(h:p:=by rw[GU HU.out HZl.out (Nat.zero_le _),xK.out,j5 HU.out c0,Nat.zero_add];exact Nat.mul_le_mul_right _ hc2):p:=h
theorem RN{p:Prop}(h:p:=by have:=HRk.out;omega):p:=h
theorem XA{p:Prop}(h:p:=by rw[hw];exact ay.alloc aH _):p:=h
theorem RO{p:Prop}(h:p:=by rw[hw1];simp[di];omega):p:=h
theorem ab2{p:Prop}(h:p:=by have:=HL.out;rw[hx] at this;simpa [HN.out] using this):p:=h
theorem ab3{p:Prop}(h:p:=by rw[mq];exact HD.out.below (ay.alloc aH _)):p:=h
theorem Ov{p:Prop}(h:p:=by unfold vH;omega):p:=h
theorem XB{p:Prop}(h:p:=by rw[ni];exact aP w5 _ rfl):p:=h
theorem Ow{p:Prop}(h:p:=by show ¬_=b;omega):p:=h
theorem RP{p:Prop}(h:p:=by rw[JQ.out];exact hlt):p:=h
theorem aeJ{p:Prop}(h:p:=by simp only[dx,fT,argN];have:({data:=#[114,117,108,101]}:ByteArray).size=4:=rfl;omega):p:=h
theorem XC{p:Prop}(h:p:=by rw[List.length_set];exact hi):p:=h
theorem ab4{p:Prop}(h:p:=by rw[hw1];exact aY _ (aP w _ rfl)):p:=h
theorem Kc{p:Prop}(h:p:=by rw[hw];simp):p:=h
theorem RQ{p:Prop}(h:p:=by have:=XD.out;omega):p:=h
theorem XE{p:Prop}(h:p:=by first|rfl|simp):p:=h
theorem ab5{p:Prop}(h:p:=by rw[hdl];exact hL.1):p:=h
theorem aeK{p:Prop}(h:p:=by rw[GU HU.out HZl.out hm2,XF.out,<-Nat.add_mul];exact Nat.mul_le_mul_right _ hc1):p:=h
theorem aeL{p:Prop}(h:p:=by rw[D9.out];exact HSy.out):p:=h
theorem XG{p:Prop}(h:p:=by rw[<-HN.out];exact aH):p:=h
theorem ab6{p:Prop}(h:p:=by rw[hw];exact HL.out.alloc HL.out.size _):p:=h
theorem ab7{p:Prop}(h:p:=by rw[hs] at hd;simpa [ah.bG] using hd):p:=h
theorem aeM{p:Prop}(h:p:=by have:=HB.out.size;omega):p:=h
theorem RT{p:Prop}(h:p:=by simpa using ht):p:=h
theorem zT66{p:Prop}(h:p:=by rw[yV.out];exact GV.mono oU (fun b _ hb=>gX hzl b hb)):p:=h
theorem ab8{p:Prop}(h:p:=by have:=aj HL.out.box;omega):p:=h
theorem Ox{p:Prop}(h:p:=by rw[e];rfl):p:=h
theorem ab9{p:Prop}(h:p:=by rw[hw2];exact aP _ _ rfl):p:=h
theorem acd{p:Prop}(h:p:=by rw[hw3];exact aP _ _ rfl):p:=h
theorem XH{p:Prop}(h:p:=by have:=HT.out;omega):p:=h
theorem XI{p:Prop}(h:p:=by rw[hw1];simp[di]):p:=h
theorem aeN{p:Prop}(h:p:=by unfold ah.hasB;rw[decide_eq_false (show ¬0<=j by omega)];simp):p:=h
theorem aeO{p:Prop}(h:p:=by have:=bK.out.size;simp;omega):p:=h
theorem aeP{p:Prop}(h:p:=by have:=fF.out.size;simp;omega):p:=h
theorem ace{p:Prop}(h:p:=by have:=Oy.out _ (gY h);omega):p:=h
theorem aeQ{p:Prop}(h:p:=by unfold ah.hasB;rw[decide_eq_false (show ¬0<=i by omega)];rfl):p:=h
theorem zT78{p:Prop}(h:p:=by rw[<-hW1];exact((aS.refl _ n0 w).alloc hn0 _).alloc hn0 _):p:=h
theorem zT79{p:Prop}(h:p:=by have:=Gs.out.Fz HI.out.good;rw[Ea.out] at this;omega):p:=h
theorem aeR{p:Prop}(h:p:=by have h1:=Q0.out;have h2:=XD.out;unfold Wk.Inc at h1;omega):p:=h
theorem aeS{p:Prop}(h:p:=by have:=(dF.out.turn).size;have:=aj lD.out;omega):p:=h
theorem Ke{p:Prop}(h:p:=by rw[hw1];exact aP _ _ aeH):p:=h
theorem acf{p:Prop}(h:p:=by rw[<-ni];exact lM.out.setCell (p:=⟨rb,na,none⟩) Ol _):p:=h
theorem acg{p:Prop}(h:p:=by rw[<-ni,heap_setCell_other _ _ _ _ Ol];exact Gt.out):p:=h
theorem zT85{p:Prop}(h:p:=by rw[<-HFS.out];have h9:=ach.out;exact h9.more aC):p:=h
theorem aci{p:Prop}(h:p:=by rw[hw1];exact(ay.alloc aH _).alloc aZ _):p:=h
theorem aeT{p:Prop}(h:p:=by rw[hcs];have:=rM (n:=n) (m:=0) (c:=c0) hu hz aC;rwa [Nat.zero_mul,Nat.zero_add] at this):p:=h
theorem acj{p:Prop}(h:p:=by rw[hw1];exact(dZ ..).alloc aeH _):p:=h
theorem acn{p:Prop}(h:p:=by rw[mq];exact HB.out.alloc aeM _):p:=h
end Go.Proofs.YteiakkfdchnddaaGreatDoor
