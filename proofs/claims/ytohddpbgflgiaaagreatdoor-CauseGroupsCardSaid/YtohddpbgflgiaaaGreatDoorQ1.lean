/- Part 1 of the walks and plain laws that the proof needs (packed). -/

set_option linter.all false
set_option maxRecDepth 100000
set_option maxHeartbeats 8000000
variable{p:Prop}
namespace Go.Proofs.YtohddpbgflgiaaaGreatDoor
theorem aD(h:p:=by omega):p:=h
theorem bH(h:p:=by simp):p:=h
theorem jo(h:p:=by simp;omega):p:=h
theorem Qp(h:p:=by repeat (first|(refine bD _ _ ?_;simp;done)|refine cC _ ?_)):p:=h
theorem Cx(h:p:=by rw[hw1];exact aG.alloc aL _):p:=h
theorem iG(h:p:=by decide):p:=h
theorem J5(h:p:=by first|(simp;done)|(simp;omega)):p:=h
theorem zT8(h:p:=by simp only[fU,mS,argN,Nat.add_zero,Nat.add_assoc]):p:=h
theorem BI(h:p:=by simpa using hj):p:=h
theorem J6(h:p:=by rw[hw1];simp):p:=h
theorem mT(h:p:=by have:=hv.form;obtain⟨_,_,_,_,h1,h2⟩:=this;omega):p:=h
theorem BJ(h:p:=by rw[hw1];exact bD w _ rfl):p:=h
theorem mE(h:p:=by simp[World.drewN,Nat.add_assoc]):p:=h
theorem Ii(h:p:=by rw[hw2];exact aG.alloc aL _):p:=h
theorem Fa(h:p:=by simpa using h):p:=h
theorem wY(h:p:=by rw[HE.out];rfl):p:=h
theorem J7(h:p:=by rw[hw1];exact bD _ _ rfl):p:=h
theorem Nu(h:p:=by simp only[mr,Na,or_false] at hx;omega):p:=h
theorem zR(h:p:=by rw[hw3];exact f9.out.alloc f9.out.size _):p:=h
theorem Wy(h:p:=by unfold maxLen;omega):p:=h
theorem J8(h:p:=by rw[hw1];exact(kT ..).alloc (kT ..).size _):p:=h
theorem R7(h:p:=by rw[hw];exact aG.alloc aL _):p:=h
theorem J9(h:p:=by have:=(JG.out.turn).size;have:=aI mN.out;omega):p:=h
theorem wZ(h:p:=by rw[<-List.not_all_eq_any_not,Bool.not_not]):p:=h
theorem Ka(h:p:=by rw[hw];exact bD _ _ rfl):p:=h
theorem abl(h:p:=by obtain⟨a,c,e,_⟩:=(bp.sl FU).form;exact⟨_,_,_,e⟩):p:=h
theorem abm(h:p:=by obtain⟨a,c,e,_⟩:=(fE.sl VO).form;exact⟨_,_,_,e⟩):p:=h
theorem Wz(h:p:=by simpa using h1):p:=h
theorem WB(h:p:=by rw[hw3];exact cH.out.alloc cH.out.size _):p:=h
theorem BK(h:p:=by rw[hw1];exact cC _ (jt ..)):p:=h
theorem R8(h:p:=by rw[HFC.out];rfl):p:=h
theorem R9(h:p:=by have:=hX.size;simp at this;omega):p:=h
theorem ahS(h:p:=by rw[hw3];exact bD w2 _ rfl):p:=h
theorem Sb(h:p:=by have:=(JG.out.turn).size;omega):p:=h
theorem Fb(h:p:=by simp only[fU,mS,argN];have:({data:=#[114,117,108,101]}:ByteArray).size=4:=rfl;omega):p:=h
theorem ahT(h:p:=by rw[hw];exact bD wr _ rfl):p:=h
theorem Ij(h:p:=by rw[HP.out];rfl):p:=h
theorem abn(h:p:=by have:=HN.out;omega):p:=h
theorem Cy(h:p:=by unfold Cz.len at hi;rwa [Cz.bh hk] at hi):p:=h
theorem abo(h:p:=by simpa using hk):p:=h
theorem abp(h:p:=by rw[<-HN.out];omega):p:=h
theorem afh(h:p:=by rw[wg];exact kY.out.alloc kY.out.size _):p:=h
theorem afi(h:p:=by rw[wg];exact iH.out.alloc iH.out.size _):p:=h
theorem ahU(h:p:=by obtain⟨a,c,e,_⟩:=(fE.sl Sc).form;exact⟨_,_,_,e⟩):p:=h
theorem abq(h:p:=by obtain⟨a,c,e,_⟩:=(bp.sl wh).form;exact⟨_,_,_,e⟩):p:=h
theorem Ik(h:p:=by rw[hw];exact nJ.out.alloc nJ.out.size _):p:=h
theorem abr(h:p:=by have:=HL.out;omega):p:=h
theorem alE(h:p:=by have:=fH.out.size;have hb':w8.heap.size<=b:=hb;omega):p:=h
theorem zS(h:p:=by rw[e];rfl):p:=h
theorem ahV(h:p:=by obtain⟨WC,WD,al',cl',WE,WG,he, -, -, -,h, -⟩:=h.xk.form;cases he;exact h):p:=h
theorem WH(h:p:=by rw[hw2];exact bD _ _ rfl):p:=h
theorem Kc(h:p:=by simpa using oe):p:=h
theorem alH(h:p:=by simp only[World.frozen?,e1];exact Sd.out.own.free _):p:=h
theorem afj(h:p:=by rw[rI];exact HD.out.below (aG.alloc aL _)):p:=h
theorem Sg(h:p:=by rw[dH hkx];exact rG):p:=h
theorem WI(h:p:=by rw[hFN];exact g3):p:=h
theorem Ke(h:p:=by have:=HB.out.size;omega):p:=h
theorem abt(h:p:=by have:=kQ.out.size;have h':wr.heap.size<=b:=h;show wo.heap.size<=b;omega):p:=h
theorem alJ(h:p:=by rw[hnk];have:=H5.out k;unfold Cz.len at this;rwa [Cz.bh hlt] at this):p:=h
theorem ahW(h:p:=by rw[HE.out,decide_eq_true h,decide_eq_true g];rfl):p:=h
theorem afk(h:p:=by obtain⟨_,_,e,g, -⟩:=hrf.form;cases e;exact g):p:=h
theorem afl(h:p:=by have:=f9.out;omega):p:=h
theorem CA(h:p:=by simpa using List.mem_of_getElem? hf):p:=h
theorem Sh(h:p:=by rw[vQ.out];exact hlt):p:=h
theorem abu(h:p:=by rw[hw1];exact cC _ (bD w _ rfl)):p:=h
theorem Nv(h:p:=by rw[<-HN.out];exact hlt):p:=h
theorem Sl(h:p:=by rw[wg];exact bD w5 _ rfl):p:=h
theorem afm(h:p:=by rw[hw2];exact bD w1 _ rfl):p:=h
theorem Sm(h:p:=by rw[hw];exact aP (bD wr _ rfl) 3):p:=h
theorem abv(h:p:=by simpa using (congrArg List.length hsh).symm):p:=h
theorem abw(h:p:=by rw[HX.out];unfold rkT;rw[zxs,zxj,List.map_singleton,fD hkt]):p:=h
theorem afn(h:p:=by simpa using hi):p:=h
theorem afo(h:p:=by rw[hw2];simp):p:=h
theorem Il(h:p:=by have:maxLen=9223372036854775807:=rfl;omega):p:=h
theorem afp(h:p:=by rw[dJ x hkx,dH hkx];exact rG):p:=h
theorem afq(h:p:=by rw[HE3.out];rfl):p:=h
theorem alI(h:p:=by have:=iH.out.size;simp;omega):p:=h
theorem afr(h:p:=by first|rfl|trivial):p:=h
theorem ahX(h:p:=by rw[hw];exact HL.out.alloc HL.out.size _):p:=h
theorem afs(h:p:=by rw[<-hW1];exact((aY.refl _ n0 w).alloc hn0 _).alloc hn0 _):p:=h
theorem aft(h:p:=by rw[hs] at hd;simpa [aC.bP] using hd):p:=h
theorem afu(h:p:=by rw[hr];simp):p:=h
theorem Kf(h:p:=by have:=kQ.out;omega):p:=h
theorem Sn(h:p:=by rw[h2];simp[World.drewN,Nat.add_assoc]):p:=h
theorem ahY(h:p:=by rw[Lib.cell_of_heap hbk];rfl):p:=h
theorem afv(h:p:=by rw[Lib.cell_of_heap hb2];rfl):p:=h
theorem ahZ(h:p:=by unfold keeps;rw[hg,hg1];exact decide_eq_true (.inr hne)):p:=h
theorem abx(h:p:=by rw[<-HN.out];exact hkt):p:=h
theorem aby(h:p:=by have:=HKL.out;have h9:wc.heap.size<=x:=hx;show K<x;omega):p:=h
theorem alN(h:p:=by show ¬_=b;omega):p:=h
theorem WJ(h:p:=by rw[yt hkL,Nat.add_sub_cancel,yt hqL];exact h):p:=h
theorem ah0(h:p:=by rw[<-HLx.out];exact eV hrl):p:=h
theorem Sr(h:p:=by rw[hw];simp):p:=h
theorem ah1(h:p:=by repeat (first|exact kY.out|refine aJ ?_ _)):p:=h
theorem abz(h:p:=by rw[Cg];exact h):p:=h
theorem ah2(h:p:=by have:=xL.out.size;omega):p:=h
theorem Nw(h:p:=by have:=HT.out;omega):p:=h
theorem Nx(h:p:=by have:=aI HL.out.box;omega):p:=h
theorem alM(h:p:=by first|rfl|simp):p:=h
theorem AJ(h:p:=by rw[HWn.out];omega):p:=h
theorem ah3(h:p:=by simp[hx]):p:=h
theorem WK(h:p:=by have:=cH.out.size;simp;omega):p:=h
theorem FV(h:p:=by rw[<-AL.out];exact hjt):p:=h
theorem Kg(h:p:=by have:=lP.out _ (eV h);omega):p:=h
theorem WL(h:p:=by rw[hpre.out,HS.out,if_pos h0]):p:=h
theorem Qq(h:p:=by rw[hpre.out,HS.out,if_neg h0]):p:=h
theorem yw(h:p:=by have:=fH.out.size;simp;omega):p:=h
theorem adr(h:p:=by rw[tF.out];exact hg0):p:=h
theorem Qr(h:p:=by rw[hW2];exact bD wr _ rfl):p:=h
theorem WM(h:p:=by rw[zxl];exact hi):p:=h
theorem WN(h:p:=by simp[getElem!_pos,hj']):p:=h
theorem WO(h:p:=by simpa using h0):p:=h
theorem WQ(h:p:=by rw[HN.out];rfl):p:=h
theorem Qs(h:p:=by rw[hw1];exact jt ..):p:=h
theorem WR(h:p:=by rw[<-h.len];exact hk):p:=h
theorem ads(h:p:=by rw[<-HKA.out];exact HNT'.out):p:=h
theorem ah4(h:p:=by rw[e]):p:=h
theorem WS(h:p:=by rw[<-HD.out];rfl):p:=h
theorem Qt(h:p:=by rw[VQ];omega):p:=h
theorem ah5(h:p:=by simp[dm,HAi.out];omega):p:=h
theorem Kh(h:p:=by simpa using g2):p:=h
theorem ah6(h:p:=by simpa using hf):p:=h
theorem WT(h:p:=by have:=pX.out.size;omega):p:=h
theorem FW(h:p:=by rw[hml];exact hft):p:=h
theorem ah7(h:p:=by simpa using h2):p:=h
theorem WU(h:p:=by simpa using g1):p:=h
theorem Qu(h:p:=by unfold maxLen;simp):p:=h
theorem Ki(h:p:=by have:=h4.1;omega):p:=h
theorem WV(h:p:=by simp[book]):p:=h
theorem WW(h:p:=by repeat (first|exact bD _ _ bH|refine cC _ ?_)):p:=h
theorem Qv(h:p:=by rw[hw];exact vR.out.trans (Turns.below HS.out.2 vR.out.size (fun b hb=>by omega))):p:=h
theorem Qw(h:p:=by rw[hw1];exact(aG.alloc aL _).alloc bH _):p:=h
theorem Qx(h:p:=by rw[<-HFS.out];have h9:=afx.out;exact h9.more aD):p:=h
theorem Qy(h:p:=by rw[HWR.out];exact⟨mm+nq,mE⟩):p:=h
theorem yx(h:p:=by unfold aC.hasB;rw[decide_eq_false (show ¬0<=j by omega)];simp):p:=h
theorem FX(h:p:=by unfold aC.hasB;rw[decide_eq_false (show ¬0<=i by omega)];rfl):p:=h
theorem Qz(h:p:=by rw[<-hW1];exact((Below.refl _ w).alloc aL _).alloc bH _):p:=h
theorem tG(h:p:=by have:=c2.symm.trans (by simpa using r2);simpa using this):p:=h
theorem WX(h:p:=by rw[rI];exact HB.out.alloc Ke _):p:=h
theorem Kj(h:p:=by rw[hw1];exact bD _ _ bH):p:=h
theorem WY(h:p:=by rw[IntWalk.i64_in _ aD];omega):p:=h
end Go.Proofs.YtohddpbgflgiaaaGreatDoor
