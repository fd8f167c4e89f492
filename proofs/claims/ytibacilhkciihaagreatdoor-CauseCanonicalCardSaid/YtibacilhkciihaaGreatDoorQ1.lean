/- Part 1 of the walks and plain laws that the proof needs (packed). -/

set_option linter.all false
set_option maxRecDepth 100000
set_option maxHeartbeats 8000000
namespace Go.Proofs.YtibacilhkciihaaGreatDoor
theorem aB{p:Prop}(h:p:=by omega):p:=h
theorem bp{p:Prop}(h:p:=by simp):p:=h
theorem JW{p:Prop}(h:p:=by repeat (first|(refine aW _ _ ?_;simp;done)|refine bG _ ?_)):p:=h
theorem Ab{p:Prop}(h:p:=by rw[hw1];exact aF.alloc aH _):p:=h
theorem lC{p:Prop}(h:p:=by simp;omega):p:=h
theorem fH{p:Prop}(h:p:=by decide):p:=h
theorem Ea{p:Prop}(h:p:=by first|(simp;done)|(simp;omega)):p:=h
theorem Wn{p:Prop}(h:p:=by simp only[eB,jV,argN,Nat.add_zero,Nat.add_assoc]):p:=h
theorem Wp{p:Prop}(h:p:=by have:=hv.form;obtain⟨_,_,_,_,h1,h2⟩:=this;omega):p:=h
theorem wI{p:Prop}(h:p:=by rw[hw1];exact aW w _ rfl):p:=h
theorem jH{p:Prop}(h:p:=by rw[hw1];simp):p:=h
theorem mP{p:Prop}(h:p:=by simpa using hj):p:=h
theorem lD{p:Prop}(h:p:=by simpa using h):p:=h
theorem qU{p:Prop}(h:p:=by rw[HE.out];rfl):p:=h
theorem Eb{p:Prop}(h:p:=by simp only[kD,GI,or_false] at hx;omega):p:=h
theorem Og{p:Prop}(h:p:=by rw[hw1];exact(iV ..).alloc (iV ..).size _):p:=h
theorem CM{p:Prop}(h:p:=by rw[hw1];exact aW _ _ rfl):p:=h
theorem Ec{p:Prop}(h:p:=by rw[hw];exact aF.alloc aH _):p:=h
theorem Ll{p:Prop}(h:p:=by rw[<-List.not_all_eq_any_not,Bool.not_not]):p:=h
theorem Lm{p:Prop}(h:p:=by rw[hw3];exact iE.out.alloc iE.out.size _):p:=h
theorem Ed{p:Prop}(h:p:=by rw[hw];exact aW _ _ rfl):p:=h
theorem xJ{p:Prop}(h:p:=by unfold maxLen;omega):p:=h
theorem Tr{p:Prop}(h:p:=by obtain⟨a,c,e,_⟩:=(bg.sl Bo).form;exact⟨_,_,_,e⟩):p:=h
theorem Ts{p:Prop}(h:p:=by obtain⟨a,c,e,_⟩:=(fC.sl NP).form;exact⟨_,_,_,e⟩):p:=h
theorem Oh{p:Prop}(h:p:=by unfold Cz.len at hi;rwa [Cz.aQ hk] at hi):p:=h
theorem Oi{p:Prop}(h:p:=by rw[hw3];exact bX.out.alloc bX.out.size _):p:=h
theorem Oj{p:Prop}(h:p:=by rw[hw1];exact bG _ (gA ..)):p:=h
theorem wJ{p:Prop}(h:p:=by rw[Wq.out];rfl):p:=h
theorem Ln{p:Prop}(h:p:=by have:=hX.size;simp at this;omega):p:=h
theorem wK{p:Prop}(h:p:=by simpa using hk):p:=h
theorem abF{p:Prop}(h:p:=by simp only[eB,jV,argN];have:({data:=#[114,117,108,101]}:ByteArray).size=4:=rfl;omega):p:=h
theorem Lp{p:Prop}(h:p:=by rw[hw];exact aW wr _ rfl):p:=h
theorem AB{p:Prop}(h:p:=by rw[HP.out];rfl):p:=h
theorem abG{p:Prop}(h:p:=by rw[<-hW1];exact((aM.refl _ n0 w).alloc hn0 _).alloc hn0 _):p:=h
theorem Tt{p:Prop}(h:p:=by rw[qE];exact jI.out.alloc jI.out.size _):p:=h
theorem Tv{p:Prop}(h:p:=by rw[qE];exact iD.out.alloc iD.out.size _):p:=h
theorem Y0{p:Prop}(h:p:=by obtain⟨a,c,e,_⟩:=(bg.sl Tw).form;exact⟨_,_,_,e⟩):p:=h
theorem Tx{p:Prop}(h:p:=by rw[hw];exact kE.out.alloc kE.out.size _):p:=h
theorem AF{p:Prop}(h:p:=by simpa using h1):p:=h
theorem CO{p:Prop}(h:p:=by have:=HL.out;omega):p:=h
theorem Ol{p:Prop}(h:p:=by rw[hw3];exact aW w2 _ rfl):p:=h
theorem tL{p:Prop}(h:p:=by rw[e];rfl):p:=h
theorem Ee{p:Prop}(h:p:=by have:=HN.out;omega):p:=h
theorem abH{p:Prop}(h:p:=by obtain⟨Om,JX,al',SI,Oo,Oq,he, -, -, -,h, -⟩:=h.tM.form;cases he;exact h):p:=h
theorem Ot{p:Prop}(h:p:=by rw[hw2];exact aW _ _ rfl):p:=h
theorem Ef{p:Prop}(h:p:=by simpa using kL):p:=h
theorem zT47{p:Prop}(h:p:=by simp only[World.frozen?,e1];exact Lr.out.own.free _):p:=h
theorem Y5{p:Prop}(h:p:=by rw[rV];exact HD.out.below (aF.alloc aH _)):p:=h
theorem Ou{p:Prop}(h:p:=by rw[List.length_set];exact hi):p:=h
theorem Eg{p:Prop}(h:p:=by rw[hFN];exact g3):p:=h
theorem Tz{p:Prop}(h:p:=by have:=HB.out.size;omega):p:=h
theorem abI{p:Prop}(h:p:=by rw[hnk];have:=H5.out k;unfold Cz.len at this;rwa [Cz.aQ hlt] at this):p:=h
theorem Y6{p:Prop}(h:p:=by rw[HE.out,decide_eq_true h,decide_eq_true g];rfl):p:=h
theorem xK{p:Prop}(h:p:=by rw[hr];simp):p:=h
theorem Ls{p:Prop}(h:p:=by have:=iE.out;omega):p:=h
theorem TA{p:Prop}(h:p:=by simpa using List.mem_of_getElem? hf):p:=h
theorem Lu{p:Prop}(h:p:=by rw[rW.out];exact hlt):p:=h
theorem Y7{p:Prop}(h:p:=by rw[hw1];exact bG _ (aW w _ rfl)):p:=h
theorem TB{p:Prop}(h:p:=by rw[qE];exact aW w5 _ rfl):p:=h
theorem Y8{p:Prop}(h:p:=by rw[hw];exact aN (aW wr _ rfl) 3):p:=h
theorem Y9{p:Prop}(h:p:=by simpa using (congrArg List.length hsh).symm):p:=h
theorem Ov{p:Prop}(h:p:=by rw[dU hkx];exact rP):p:=h
theorem Za{p:Prop}(h:p:=by have:maxLen=9223372036854775807:=rfl;omega):p:=h
theorem Eh{p:Prop}(h:p:=by simpa using hi):p:=h
theorem zT65{p:Prop}(h:p:=by rw[Wr.out];rfl):p:=h
theorem Zb{p:Prop}(h:p:=by rw[getD_replicate_false] at hl;cases hl):p:=h
theorem Zc{p:Prop}(h:p:=by first|rfl|trivial):p:=h
theorem Zd{p:Prop}(h:p:=by rw[hw];exact HL.out.alloc HL.out.size _):p:=h
theorem Ze{p:Prop}(h:p:=by rw[hs] at hd;simpa [ah.bK] using hd):p:=h
theorem abJ{p:Prop}(h:p:=by obtain⟨a,c,e,_⟩:=(fC.sl SK).form;exact⟨_,_,_,e⟩):p:=h
theorem Lv{p:Prop}(h:p:=by have:=DU.out;omega):p:=h
theorem abK{p:Prop}(h:p:=by have:=(dG.out.turn).size;have:=aC jO.out;omega):p:=h
theorem TD{p:Prop}(h:p:=by rw[Lib.cell_of_heap hbk];rfl):p:=h
theorem TF{p:Prop}(h:p:=by rw[Lib.cell_of_heap hb2];rfl):p:=h
theorem zT75{p:Prop}(h:p:=by unfold keeps;rw[hg,hg1];exact decide_eq_true (.inr hne)):p:=h
theorem GJ{p:Prop}(h:p:=by simpa using hf):p:=h
theorem abL{p:Prop}(h:p:=by have:=TG.out;have h9:wc.heap.size<=x:=hx;show K<x;omega):p:=h
theorem Lw{p:Prop}(h:p:=by show ¬_=b;omega):p:=h
theorem zT79{p:Prop}(h:p:=by rw[<-e1,List.getElem?_map,lE h];rfl):p:=h
theorem Zf{p:Prop}(h:p:=by rw[hw2];exact aF.alloc aH _):p:=h
theorem Ei{p:Prop}(h:p:=by rw[hw];simp):p:=h
theorem zT82{p:Prop}(h:p:=by repeat (first|exact jI.out|refine aI ?_ _)):p:=h
theorem GK{p:Prop}(h:p:=by simpa using h0):p:=h
theorem Ow{p:Prop}(h:p:=by have:=HT.out;omega):p:=h
theorem Zg{p:Prop}(h:p:=by have:=aC HL.out.box;omega):p:=h
theorem TH{p:Prop}(h:p:=by first|rfl|simp):p:=h
theorem Zh{p:Prop}(h:p:=by unfold Cz.len;rw[Cz.aQ hk]):p:=h
theorem CQ{p:Prop}(h:p:=by simp[hx]):p:=h
theorem abM{p:Prop}(h:p:=by have:=bX.out.size;simp;omega):p:=h
theorem abN{p:Prop}(h:p:=by have:=iD.out.size;simp;omega):p:=h
theorem TI{p:Prop}(h:p:=by rw[<-Ej.out];exact hjt):p:=h
theorem Zi{p:Prop}(h:p:=by have:=mQ.out _ (gm h);omega):p:=h
theorem Zj{p:Prop}(h:p:=by rw[hpre.out,HS.out,if_pos h0]):p:=h
theorem Zk{p:Prop}(h:p:=by rw[hpre.out,HS.out,if_neg h0]):p:=h
theorem TJ{p:Prop}(h:p:=by rw[<-HN.out];exact hlt):p:=h
theorem abO{p:Prop}(h:p:=by simp[getElem!_pos,hj']):p:=h
theorem zT97{p:Prop}(h:p:=by rw[HN.out];rfl):p:=h
theorem Zl{p:Prop}(h:p:=by rw[hw1];exact gA ..):p:=h
theorem zT99{p:Prop}(h:p:=by rw[<-TK.out];exact HNT'.out):p:=h
theorem JY{p:Prop}(h:p:=by rw[hfit.lk,kR]):p:=h
theorem El{p:Prop}(h:p:=by simpa using hr):p:=h
theorem abP{p:Prop}(h:p:=by rw[<-HD.out];rfl):p:=h
theorem Ox{p:Prop}(h:p:=by simpa using g2):p:=h
theorem Em{p:Prop}(h:p:=by simpa using hb):p:=h
theorem JZ{p:Prop}(h:p:=by rw[hw1];simp[dP]):p:=h
theorem Oy{p:Prop}(h:p:=by have:=mR.out.size;omega):p:=h
theorem xL{p:Prop}(h:p:=by simp[book]):p:=h
theorem Oz{p:Prop}(h:p:=by have:=Ac.out.size;omega):p:=h
theorem OA{p:Prop}(h:p:=by rw[hrec];simp):p:=h
theorem J2{p:Prop}(h:p:=by simpa using g1):p:=h
theorem J3{p:Prop}(h:p:=by have:=h4.1;omega):p:=h
theorem rX{p:Prop}(h:p:=by rw[e]):p:=h
theorem J4{p:Prop}(h:p:=by rw[hrec]):p:=h
theorem o8{p:Prop}(h:p:=by repeat (first|exact aW _ _ bp|refine bG _ ?_)):p:=h
theorem OB{p:Prop}(h:p:=by rw[hw];exact xM.out.trans (Turns.below HS.out.2 xM.out.size (fun b hb=>by omega))):p:=h
theorem En{p:Prop}(h:p:=by rw[hw1];exact(aF.alloc aH _).alloc bp _):p:=h
theorem OC{p:Prop}(h:p:=by rw[<-hW1];exact((Below.refl _ w).alloc aH _).alloc bp _):p:=h
theorem abQ{p:Prop}(h:p:=by rw[<-Ws.out];have h9:=Zm.out;exact h9.more aB):p:=h
theorem OD{p:Prop}(h:p:=by rw[hw1];exact aW _ _ (by simp[dP])):p:=h
theorem Wt{p:Prop}(h:p:=by unfold ah.hasB;rw[decide_eq_false (show ¬0<=j by omega)];simp):p:=h
theorem Wu{p:Prop}(h:p:=by unfold ah.hasB;rw[decide_eq_false (show ¬0<=i by omega)];rfl):p:=h
theorem OE{p:Prop}(h:p:=by rw[rV];exact HB.out.alloc Tz _):p:=h
theorem OG{p:Prop}(h:p:=by rw[hw1];exact aW _ _ bp):p:=h
end Go.Proofs.YtibacilhkciihaaGreatDoor
