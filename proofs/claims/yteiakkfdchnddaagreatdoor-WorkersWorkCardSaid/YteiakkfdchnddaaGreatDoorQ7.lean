/- Part 7 of the walks and plain laws that the proof needs (packed). -/
import Derived.Laws.IdiomStrings
import Derived.BigRegion
import Derived.Shelf.Strings.Builder1
import Derived.Shelf.LaysM
import Derived.Shelf.Strconv.Itoa3
import Derived.Test.YteiakkfdchnddaaGreatDoorProg
import Derived.WalkSmall
import Derived.Test.YteiakkfdchnddaaGreatDoorQ1
import Derived.Test.YteiakkfdchnddaaGreatDoorQ3
import Derived.Test.YteiakkfdchnddaaGreatDoorQ5
import Derived.Test.YteiakkfdchnddaaGreatDoorQ6
set_option linter.all false
set_option maxRecDepth 100000
set_option maxHeartbeats 8000000
namespace Go.Proofs.YteiakkfdchnddaaGreatDoor
open Go.RowKit
structure Src(T fc fv:Nat)(W:ah.cG)(uw:Value)(w0:World):Prop where
 nil:∀w,(nilAhead 418 T (.agg #[uw]) "Value").run Tryz.prog w=.ok (some false) w
 mc:∀w,(method 418 T (.agg #[uw]) "Count").run Tryz.prog w=.ok (fc,.agg #[uw]) w
 mv:∀w,(method 418 T (.agg #[uw]) "Value").run Tryz.prog w=.ok (fv,.agg #[uw]) w
 ec:∀args w,(callFunc fc args).run Tryz.prog w=.ok (.enter fc args) w
 ev:∀args w,(callFunc fv args).run Tryz.prog w=.ok (.enter fv args) w
 count:∀X,BL w0 X->∀k:Nat,k<W.length->CP fc #[.agg #[uw],.int .i64 (k:Int)] X fun e w'=>e=.returned (.int .i64 (Vm.mA W k:Nat))/\BL X w'
 value:∀X,BL w0 X->∀(k i f:Nat) (hk:k<W.length) (hi:i<W[k].length) (_:f<W[k][i].length),Calls Tryz.prog fv #[.agg #[uw],.int .i64 (k:Int),.int .i64 (i:Int),.int .i64 (f:Int)] X fun e w'=>e=.returned (.int .i64 (Vm.Il W k i f))/\BL X w'
theorem Uo{W:ah.cG}{p:List Vm.Ins}(f at':Nat)(r:List Int)(n:Nat)(h:at'=p.length):Vm.oN W p f at' r n=(0,(n:Int),0):=by
 cases f<;>unfold Vm.oN<;>rw[if_pos h]
theorem Uq{W:ah.cG}{p:List Vm.Ins}(at':Nat)(r:List Int)(n:Nat)(h:at'≠p.length):Vm.oN W p 0 at' r n=(0,0,23):=by
 unfold Vm.oN;rw[if_neg h]
theorem aaU{p:Prop}(h:p:=by
  have e:p.getD at' Vm.Ik=p[at']:=by rw[jA,kK h];rfl
  conv=>lhs;unfold Vm.oN
  rw[if_neg aC,e,hs]):p:=h
theorem Pc{W:ah.cG}{p:List Vm.Ins}(f at':Nat)(r:List Int)(n:Nat)(h:at'<p.length){r':List Int}{O6:Nat}(hs:Vm.step W p[at'] r (at'+1)=(none,r',O6)):Vm.oN W p (f+1) at' r n=Vm.oN W p f O6 r' (n+1):=by
 exact aaU
theorem Pf{W:ah.cG}{p:List Vm.Ins}(f at':Nat)(r:List Int)(n:Nat)(h:at'<p.length){c:Int}{r':List Int}{O6:Nat}(hs:Vm.step W p[at'] r (at'+1)=(some c,r',O6)):Vm.oN W p (f+1) at' r n=(c,((n+1:Nat):Int),0):=by
 exact aaU
def n9(r:List Int):Array Value:=(r.map (Value.int .i64)).toArray
theorem lH{r:List Int}(h8:r.length=8){w:World}{g:Nat}(h:w.heap[g]?=some (.cells (n9 r) 135 (0,0)))(k:Nat)(hk:k<8):w.cell? ⟨g,k,none⟩=some (.int .i64 (Vm.jO r k)):=by
 rw[aF h];unfold n9 Vm.jO;simp[jA,kK (show k<r.length by omega)]
theorem Bb(r:List Int)(k:Nat)(v:Int):(n9 r).setIfInBounds k (.int .i64 v)=n9 (Vm.j4 r k v):=by
 unfold n9 Vm.j4;simp[List.map_set]
theorem wI(g b ia:Nat)(hia:ia<8)(v:Int)(w:World)(r:List Int)(h8:r.length=8)(hg:w.heap[g]?=some (.cells (n9 r) 135 (0,0)))(hb:w.cell? ⟨b,1,none⟩=some (.int .i64 (ia:Int))):
  Calls Tryz.prog 50 #[.int .i64 v,.pointer (some ⟨g,0,none⟩),.pointer (some ⟨b,0,none⟩)] w fun e w'=>e=.returned (.tuple #[])/\w.setCell ⟨g,ia,none⟩ (.int .i64 v)=w':=by
 have hc:=lH h8 hg ia hia;have hf:=bh hg ia;have h0:(0:Int)<=ia:=by omega
 have h1:(ia:Int)<8:=by omega
 go_enter Tryz.func50,Tryz.ntmps50;go_wp2;go_end0;exact⟨rfl,rfl⟩
theorem pQ{w:World}{g:Nat}{x y e:Value}{tmps:Array Value}(h:w.heap[g]?=some (.cells #[x,y] 66 (0,0)))(hp:tmps[8]?=some (.pointer (some ⟨g,0,none⟩)))(hq:tmps[9]?=some e):
  (results Tryz.f22 tmps).run Tryz.prog w=.ok (.tuple #[.agg #[x,y],e]) w:=by
 have h0:w.cell? ⟨g,0,none⟩=some x:=(aF h 0).trans rfl;have h1:w.cell? ⟨g,1,none⟩=some y:=(aF h 1).trans rfl;simp[results,Tryz.results22,go_sem,hp,hq,h0,h1]
theorem oy{w:World}{g:Nat}{x y:Value}(h:w.heap[g]?=some (.cells #[x,y] 66 (0,0)))(a b:Value):((w.setCell ⟨g,0,none⟩ a).setCell ⟨g,1,none⟩ b).heap[g]?=some (.cells #[a,b] 66 (0,0)):=
 heap_setCell_same _ g 1 _ _ b (heap_setCell_same _ g 0 _ _ a h)
def Iq(x:Int×Int×Int)(w:World)(e:Ending)(w':World):Prop:=e=.returned (.tuple #[.agg #[.int .i64 x.1,.int .i64 x.2.1],.int .i64 x.2.2])/\BL w w'
theorem Iq.mk{x:Int×Int×Int}{w w':World}{a b c:Int}(h:x=(a,b,c))(hb:BL w w'):Iq x w (.returned (.tuple #[.agg #[.int .i64 a,.int .i64 b],.int .i64 c])) w':=by
 rw[h];exact⟨rfl,hb⟩
theorem FX(p:List Vm.Ins):Vm.d9 p=0\/Vm.d9 p=1\/Vm.d9 p=4:=by
 unfold Vm.d9;split
 ·exact .inr (.inr rfl)
 ·split
  ·exact .inl rfl
  ·exact .inr (.inl rfl)
theorem YA{p:Prop}(h:p:=by
  go_enter Tryz.func22,Tryz.ntmps22
  go_upto_region 1 with fail
  rw[<-HW.out]
  go_wp2_with fail
  refine Rm.out.mono ?_
  rintro e w2 ⟨rfl,hb2⟩
  have bK:=aJ bf hb2
  have HG2:Hid (w2.heap[w.heap.size+1]?=some (.cells #[.int .i64 0,.int .i64 0] 66 (0,0))):=hid ((hb2.block _ (aj DQ.out)).trans DQ.out)
  have Rn:Hid (w2.heap[w.heap.size]?=some (.cells #[.int .i64 x.aI,.slice ak x.ai.length ck,.slice al x.aN.length cl,.slice ar x.aO.length cr] 27 (0,0))):=hid ((hb2.block _ (aj zG.out)).trans zG.out)
  clear hb2
  have c0:w2.cell? ⟨w.heap.size+1,0,none⟩=some (.int .i64 0):=(aF HG2.out 0).trans rfl
  have c1:w2.cell? ⟨w.heap.size+1,1,none⟩=some (.int .i64 0):=(aF HG2.out 1).trans rfl
  have f0:=bh HG2.out 0
  have f1:=bh HG2.out 1
  go_wp2
  refine bodyPost_ret (pQ (oy HG2.out _ _) rfl rfl) rfl (adg.out w2 _ _ bK.out HE.out)):p:=h
theorem aaV{p:Prop}(h:p:=by
  refine fS ?_
  intro w7 hx
  have mr:=ny hx
  clear hx hg
  have lM:=aJ fF mr
  have Gt:Hid (w7.heap[w.heap.size+1]?=some (.cells #[.int .i64 0,.int .i64 0] 66 (0,0))):=hid ((mr.block _ (aj Al.out)).trans Al.out)
  have c0:w7.cell? ⟨w.heap.size+1,0,none⟩=some (.int .i64 0):=(aF Gt.out 0).trans rfl
  have c1:w7.cell? ⟨w.heap.size+1,1,none⟩=some (.int .i64 0):=(aF Gt.out 1).trans rfl
  have f0:=bh Gt.out 0
  have f1:=bh Gt.out 1
  go_wp2
  refine bodyPost_ret (pQ (oy Gt.out _ _) rfl rfl) rfl ?_
  exact Iq.mk (Ky.out.trans (by rw[HE.out];simp)) ((lM.out.setCell (p:=⟨w.heap.size+1,0,none⟩) aZ _).setCell (p:=⟨w.heap.size+1,1,none⟩) aZ _)):p:=h
theorem aaW{p:Prop}(h:p:=by
  rw[if_pos hc] at HSy
  go_wp2
  go_quiet (fail)
  have Fx:Hid ((w5.drewN nq).heap[rb]?=some (.cells (n9 r) 135 (0,0))):=hid AY.out
  have lM:Hid (BL w (w5.drewN nq)):=hid (aG fF.out nq)
  have Gt:Hid ((w5.drewN nq).heap[w.heap.size+1]?=some (.cells #[.int .i64 0,.int .i64 0] 66 (0,0))):=hid Al.out
  go_wp2
  go_roundw
  case rel=>exact⟨nc,n'+1,r,by omega,by omega,rfl,by go_num,H8,hid aeL,Fx,Gt,lM⟩
  simp[intOf]
  omega):p:=h
theorem aaX{p:Prop}(h:p:=by
  go_wp2
  go_quiet (fail)
  have Fx:Hid ((w5.drewN nq).heap[rb]?=some (.cells (n9 r) 135 (0,0))):=hid AY.out
  have lM:Hid (BL w (w5.drewN nq)):=hid (aG fF.out nq)
  have Gt:Hid ((w5.drewN nq).heap[w.heap.size+1]?=some (.cells #[.int .i64 0,.int .i64 0] 66 (0,0))):=hid Al.out
  go_wp2
  go_roundw
  case rel=>exact⟨at'+1,n'+1,r,by omega,by omega,by go_num,by go_num,H8,hid aeL,Fx,Gt,lM⟩
  simp[intOf]
  omega):p:=h
theorem Nr(x:ah.bF)(W:ah.cG)(p:List Vm.Ins)(most:Int)(hm0: -9223372036854775808<=most)(hm1:most<=9223372036854775807)(hlen:W.length=x.ai.length)(hrec:∀(k:Nat) (h:k<W.length),∀r∈W[k],r.length=(ah.kd x k).aA.length)
  (T fc fv:Nat)(uw v u:Value)(S T':Nat->Prop)(w:World)(hv:fA S w v x)(hu:kF T' w u p)(hs:Src T fc fv W uw w):
  Calls Tryz.prog 22 #[v,u,.iface T (.agg #[uw]),.int .i64 most] w (Iq (Vm.lZ x W p most) w):=by
 obtain⟨ak,ck,al,cl,ar,cr,rfl,hk,hl,hr,hsk,hsl,hsr⟩:=hv.form;obtain⟨au,cu,rfl,hsu,hcu,hmu⟩:=hu.form;obtain⟨w1,hw1⟩:=aV ((di w x.aI (.slice ak x.ai.length ck) (.slice al x.aN.length cl) (.slice ar x.aO.length cr)).alloc (.cells #[.int .i64 0,.int .i64 0] 66));have bf:Hid (Below w.heap.size w w1):=hid Oi;have zG:Hid (w1.heap[w.heap.size]?=some (.cells #[.int .i64 x.aI,.slice ak x.ai.length ck,.slice al x.aN.length cl,.slice ar x.aO.length cr] 27 (0,0))):=hid Xw;have DQ:Hid (w1.heap[w.heap.size+1]?=some (.cells #[.int .i64 0,.int .i64 0] 66 (0,0))):=hid Ke;unfold di at hw1;have HW:=hid hw1;clear hw1;have HV:=hid hv;have HU:=hid hu;have HS:=hid hs;have Ak:=hid hlen;have HRec:=hid hrec;have Rm:=hid (Pa p _ T' w1 (hu.keep (aB.below bf.out)))
 have adg:Hid (∀(W':World) (ee:Int) (e4:Int×Int×Int),BL w W'->e4=(0,0,ee)->Iq e4 w (.returned (.tuple #[.agg #[.int .i64 0,.int .i64 0],.int .i64 ee])) ((W'.setCell ⟨w.heap.size+1,0,none⟩ (.int .i64 0)).setCell ⟨w.heap.size+1,1,none⟩ (.int .i64 0))):=
  hid (fun W' ee e4 h1 h3=>Iq.mk h3 ((h1.setCell (p:=⟨w.heap.size+1,0,none⟩) aZ _).setCell (p:=⟨w.heap.size+1,1,none⟩) aZ _))
 clear hv hu hs hk hl hr hlen hrec;obtain⟨n0,hn0⟩:=aV p.length;have HN:=hid hn0;rw[<-hn0] at hsu hcu Rm HU ⊢;clear hn0;have hve:=FX p;by_cases DR:¬Vm.d9 p=0
 ·have HE:Hid (Vm.lZ x W p most=(0,0,Vm.d9 p)):=hid (by unfold Vm.lZ;rw[if_pos DR])
  rcases hve with h|h|h
  ·exact absurd h DR
  ·rw[h] at Rm HE
   clear h DR;exact YA
  ·rw[h] at Rm HE
   clear h DR;exact YA
 have DR:=Classical.not_not.1 DR;clear hve;have HOk:=hid (Vm.Im DR);have Ur:Hid (Vm.lZ x W p most=if most<0\/1000000<most then (0,0,4) else if Vm.oM x p=false then (0,0,12) else Vm.oN W p most.toNat 0 Vm.BD 0):=hid (by unfold Vm.lZ;rw[if_neg (by simpa using DR)]);rw[DR] at Rm;clear DR;by_cases hlo:most<0
 ·have HE:Hid (Vm.lZ x W p most=(0,0,4)):=hid (by rw[Ur.out,if_pos (.inl hlo)])
  exact YA
 by_cases hhi:1000000<most
 ·have HE:Hid (Vm.lZ x W p most=(0,0,4)):=hid (by rw[Ur.out,if_pos (.inr hhi)])
  exact YA
 have Ns:Hid (Vm.lZ x W p most=if Vm.oM x p=false then (0,0,12) else Vm.oN W p most.toNat 0 Vm.BD 0):=hid (by rw[Ur.out,if_neg aC])
 have Rf:=hid (fun W' (hb:BL w W')=>Pb x p (fun i hi h5=>by
  have:=Vm.EG (HOk.out.2 i hi);omega) _ _ S T' W' (HV.out.keep (aB.below hb)) (HU.out.keep (aB.below hb)))
 obtain⟨M,rfl⟩:∃M:Nat,most=(M:Int):=⟨most.toNat,by omega⟩;have hM:M<=1000000:=by omega
 go_enter Tryz.func22,Tryz.ntmps22;go_upto_region 1 with fail;rw[<-HW.out];go_wp2_with fail;refine Rm.out.mono ?_;rintro e w2 ⟨rfl,hb2⟩;have bK:=aJ bf hb2;have HG2:Hid (w2.heap[w.heap.size+1]?=some (.cells #[.int .i64 0,.int .i64 0] 66 (0,0))):=hid ((hb2.block _ (aj DQ.out)).trans DQ.out);have Rn:Hid (w2.heap[w.heap.size]?=some (.cells #[.int .i64 x.aI,.slice ak x.ai.length ck,.slice al x.aN.length cl,.slice ar x.aO.length cr] 27 (0,0))):=hid ((hb2.block _ (aj zG.out)).trans zG.out);clear hb2;obtain⟨⟨s0,s1,s2,s3⟩, -⟩:=aW Rn.out;have c0:w2.cell? ⟨w.heap.size+1,0,none⟩=some (.int .i64 0):=(aF HG2.out 0).trans rfl;have c1:w2.cell? ⟨w.heap.size+1,1,none⟩=some (.int .i64 0):=(aF HG2.out 1).trans rfl;have f0:=bh HG2.out 0;have f1:=bh HG2.out 1;clear c0 c1 f0 f1;have HNm2:=hid (Rf.out w2 bK.out);clear Rf;go_upto_region 6 with fail;go_wp2_with fail;refine HNm2.out.mono ?_;rintro e w3 ⟨rfl,hb3⟩;have bZ:=aJ bK hb3;have rH:Hid (w3.heap[w.heap.size+1]?=some (.cells #[.int .i64 0,.int .i64 0] 66 (0,0))):=hid ((hb3.block _ (aj HG2.out)).trans HG2.out);clear hb3 s0 s1 s2 s3;by_cases hnm:Vm.oM x p=false
 ·have HE:Hid (Vm.lZ x W p M=(0,0,12)):=hid (by rw[Ns.out,if_pos hnm])
  rw[hnm];have c0:w3.cell? ⟨w.heap.size+1,0,none⟩=some (.int .i64 0):=(aF rH.out 0).trans rfl;have c1:w3.cell? ⟨w.heap.size+1,1,none⟩=some (.int .i64 0):=(aF rH.out 1).trans rfl;have f0:=bh rH.out 0;have f1:=bh rH.out 1;go_wp2;refine bodyPost_ret (pQ (oy rH.out _ _) rfl rfl) rfl (adg.out w3 _ _ bZ.out HE.out)
 have hnm:Vm.oM x p=true:=by simpa using hnm
 have Dm:Hid (Vm.oN W p M 0 Vm.BD 0=Vm.lZ x W p M):=hid (by rw[Ns.out,if_neg (by rw[hnm];simp),Int.toNat_natCast]);have HNI:Hid (∀i∈p,Vm.dH x i=true):=hid (List.all_eq_true.1 hnm);rw[hnm];obtain⟨Rr,hRr⟩:=aV (Vm.lZ x W p M);rw[<-hRr] at Dm;have Ky:=hid hRr.symm;clear hnm hRr Ur Ns;obtain⟨rb,hrb⟩:=aV w3.heap.size;obtain⟨w4,hw4⟩:=aV (w3.alloc (.cells (n9 Vm.BD) 135));have f9:Hid (Below w.heap.size w w4):=hid (by rw[hw4];exact bZ.out.alloc bZ.out.size _);have FY:Hid (w4.heap[w.heap.size+1]?=some (.cells #[.int .i64 0,.int .i64 0] 66 (0,0))):=hid (by rw[hw4];exact aY _ rH.out);have HQ4:Hid (w4.heap[rb]?=some (.cells (n9 Vm.BD) 135 (0,0))):=hid (by rw[hw4,hrb];exact aP _ _ rfl);have HRB:Hid (w.heap.size+1<rb):=hid (by rw[hrb];exact aj rH.out);have mq:w3.alloc (.cells #[.int .i64 0,.int .i64 0,.int .i64 0,.int .i64 0,.int .i64 0,.int .i64 0,.int .i64 0,.int .i64 0] 135)=w4:=by rw[hw4];rfl
 clear hw4;have AZ:=hid mq;have HRB2:=hid hrb;clear mq hrb;go_upto_region 12 with fail;rw[AZ.out,<-HRB2.out];go_loopw [12,13] (fun a n wr=>∃(at' n':Nat) (r:List Int),at'<=n0/\n'<=M/\a=.int .i64 (at':Int)/\n=.int .i64 (n':Int)/\Hid (r.length=8)/\Hid (Vm.oN W p (M-n') at' r n'=Rr)/\Hid (wr.heap[rb]?=some (.cells (n9 r) 135 (0,0)))/\Hid (wr.heap[w.heap.size+1]?=some (.cells #[.int .i64 0,.int .i64 0] 66 (0,0)))/\Hid (BL w wr)) (fun _ n _=>M-(intOf n).toNat);case atStart=>exact⟨0,0,Vm.BD,by omega,by omega,rfl,rfl,hid rfl,Dm,HQ4,FY,f9⟩
 case round=>
  obtain⟨at',n',r,hat,hn',rfl,rfl,H8,HF,HQ,HG,HB⟩:=hrel;obtain⟨wo,rfl⟩:=aV (wr:World);by_cases hae:at'=n0
  ·have HE:Hid (Rr=(0,(n':Int),0)):=hid (by rw[<-HF.out];exact Uo _ _ _ _ (hae.trans HN.out))
   subst hae;have c0:wo.cell? ⟨w.heap.size+1,0,none⟩=some (.int .i64 0):=(aF HG.out 0).trans rfl;have c1:wo.cell? ⟨w.heap.size+1,1,none⟩=some (.int .i64 0):=(aF HG.out 1).trans rfl;have f0:=bh HG.out 0;have f1:=bh HG.out 1;go_wp2;refine bodyPost_ret (pQ (oy HG.out _ _) rfl rfl) rfl ?_;exact Iq.mk (Ky.out.trans HE.out) ((HB.out.setCell (p:=⟨w.heap.size+1,0,none⟩) aZ _).setCell (p:=⟨w.heap.size+1,1,none⟩) aZ _)
  by_cases hne:n'=M
  ·have HE:Hid (Rr=(0,0,23)):=hid (by
    rw[<-HF.out,hne,Nat.sub_self]
    exact Uq _ _ _ (by rw[<-HN.out];exact hae))
   subst hne;have c0:wo.cell? ⟨w.heap.size+1,0,none⟩=some (.int .i64 0):=(aF HG.out 0).trans rfl;have c1:wo.cell? ⟨w.heap.size+1,1,none⟩=some (.int .i64 0):=(aF HG.out 1).trans rfl;have f0:=bh HG.out 0;have f1:=bh HG.out 1;have hae2:¬(at':Int)=n0:=by omega
   go_wp2;refine bodyPost_ret (pQ (oy HG.out _ _) rfl rfl) rfl (adg.out wo _ _ HB.out (Ky.out.trans HE.out))
  have hae2:¬(at':Int)=n0:=by omega
  have adh:¬(n':Int)=M:=by omega
  have hlt:at'<n0:=by omega
  have hnlt:n'<M:=by omega
  have hk0:(0:Int)<=at':=by omega
  have hk1:(at':Int)<n0:=by omega
  have hkp:at'<p.length:=by rw[<-HN.out];exact hlt
  obtain⟨f,hf⟩:∃f,M-n'=f+1:=⟨M-n'-1,by omega⟩;have hf2:M-(n'+1)=f:=by omega
  rw[hf] at HF;have D9:=hid hf2;obtain⟨-,hz,y0,y1,y2,y3⟩:=(kF.keep HU.out (aB.below HB.out)).at hkp;have HI:=hid (HOk.out.2 _ (gY hkp));have HNi:=hid (HNI.out _ (gY hkp));have yV:Hid (∀r' O6,Vm.step W p[at'] r (at'+1)=(none,r',O6)->Vm.oN W p f O6 r' (n'+1)=Rr):=hid (fun r' O6 h=>by rw[<-HF.out];exact(Pc f at' r n' hkp h).symm);have rJ:Hid (∀c r' O6,Vm.step W p[at'] r (at'+1)=(some c,r',O6)->Rr=(c,((n'+1:Nat):Int),0)):=hid (fun c r' O6 h=>by rw[<-HF.out];exact Pf f at' r n' hkp h);clear HF hf hf2 hae hne;generalize p[at']=i at*;obtain⟨o,ia,ib,ic⟩:=i;simp only at y0 y1 y2 y3;obtain⟨bI,hbI⟩:=aV wo.heap.size;obtain⟨w5,mq⟩:=aV (wo.alloc (.cells #[.int .i64 o,.int .i64 ia,.int .i64 ib,.int .i64 ic] 89));have fF:Hid (Below w.heap.size w w5):=hid (by rw[mq];exact HB.out.alloc HB.out.size _);have Al:Hid (w5.heap[w.heap.size+1]?=some (.cells #[.int .i64 0,.int .i64 0] 66 (0,0))):=hid (by rw[mq];exact aY _ HG.out);have AY:Hid (w5.heap[rb]?=some (.cells (n9 r) 135 (0,0))):=hid (by rw[mq];exact aY _ HQ.out);have HK:Hid (w5.heap[bI]?=some (.cells #[.int .i64 o,.int .i64 ia,.int .i64 ib,.int .i64 ic] 89 (0,0))):=hid (by rw[mq,hbI];exact aP _ _ rfl);have HBI:=hid hbI;have afI:=hid mq;obtain⟨⟨k0,k1,k2,k3⟩, -⟩:=aW HK.out;clear mq hbI;go_upto_region 17 with fail;rw[<-afI.out,<-HBI.out];clear y0 y1 y2 y3 hz afI HBI;go_upto_region 20 with fail;rcases Vm.EG HI.out with h|h|h|h|h|h|h|h|h
  ·obtain⟨ho,h⟩:=h
   dsimp only at ho h;subst ho;have HE:=hid (rJ.out ia r (at'+1) rfl);have c0:w5.cell? ⟨w.heap.size+1,0,none⟩=some (.int .i64 0):=(aF Al.out 0).trans rfl;have c1:w5.cell? ⟨w.heap.size+1,1,none⟩=some (.int .i64 0):=(aF Al.out 1).trans rfl;have f0:=bh Al.out 0;have f1:=bh Al.out 1;go_wp2;refine bodyPost_ret (pQ (oy Al.out _ _) rfl rfl) rfl ?_;exact Iq.mk (Ky.out.trans (by rw[HE.out];simp)) ((fF.out.setCell (p:=⟨w.heap.size+1,0,none⟩) aZ _).setCell (p:=⟨w.heap.size+1,1,none⟩) aZ _)
  ·obtain⟨ho,h⟩:=h
   dsimp only at ho h;subst ho;obtain⟨na,rfl⟩:∃m:Nat,ia=(m:Int):=⟨ia.toNat,by omega⟩;have hna:na<8:=by omega
   have HF6:=hid (yV.out (Vm.j4 r na ib) (at'+1) rfl);go_wp2_with fail;refine(wI rb bI na hna ib w5 r H8.out AY.out ?k1).mono ?_;case k1=>exact k1
   rintro e w6 ⟨rfl,ni⟩;have YB:Hid (w6.heap[rb]?=some (.cells (n9 (Vm.j4 r na ib)) 135 (0,0))):=hid (by rw[<-ni,<-Bb];exact heap_setCell_same _ rb na _ _ _ AY.out);have jS:Hid (Below w.heap.size w w6):=hid (by rw[<-ni];exact fF.out.setCell (p:=⟨rb,na,none⟩) Ol _);have Nt:Hid (w6.heap[w.heap.size+1]?=some (.cells #[.int .i64 0,.int .i64 0] 66 (0,0))):=hid (by rw[<-ni,heap_setCell_other _ _ _ _ Ol];exact Al.out);have YC:Hid ((Vm.j4 r na ib).length=8):=hid RJ;clear ni;go_wp2;go_roundw;case rel=>exact⟨at'+1,n'+1,Vm.j4 r na ib,by omega,by omega,by go_num,by go_num,YC,hid Ot,YB,Nt,jS⟩
   simp[intOf];omega
  ·obtain⟨ho,h⟩:=h
   dsimp only at ho h;subst ho;obtain⟨na,rfl⟩:∃m:Nat,ia=(m:Int):=⟨ia.toNat,by omega⟩;obtain⟨nb,rfl⟩:∃m:Nat,ib=(m:Int):=⟨ib.toNat,by omega⟩;obtain⟨nc,rfl⟩:∃m:Nat,ic=(m:Int):=⟨ic.toNat,by omega⟩;have hna:na<8:=by omega
   have hb0:(0:Int)<=nb:=by omega
   have hb1:(nb:Int)<8:=by omega
   have hc0:(0:Int)<=nc:=by omega
   have hc1:(nc:Int)<8:=by omega
   have r1:=lH H8.out AY.out nb aC;have r2:=lH H8.out AY.out nc aC;have HF6:=hid (yV.out (Vm.j4 r na (wrap64 (Vm.jO r nb+Vm.jO r nc))) (at'+1) rfl);generalize Vm.jO r nb=vb at*;generalize Vm.jO r nc=vc at*;go_wp2;refine gH 10 lN (by kernel_rfl) ?_;simp only[List.take_succ_cons,List.take_zero,iW,iX];repeat (go_big_quiet_step (fail))
   refine fS ?_;have Fx:Hid ((w5.drewN 1).heap[rb]?=some (.cells (n9 r) 135 (0,0))):=hid AY.out;have lM:Hid (BL w (w5.drewN 1)):=hid (aG fF.out 1);have Gt:Hid ((w5.drewN 1).heap[w.heap.size+1]?=some (.cells #[.int .i64 0,.int .i64 0] 66 (0,0))):=hid Al.out;go_wp2_with fail;refine(wI rb bI na hna (wrap64 (vb+vc)) _ r H8.out Fx.out ?k1).mono ?_;case k1=>exact k1
   rintro e w6 ⟨rfl,ni⟩;have YB:Hid (w6.heap[rb]?=some (.cells (n9 (Vm.j4 r na (wrap64 (vb+vc)))) 135 (0,0))):=hid ab1;have jS:Hid (Below w.heap.size w w6):=hid acf;have Nt:Hid (w6.heap[w.heap.size+1]?=some (.cells #[.int .i64 0,.int .i64 0] 66 (0,0))):=hid acg;have YC:Hid ((Vm.j4 r na (wrap64 (vb+vc))).length=8):=hid RJ;clear ni;go_wp2;go_roundw;case rel=>exact⟨at'+1,n'+1,Vm.j4 r na (wrap64 (vb+vc)),by omega,by omega,by go_num,by go_num,YC,hid Ot,YB,Nt,jS⟩
   simp[intOf];omega
  ·obtain⟨ho,h⟩:=h
   dsimp only at ho h;subst ho;obtain⟨na,rfl⟩:∃m:Nat,ia=(m:Int):=⟨ia.toNat,by omega⟩;obtain⟨nb,rfl⟩:∃m:Nat,ib=(m:Int):=⟨ib.toNat,by omega⟩;obtain⟨nc,rfl⟩:∃m:Nat,ic=(m:Int):=⟨ic.toNat,by omega⟩;have hna:na<8:=by omega
   have hb0:(0:Int)<=nb:=by omega
   have hb1:(nb:Int)<8:=by omega
   have hc0:(0:Int)<=nc:=by omega
   have hc1:(nc:Int)<8:=by omega
   have r1:=lH H8.out AY.out nb aC;have r2:=lH H8.out AY.out nc aC;have HF6:=hid (yV.out (Vm.j4 r na (wrap64 (Vm.jO r nb-Vm.jO r nc))) (at'+1) rfl);generalize Vm.jO r nb=vb at*;generalize Vm.jO r nc=vc at*;go_wp2;refine gH 10 lN (by kernel_rfl) ?_;simp only[List.take_succ_cons,List.take_zero,iW,iX];repeat (go_big_quiet_step (fail))
   refine fS ?_;have Fx:Hid ((w5.drewN 1).heap[rb]?=some (.cells (n9 r) 135 (0,0))):=hid AY.out;have lM:Hid (BL w (w5.drewN 1)):=hid (aG fF.out 1);have Gt:Hid ((w5.drewN 1).heap[w.heap.size+1]?=some (.cells #[.int .i64 0,.int .i64 0] 66 (0,0))):=hid Al.out;go_wp2_with fail;refine(wI rb bI na hna (wrap64 (vb-vc)) _ r H8.out Fx.out ?k1).mono ?_;case k1=>exact k1
   rintro e w6 ⟨rfl,ni⟩;have YB:Hid (w6.heap[rb]?=some (.cells (n9 (Vm.j4 r na (wrap64 (vb-vc)))) 135 (0,0))):=hid ab1;have jS:Hid (Below w.heap.size w w6):=hid acf;have Nt:Hid (w6.heap[w.heap.size+1]?=some (.cells #[.int .i64 0,.int .i64 0] 66 (0,0))):=hid acg;have YC:Hid ((Vm.j4 r na (wrap64 (vb-vc))).length=8):=hid RJ;clear ni;go_wp2;go_roundw;case rel=>exact⟨at'+1,n'+1,Vm.j4 r na (wrap64 (vb-vc)),by omega,by omega,by go_num,by go_num,YC,hid Ot,YB,Nt,jS⟩
   simp[intOf];omega
  ·obtain⟨ho,h⟩:=h
   dsimp only at ho h;subst ho;obtain⟨na,rfl⟩:∃m:Nat,ia=(m:Int):=⟨ia.toNat,by omega⟩;obtain⟨nb,rfl⟩:∃m:Nat,ib=(m:Int):=⟨ib.toNat,by omega⟩;have hna:na<8:=by omega
   have hkx:nb<W.length:=by
    have:=HNi.out;rw[EK rfl] at this;simp only[lE] at this;rw[Ak.out];omega
   have HF6:=hid (yV.out (Vm.j4 r na (Vm.mA W nb:Nat)) (at'+1) rfl);have hmc:=HS.out.mc;have hec:=HS.out.ec;have Us:=hid (HS.out.count w5 fF.out nb hkx);generalize Vm.mA W nb=cn at*;go_wp2_with fail;refine Us.out.mono ?_;rintro e w7 ⟨rfl,mr⟩;have Fx:Hid (w7.heap[rb]?=some (.cells (n9 r) 135 (0,0))):=hid ((mr.block _ (aj AY.out)).trans AY.out);have lM:=aJ fF mr;have Gt:Hid (w7.heap[w.heap.size+1]?=some (.cells #[.int .i64 0,.int .i64 0] 66 (0,0))):=hid ((mr.block _ (aj Al.out)).trans Al.out);have k1:w7.cell? ⟨bI,1,none⟩=some (.int .i64 (na:Int)):=(mr.cell (p:=⟨bI,1,none⟩) (aj HK.out)).trans k1;clear mr;go_wp2_with fail;refine(wI rb bI na hna (cn:Int) w7 r H8.out Fx.out ?k1).mono ?_;case k1=>exact k1
   rintro e w6 ⟨rfl,ni⟩;have YB:Hid (w6.heap[rb]?=some (.cells (n9 (Vm.j4 r na (cn:Int))) 135 (0,0))):=hid ab1;have jS:Hid (Below w.heap.size w w6):=hid acf;have Nt:Hid (w6.heap[w.heap.size+1]?=some (.cells #[.int .i64 0,.int .i64 0] 66 (0,0))):=hid acg;have YC:Hid ((Vm.j4 r na (cn:Int)).length=8):=hid RJ;clear ni;go_wp2;go_roundw;case rel=>exact⟨at'+1,n'+1,Vm.j4 r na (cn:Int),by omega,by omega,by go_num,by go_num,YC,hid Ot,YB,Nt,jS⟩
   simp[intOf];omega
  ·obtain⟨ho,h⟩:=h
   dsimp only at ho h;subst ho;obtain⟨na,rfl⟩:∃m:Nat,ia=(m:Int):=⟨ia.toNat,by omega⟩;obtain⟨nb,rfl⟩:∃m:Nat,ib=(m:Int):=⟨ib.toNat,by omega⟩;obtain⟨nc,rfl⟩:∃m:Nat,ic=(m:Int):=⟨ic.toNat,by omega⟩;have hna:na<8:=by omega
   have ha0:(0:Int)<=na:=by omega
   have ha1:(na:Int)<8:=by omega
   have hkx:nb<W.length:=by
    have:=HNi.out;rw[yx rfl] at this;simp only[kJ,lE] at this;rw[Ak.out];omega
   have hcx:∀l∈W[nb],nc<l.length:=by
    intro l hl;have:=HNi.out;rw[yx rfl] at this;simp only[kJ,lE] at this;rw[HRec.out nb hkx l hl];omega
   have HHc:=hid hcx;have Ro:Hid (Vm.mA W nb=W[nb].length):=hid (by unfold Vm.mA;rw[Int.toNat_natCast,jA,kK hkx];rfl);have r1:=lH H8.out AY.out na aC;have hmc:=HS.out.mc;have hmv:=HS.out.mv;have hec:=HS.out.ec;have hev:=HS.out.ev;have hnil:=HS.out.nil;have hzi:bI<w5.heap.size:=aj HK.out;have KR:rb<w5.heap.size:=aj AY.out;have Us:=hid (fun(y:nX w5)=>Calls.qi (x:=y) (HS.out.count y.1 (cO fF.out y.2) nb hkx));have afJ:Hid (∀q,q=Vm.jO r na->Vm.step W ⟨5,na,nb,nc⟩ r (at'+1)=if q<0\/(Vm.mA W nb:Int)<=q then (some 251,r,at'+1) else (none,Vm.j4 r na (Vm.Il W nb q nc),at'+1)):=hid (fun q e=>by subst e;rfl);clear hcx;obtain⟨q,hq⟩:=aV (Vm.jO r na);rw[<-hq] at r1;have Ut:=hid (afJ.out q hq);clear hq afJ;obtain⟨cn,hcn⟩:=aV (Vm.mA W nb);rw[<-hcn] at Us Ut Ro;clear hcn;by_cases Dk:q<0
   ·have hd:decide (q<0)=true:=decide_eq_true Dk
    have HE:=hid (rJ.out 251 r (at'+1) (by rw[Ut.out,if_pos (.inl Dk)]));go_wp2;have hg:=nX.cell (w:=w5);refine fQ (by kernel_rfl) (by kernel_rfl) ?_;repeat (go_big_quiet_step (fail))
    exact aaV
   have hd:decide (q<0)=false:=decide_eq_false Dk;obtain⟨nq,rfl⟩:∃m:Nat,q=(m:Int):=⟨q.toNat,by omega⟩;by_cases hqc:cn<=nq
   ·have HE:=hid (rJ.out 251 r (at'+1) (by rw[Ut.out,if_pos (.inr aC)]))
    have hd3:decide (cn<=nq)=true:=decide_eq_true hqc;go_wp2;have hg:=nX.cell (w:=w5);refine fQ (by kernel_rfl) (by kernel_rfl) ?_;repeat (go_big_quiet_step ((exact Us.out _)))
    exact aaV
   have hd3:decide (cn<=nq)=false:=decide_eq_false hqc;have HF6:=hid (yV.out (Vm.j4 r na (Vm.Il W nb nq nc)) (at'+1) (by rw[Ut.out,if_neg aC]));have hqW:nq<W[nb].length:=by have:=Ro.out;omega
   have HVl:=hid (fun X (hX:BL w X)=>HS.out.value X hX nb nq nc hkx hqW (HHc.out _ (gY hqW)));clear Ut;go_wp2;have hg:=nX.cell (w:=w5);refine fQ (by kernel_rfl) (by kernel_rfl) ?_;repeat (go_big_quiet_step ((exact Us.out _)))
   refine fS ?_;intro w7 hx;have mr:=ny hx;clear hx hg;have Fx:Hid (w7.heap[rb]?=some (.cells (n9 r) 135 (0,0))):=hid ((mr.block _ (aj AY.out)).trans AY.out);have lM:=aJ fF mr;have Gt:Hid (w7.heap[w.heap.size+1]?=some (.cells #[.int .i64 0,.int .i64 0] 66 (0,0))):=hid ((mr.block _ (aj Al.out)).trans Al.out);have Gy:Hid (w7.heap[bI]?=some (.cells #[.int .i64 5,.int .i64 (na:Int),.int .i64 (nb:Int),.int .i64 (nc:Int)] 89 (0,0))):=hid ((mr.block _ (aj HK.out)).trans HK.out);have r1:w7.cell? ⟨rb,na,none⟩=some (.int .i64 (nq:Int)):=(mr.cell (p:=⟨rb,na,none⟩) (aj AY.out)).trans r1;clear mr k0 k1 k2 k3;obtain⟨⟨k0,k1,k2,k3⟩, -⟩:=aW Gy.out;have na0:(0:Int)<=na:=by omega
   go_wp2;refine cE 14 (.quiet 0 (.quiet 1 (.quiet 2 (.quiet 3 (.quiet 4 (.quiet 5 (.quiet 6 (.quiet 7 (.quiet 8 (.quiet 9 (.quiet 10 (.one 11 (.quiet 12 (.one 13 .done)))))))))))))) (BL w7) lN (by kernel_rfl) (aG ay 1) ?_;have oT:=hid (aG (Below.refl w7.heap.size w7) 1);generalize w7.drewN 1=w8 at*;have hq1:=dL w7 ⟨bI,1,none⟩ (.int .i64 (na:Int)) fun xh=>(xh.2.cell (p:=⟨bI,1,none⟩) (aj Gy.out)).trans k1;have uE:=dL w7 ⟨bI,2,none⟩ (.int .i64 (nb:Int)) fun xh=>(xh.2.cell (p:=⟨bI,2,none⟩) (aj Gy.out)).trans k2;have hq3:=dL w7 ⟨bI,3,none⟩ (.int .i64 (nc:Int)) fun xh=>(xh.2.cell (p:=⟨bI,3,none⟩) (aj Gy.out)).trans k3;have MJ:=dL w7 ⟨rb,na,none⟩ (.int .i64 (nq:Int)) fun xh=>(xh.2.cell (p:=⟨rb,na,none⟩) (aj Fx.out)).trans r1
   iterate 11 refine eB ?_
   refine aM rfl ?_;go_wp2_with fail;refine aD (BL w7) (fun _ h=>h) oT.out ?_;refine eB ?_;clear hq1 uE hq3 MJ;have adi:=hid (HVl.out w8 (cO lM.out oT.out));generalize Vm.Il W nb nq nc=vv at*;refine aM rfl ?_;go_wp2_with fail;refine adi.out.mono ?_;rintro e w9 ⟨rfl,afK⟩;have Bm:=cO oT.out afK;clear afK;have HQ9:Hid (w9.heap[rb]?=some (.cells (n9 r) 135 (0,0))):=hid ((Bm.block _ (aj Fx.out)).trans Fx.out);have Bv:=aJ lM Bm;have HG9:Hid (w9.heap[w.heap.size+1]?=some (.cells #[.int .i64 0,.int .i64 0] 66 (0,0))):=hid ((Bm.block _ (aj Gt.out)).trans Gt.out);have k1:w9.cell? ⟨bI,1,none⟩=some (.int .i64 (na:Int)):=(Bm.cell (p:=⟨bI,1,none⟩) (aj Gy.out)).trans k1;go_wp2_with fail;refine aD (BL w7) (fun _ h=>h) Bm ?_;refine aT ?_;try simp only[iW,iX]
   clear Bm;go_wp2_with fail;refine(wI rb bI na hna vv w9 r H8.out HQ9.out ?k1).mono ?_;case k1=>exact k1
   rintro e w6 ⟨rfl,ni⟩;have YB:Hid (w6.heap[rb]?=some (.cells (n9 (Vm.j4 r na vv)) 135 (0,0))):=hid (by rw[<-ni,<-Bb];exact heap_setCell_same _ rb na _ _ _ HQ9.out);have jS:Hid (Below w.heap.size w w6):=hid (by rw[<-ni];exact Bv.out.setCell (p:=⟨rb,na,none⟩) Ol _);have Nt:Hid (w6.heap[w.heap.size+1]?=some (.cells #[.int .i64 0,.int .i64 0] 66 (0,0))):=hid (by rw[<-ni,heap_setCell_other _ _ _ _ Ol];exact HG9.out);have YC:Hid ((Vm.j4 r na vv).length=8):=hid RJ;clear ni;go_wp2;go_roundw;case rel=>exact⟨at'+1,n'+1,Vm.j4 r na vv,by omega,by omega,by go_num,by go_num,YC,hid Ot,YB,Nt,jS⟩
   simp[intOf];omega
  ·obtain⟨ho,h⟩:=h
   dsimp only at ho h;subst ho;obtain⟨na,rfl⟩:∃m:Nat,ia=(m:Int):=⟨ia.toNat,by omega⟩;have hnaN:na<=n0:=by have:=HN.out;omega
   have HF6:=hid (yV.out r na rfl);go_wp2;go_roundw;case rel=>exact⟨na,n'+1,r,by omega,by omega,rfl,by go_num,H8,hid Ot,AY,Al,fF⟩
   simp[intOf];omega
  ·obtain⟨ho,h⟩:=h
   dsimp only at ho h;subst ho;obtain⟨na,rfl⟩:∃m:Nat,ia=(m:Int):=⟨ia.toNat,by omega⟩;obtain⟨nb,rfl⟩:∃m:Nat,ib=(m:Int):=⟨ib.toNat,by omega⟩;obtain⟨nc,rfl⟩:∃m:Nat,ic=(m:Int):=⟨ic.toNat,by omega⟩;have hncN:nc<=n0:=by have:=HN.out;omega
   have ha0:(0:Int)<=na:=by omega
   have ha1:(na:Int)<8:=by omega
   have hb0:(0:Int)<=nb:=by omega
   have hb1:(nb:Int)<8:=by omega
   have r1:=lH H8.out AY.out na aC;have r2:=lH H8.out AY.out nb aC;have HSx:Hid (∀a b,a=Vm.jO r na->b=Vm.jO r nb->Vm.oN W p f (if a<b then nc else at'+1) r (n'+1)=Rr):=hid (fun a b e1 e2=>by subst e1;subst e2;exact yV.out _ _ rfl);obtain⟨va,YD⟩:=aV (Vm.jO r na);obtain⟨vb,Pg⟩:=aV (Vm.jO r nb);rw[<-YD] at r1;rw[<-Pg] at r2;have HSy:=hid (HSx.out va vb YD Pg);clear YD Pg HSx;by_cases hc:va<vb
   ·exact aaW
   ·rw[if_neg hc] at HSy
    exact aaX
  ·obtain⟨ho,h⟩:=h
   dsimp only at ho h;subst ho;obtain⟨na,rfl⟩:∃m:Nat,ia=(m:Int):=⟨ia.toNat,by omega⟩;obtain⟨nb,rfl⟩:∃m:Nat,ib=(m:Int):=⟨ib.toNat,by omega⟩;obtain⟨nc,rfl⟩:∃m:Nat,ic=(m:Int):=⟨ic.toNat,by omega⟩;have hncN:nc<=n0:=by have:=HN.out;omega
   have ha0:(0:Int)<=na:=by omega
   have ha1:(na:Int)<8:=by omega
   have hb0:(0:Int)<=nb:=by omega
   have hb1:(nb:Int)<8:=by omega
   have r1:=lH H8.out AY.out na aC;have r2:=lH H8.out AY.out nb aC;have HSx:Hid (∀a b,a=Vm.jO r na->b=Vm.jO r nb->Vm.oN W p f (if a=b then nc else at'+1) r (n'+1)=Rr):=hid (fun a b e1 e2=>by subst e1;subst e2;exact yV.out _ _ rfl);obtain⟨va,YD⟩:=aV (Vm.jO r na);obtain⟨vb,Pg⟩:=aV (Vm.jO r nb);rw[<-YD] at r1;rw[<-Pg] at r2;have HSy:=hid (HSx.out va vb YD Pg);clear YD Pg HSx;by_cases hc:va=vb
   ·exact aaW
   ·rw[if_neg hc] at HSy
    have hc2:(va==vb)=false:=by simpa using hc
    exact aaX
theorem Ph{W:ah.cG}{k:Nat}(hk:k<W.length):Vm.mA W k=W[k].length:=by
 unfold Vm.mA;rw[Int.toNat_natCast,jA,kK hk];rfl
theorem YE{W:ah.cG}{k i f:Nat}(hk:k<W.length)(hi:i<W[k].length)(hf:f<W[k][i].length):Vm.Il W k i f=W[k][i][f]:=by
 unfold Vm.Il;rw[Int.toNat_natCast,Int.toNat_natCast,Int.toNat_natCast,jA (l:=W),kK hk,zOg,jA (l:=W[k]),kK hi,zOg,jA,kK hf];rfl
theorem KT(W:ah.cG)(k:Nat)(hk:k<W.length)(uw:Value)(S:Nat->Prop)(w:World)(hv:cZ S w uw W):
  Calls Tryz.prog 210 #[.agg #[uw],.int .i64 (k:Int)] w fun e w'=>e=.returned (.int .i64 (Vm.mA W k:Nat))/\BL w w':=by
 obtain⟨a,cap,rfl,hok,hc,hm⟩:=hv.form;have HC:=hid (Ph hk);have h0:(0:Int)<=k:=by omega
 have h1:(k:Int)<W.length:=by omega
 obtain⟨u,hu,hz,hr⟩:=hv.at hk;obtain⟨a1,c1,rfl, -, -, -⟩:=hr.form;clear hr hv;generalize W[k].length=n at*;clear hk hc;generalize W.length=m at*;have h2:¬(k:Int)<0:=by omega
 have h3:¬(m:Int)<=k:=by omega
 go_enter Tryz.func210,Tryz.ntmps210;go_wp2;go_ret;exact⟨by rw[HC.out];rfl,ay.alloc aH _⟩
theorem KU(W:ah.cG)(k i f:Nat)(hk:k<W.length)(hi:i<W[k].length)(hf:f<W[k][i].length)(uw:Value)(S:Nat->Prop)(w:World)(hv:cZ S w uw W):
  Calls Tryz.prog 211 #[.agg #[uw],.int .i64 (k:Int),.int .i64 (i:Int),.int .i64 (f:Int)] w fun e w'=>e=.returned (.int .i64 (Vm.Il W k i f))/\BL w w':=by
 obtain⟨a,cap,rfl,hok,hc,hm⟩:=hv.form;have HC:=hid (YE hk hi hf);have h0:(0:Int)<=k:=by omega
 have h1:(k:Int)<W.length:=by omega
 have h2:(0:Int)<=i:=by omega
 have h3:(i:Int)<W[k].length:=by omega
 have h4:(0:Int)<=f:=by omega
 have h5:(f:Int)<W[k][i].length:=by omega
 have g0:¬(k:Int)<0:=by omega
 have g1:¬(W.length:Int)<=k:=by omega
 have g2:¬(i:Int)<0:=by omega
 have g3:¬(f:Int)<0:=by omega
 have g4:¬(W[k].length:Int)<=i:=by omega
 have g5:¬(W[k][i].length:Int)<=f:=by omega
 obtain⟨u,hu,hz,hr⟩:=hv.at hk;obtain⟨a1,c1,rfl,hs1, -, -⟩:=hr.form;obtain⟨u2,lF,hz2,AJ⟩:=hr.at hi;obtain⟨a2,c2,rfl,hs2, -, -⟩:=AJ.form;obtain⟨u3,hu3,Eo,rfl⟩:=AJ.at hf;clear hr AJ hv;generalize W[k][i][f]=x at*;clear hf;generalize W[k][i].length=n2 at*;clear hi;generalize W[k].length=n at*;clear hk hc;generalize W.length=m at*;go_enter Tryz.func211,Tryz.ntmps211;go_wp2;go_ret;exact⟨by rw[HC.out];rfl,(ay.alloc aH _).alloc aZ _⟩
theorem Uu(W:ah.cG)(uw:Value)(S:Nat->Prop)(w:World)(hv:cZ S w uw W):Src 70 210 211 W uw w where
 nil _:=by kernel_rfl
 mc _:=by kernel_rfl
 mv _:=by kernel_rfl
 ec:=bE Tryz.func210 (by kernel_rfl) rfl
 ev:=bE Tryz.func211 (by kernel_rfl) rfl
 count X hX k hk:=KT W k hk uw S X (hv.keep (aB.below hX))
 value X hX k i f hk hi hf:=KU W k i f hk hi hf uw S X (hv.keep (aB.below hX))
theorem gK(n a b:Int)(w:World):Calls Tryz.prog 117 #[.int .i64 n,.int .i64 a,.int .i64 b] w fun e w'=>e=.returned (.bool (ah.tT n a b))/\w=w':=by
 have HE:Hid (ah.tT n a b=(decide (a<=n)&&decide (n<=b))):=hid rfl;by_cases h:a<=n
 ·go_enter Tryz.func117,Tryz.ntmps117
  go_wp2;go_ret;exact⟨by rw[HE.out,decide_eq_true h];rfl,rfl⟩
 ·have h2:n<a:=by omega
  go_enter Tryz.func117,Tryz.ntmps117;go_wp2;go_ret;exact⟨by rw[HE.out,decide_eq_false (show ¬a<=n by omega)];rfl,rfl⟩
theorem Uv{p:Prop}(h:p:=by
  go_wp2
  go_ret
  exact⟨by rw[HE.out,decide_eq_true h,decide_eq_true g];rfl,rfl⟩):p:=h
theorem kY(lo hi a b:Int)(w:World):Calls Tryz.prog 142 #[.int .i64 lo,.int .i64 hi,.int .i64 a,.int .i64 b] w fun e w'=>e=.returned (.bool (ah.gI lo hi a b))/\w=w':=by
 have HE:Hid (ah.gI lo hi a b=(decide (a<=lo)&&decide (lo<=hi)&&decide (hi<=b))):=hid rfl;by_cases h:a<=lo
 ·by_cases g:lo<=hi
  ·go_enter Tryz.func142,Tryz.ntmps142
   exact Uv
  ·have g2:hi<lo:=by omega
   go_enter Tryz.func142,Tryz.ntmps142;go_wp2;go_ret;exact⟨by rw[HE.out,decide_eq_false (show ¬lo<=hi by omega),Bool.and_false];rfl,rfl⟩
 ·have h2:lo<a:=by omega
  go_enter Tryz.func142,Tryz.ntmps142;go_wp2;go_ret;exact⟨by rw[HE.out,decide_eq_false (show ¬a<=lo by omega)];rfl,rfl⟩
theorem wJ(c:UInt8)(w:World):Calls Tryz.prog 160 #[.int .u8 (c.toNat:Int)] w fun e w'=>e=.returned (.bool (ah.oH c))/\w=w':=by
 have HE:Hid (ah.oH c=(decide (97<=c.toNat)&&decide (c.toNat<=122))):=hid rfl;have hc:=c.toNat_lt;generalize ah.oH c=b at*;generalize c.toNat=n at*;by_cases h:97<=n
 ·have h1:(97:Int)<=n:=by omega
  by_cases g:n<=122
  ·have g1:(n:Int)<=122:=by omega
   go_enter Tryz.func160,Tryz.ntmps160;exact Uv
  ·have g1:¬(n:Int)<=122:=by omega
   go_enter Tryz.func160,Tryz.ntmps160;go_wp2;go_ret;exact⟨by rw[HE.out,decide_eq_false g,Bool.and_false];rfl,rfl⟩
 ·have h1:¬(97:Int)<=n:=by omega
  go_enter Tryz.func160,Tryz.ntmps160;go_wp2;go_ret;exact⟨by rw[HE.out,decide_eq_false h];rfl,rfl⟩
theorem Ir(c:UInt8)(w:World):Calls Tryz.prog 163 #[.int .u8 (c.toNat:Int)] w fun e w'=>e=.returned (.bool (ah.uS c))/\w=w':=by
 have HE:Hid (ah.uS c=(decide (48<=c.toNat)&&decide (c.toNat<=57))):=hid rfl;have hc:=c.toNat_lt;generalize ah.uS c=b at*;generalize c.toNat=n at*;by_cases h:48<=n
 ·have h1:(48:Int)<=n:=by omega
  by_cases g:n<=57
  ·have g1:(n:Int)<=57:=by omega
   go_enter Tryz.func163,Tryz.ntmps163;exact Uv
  ·have g1:¬(n:Int)<=57:=by omega
   go_enter Tryz.func163,Tryz.ntmps163;go_wp2;go_ret;exact⟨by rw[HE.out,decide_eq_false g,Bool.and_false];rfl,rfl⟩
 ·have h1:¬(48:Int)<=n:=by omega
  go_enter Tryz.func163,Tryz.ntmps163;go_wp2;go_ret;exact⟨by rw[HE.out,decide_eq_false h];rfl,rfl⟩
def pR(c:UInt8):Bool:= !(ah.oH c||ah.uS c)
theorem Nu{p:Prop}(h:p:=by
  go_wp2
  go_ret
  exact⟨by rw[HE.out];rfl,rfl⟩):p:=h
theorem Iu(c:UInt8)(w:World):Calls Tryz.prog 162 #[.int .u8 (c.toNat:Int)] w fun e w'=>e=.returned (.bool (pR c))/\w=w':=by
 have HL:=hid (fun W=>wJ c W);have HD:=hid (fun W=>Ir c W);have HE:Hid (pR c= !(ah.oH c||ah.uS c)):=hid rfl;generalize pR c=z at*;generalize ah.oH c=a at*;generalize ah.uS c=b at*;generalize c.toNat=n at*;cases a with
 |true=>
  go_enter Tryz.func162,Tryz.ntmps162
  go_wp2_with fail
  refine(HL.out _).mono ?_
  rintro e w' ⟨rfl,rfl⟩
  exact Nu
 |false=>
  go_enter Tryz.func162,Tryz.ntmps162
  go_wp2_with fail
  refine(HL.out _).mono ?_
  rintro e w' ⟨rfl,rfl⟩
  go_wp2_with fail
  refine(HD.out _).mono ?_
  rintro e w' ⟨rfl,rfl⟩
  exact Nu
abbrev ByV(S:Nat->Prop):=gQ (fun _ u (x:UInt8)=>u=.int .u8 (x.toNat:Int)) S
theorem Pj:fG (fun(_:Nat->Prop) _ u (x:UInt8)=>u=.int .u8 (x.toNat:Int)):=⟨fun h _=>h,fun h _=>h⟩
theorem KV(s:ByteArray):ah.aU s=(ah.tT s.size 1 12&&(ah.oH (s.data.getD 0 0)&& !s.data.toList.any pR)):=by
 unfold ah.aU ah.tT pR;rw[List.not_any_eq_all_not];have h1:decide ((1:Int)<=(s.size:Int))=decide (1<=s.size):=by rw[decide_eq_decide];omega
 have h2:decide ((s.size:Int)<=(12:Int))=decide (s.size<=12):=by rw[decide_eq_decide];omega
 rw[h1,h2];simp[Bool.and_assoc]
theorem Pk(w W:World)(s:ByteArray)(hs:s.size<=1000000)(cap:Nat)(hcap:cap=grownCap w s.size 0 5)(fr:Nat×Nat)(h:W.heap[w.heap.size]?=some (.cells (bytesRow s cap) 5 fr)):
  ByV (fun _=>True) W (.slice (some ⟨w.heap.size,0,none⟩) s.size cap) s.data.toList:=by
 have hl:s.data.toList.length=s.size:=rfl;have h1:=grownCap_ge w s.size 0 5;have h2:=grownCap_le_maxLen w s.size 0 5 (by unfold maxLen;omega);rw[<-hcap] at h1 h2;refine⟨some ⟨w.heap.size,0,none⟩,cap,by rw[hl],fun _=>⟨_,_,rfl⟩,by rw[hl];exact h1,h2,fun _=>trivial,fun j hj=>⟨_,?_,rfl⟩⟩;have e:(⟨bD (some ⟨w.heap.size,0,none⟩),bJ (some ⟨w.heap.size,0,none⟩)+j,none⟩:Addr)=⟨w.heap.size,j,none⟩:=by simp[bD,bJ]
 rw[e,cell_of_row W _ j _ _ fr h];unfold bytesRow;rw[Array.getElem?_append_left (by rw[Array.size_map];exact hj),Array.getElem?_map]
 have:s.data[j]?=some s.data.toList[j]:=by
  rw[Array.getElem?_eq_getElem hj];simp
 rw[this];rfl
theorem dA(s:ByteArray)(w:World):Calls Tryz.prog 141 #[.string s] w fun e w'=>e=.returned (.bool (ah.aU s))/\BL w w':=by
 have HE:=hid (KV s);have HI:=hid (gK s.size 1 12 w);cases hin:ah.tT s.size 1 12 with
 |false=>
  rw[hin] at HI HE
  clear hin
  go_enter Tryz.func141,Tryz.ntmps141
  go_wp2_with fail
  refine HI.out.mono ?_
  rintro e w' ⟨rfl,rfl⟩
  go_wp2
  go_ret
  exact⟨by rw[HE.out];rfl,ay⟩
 |true=>
  rw[hin] at HI HE
  have hsz:1<=s.size/\s.size<=12:=by
   unfold ah.tT at hin;simp only[kJ,lE] at hin;omega
  have h0:0<s.size:=by omega
  have h0i:(0:Int)<s.size:=by omega
  have HL:=hid (wJ s[0] w)
  have HX:Hid (s.data.getD 0 0=s[0]):=hid (by
   have h0':0<s.data.size:=h0
   rw[Array.getD_eq_getD_getElem?,Array.getElem?_eq_getElem h0']
   rfl)
  have HS:=hid hsz
  rw[HX.out] at HE
  clear hin hsz
  generalize ah.oH s[0]=lb at*
  have hix:∀W,(Instr.index 9 (.string s) (.int .i64 0)).run Tryz.prog W=.ok (.int .u8 (s[0].toNat:Int)) W:=fun W=>by
   rw[run_index_string W _ _ _ _ (by kernel_rfl),dif_pos ⟨Int.le_refl _,h0i⟩];rfl
  generalize s[0].toNat=c0 at*
  cases lb with
  |false=>
   go_enter Tryz.func141,Tryz.ntmps141
   go_wp2_with fail
   refine HI.out.mono ?_
   rintro e w' ⟨rfl,rfl⟩
   go_wp2_with fail
   refine HL.out.mono ?_
   rintro e w' ⟨rfl,rfl⟩
   go_wp2
   go_ret
   exact⟨by rw[HE.out];rfl,ay⟩
  |true=>
   have kc:=fun W:World=>run_bytes_of_string (P:=Tryz.prog) W 9 191 5 s (by kernel_rfl) (by kernel_rfl) (by kernel_rfl)
   go_enter Tryz.func141,Tryz.ntmps141
   go_wp2_with fail
   refine HI.out.mono ?_
   rintro e w' ⟨rfl,rfl⟩
   go_wp2_with fail
   refine HL.out.mono ?_
   rintro e w' ⟨rfl,rfl⟩
   go_wp2_with fail
   refine(Ud Pj s.data.toList pR _ (fun _=>True) _ (Pk w _ s (by have:=HS.out;omega) _ rfl _ (aP w.drew _ rfl)) (fun X u x h=>⟨_,h⟩) 162 #[] (bE Tryz.func162 (by kernel_rfl) rfl) (fun X hX j hj u hu=>by
    subst hu;exact(Iu _ X).mono fun e w' ⟨h1,h2⟩=>⟨h1,by rw[h2];exact ay⟩)).mono ?_
   rintro e w' ⟨rfl,hb⟩
   have HB:Hid (BL w w'):=hid (((Below.refl w.heap.size w).drew.alloc aH _).trans (hb.mono aZ))
   clear hb kc hix
   go_wp2
   go_ret
   exact⟨by rw[HE.out];simp,HB.out⟩
theorem EL{p:Prop}(h:p:=by
  go_wp2_with fail
  refine HC.out.mono ?_
  rintro e w' ⟨rfl,hb2⟩
  have HB:=aJ bf hb2
  clear hb2
  go_wp2
  go_ret
  exact⟨rfl,HB.out⟩):p:=h
theorem YF(u0 u1 u2 u3:Value)(b:Nat)(fo:Nat)(lb:Array Value)(z:Bool)(w:World)(nH:∀args w,(callFunc fo args).run Tryz.prog w=.ok (.enter fo args) w)(hb:w.cell? ⟨b,0,none⟩=some (.func (.func fo) #[] lb))(hz:b<w.heap.size)
  (hp:∀X,BL w X->CP fo (#[.agg #[u0,u1,u2,u3]]++lb) X fun e w'=>e=.returned (.bool z)/\BL X w'):
  Calls Tryz.prog 140 #[.agg #[u0,u1,u2,u3],.pointer (some ⟨b,0,none⟩)] w fun e w'=>e=.returned (.bool (!z))/\BL w w':=by
 have HP:=hid hp;clear hp;have bf:Hid (BL w (w.alloc (.cells #[u0,u1,u2,u3] 95))):=hid (ay.alloc aH _);have HC:=hid (HP.out _ bf.out);go_enter Tryz.func140,Tryz.ntmps140;exact EL
theorem EM{p:Prop}(h:p:=by
  go_wp2_with fail
  refine HC.out.mono ?_
  rintro e w' ⟨rfl,hb2⟩
  have HB:=aJ lD hb2
  clear hb2
  go_wp2
  go_ret
  exact⟨by rw[HN.out];rfl,HB.out⟩):p:=h
theorem adk{α:Type}{RR:(Nat->Prop)->World->List Value->α->Prop}(hR:cD RR)(F:List α)(q:α->Bool)(v:Value)(S:Nat->Prop)(w:World)(hv:dO 4 (RR S) S w v F)(fo:Nat)(lb:Array Value)(nH:∀args w,(callFunc fo args).run Tryz.prog w=.ok (.enter fo args) w)
  (hp:∀X,BL w X->∀j (h:j<F.length) us,us.length=4->RR S X us F[j]->CP fo (#[.agg us.toArray]++lb) X fun e w'=>e=.returned (.bool (q F[j]))/\BL X w'):
  Calls Tryz.prog 118 #[v,.func (.func fo) #[] lb] w fun e w'=>e=.returned (.bool (F.all q))/\BL w w':=by
 have HP:=hid hp;clear hp;have hbx:BL w (w.alloc (.cells #[.func (.func fo) #[] lb] 234)):=ay.alloc aH _;have hv1:dO 4 (RR S) S (w.alloc (.cells #[.func (.func fo) #[] lb] 234)) v F:=dO.keep hR hv (aB.below hbx);obtain⟨a,cap,rfl, -, -, -⟩:=hv.form
 have HC:=hid (Yr hR F (fun x=> !q x) _ S _ hv1 140 #[.pointer (some ⟨w.heap.size,0,none⟩)] (bE Tryz.func140 (by kernel_rfl) rfl) (fun X hX j hj us hl hr=>by
  obtain⟨u0,u1,u2,u3,rfl⟩:=aaP hl;exact YF u0 u1 u2 u3 w.heap.size fo lb (q F[j]) X nH ((hX.cell (p:=⟨w.heap.size,0,none⟩) aZ).trans aZ) Oq (fun Y hY=>HP.out Y (cO hbx (cO hX hY)) j hj [u0,u1,u2,u3] hl (hR.keep hr (aB.below hY)))))
 have HN:Hid (F.all q= !F.any fun x=> !q x):=hid Oo;have lD:=hid hbx;generalize F.all q=fa at*;generalize (F.any fun x=> !q x)=fb at*;clear hv hv1 hbx;go_enter Tryz.func118,Tryz.ntmps118;exact EM
theorem YG(u0 u1 u2:Value)(b:Nat)(fo:Nat)(lb:Array Value)(z:Bool)(w:World)(nH:∀args w,(callFunc fo args).run Tryz.prog w=.ok (.enter fo args) w)(hb:w.cell? ⟨b,0,none⟩=some (.func (.func fo) #[] lb))(hz:b<w.heap.size)
  (hp:∀X,BL w X->CP fo (#[.agg #[u0,u1,u2]]++lb) X fun e w'=>e=.returned (.bool z)/\BL X w'):
  Calls Tryz.prog 145 #[.agg #[u0,u1,u2],.pointer (some ⟨b,0,none⟩)] w fun e w'=>e=.returned (.bool (!z))/\BL w w':=by
 have HP:=hid hp;clear hp;have bf:Hid (BL w (w.alloc (.cells #[u0,u1,u2] 116))):=hid (ay.alloc aH _);have HC:=hid (HP.out _ bf.out);go_enter Tryz.func145,Tryz.ntmps145;exact EL
theorem adl{α:Type}{RR:(Nat->Prop)->World->List Value->α->Prop}(hR:cD RR)(F:List α)(q:α->Bool)(v:Value)(S:Nat->Prop)(w:World)(hv:dO 3 (RR S) S w v F)(fo:Nat)(lb:Array Value)(nH:∀args w,(callFunc fo args).run Tryz.prog w=.ok (.enter fo args) w)
  (hp:∀X,BL w X->∀j (h:j<F.length) us,us.length=3->RR S X us F[j]->CP fo (#[.agg us.toArray]++lb) X fun e w'=>e=.returned (.bool (q F[j]))/\BL X w'):
  Calls Tryz.prog 120 #[v,.func (.func fo) #[] lb] w fun e w'=>e=.returned (.bool (F.all q))/\BL w w':=by
 have HP:=hid hp;clear hp;have hbx:BL w (w.alloc (.cells #[.func (.func fo) #[] lb] 203)):=ay.alloc aH _;have hv1:dO 3 (RR S) S (w.alloc (.cells #[.func (.func fo) #[] lb] 203)) v F:=dO.keep hR hv (aB.below hbx);obtain⟨a,cap,rfl, -, -, -⟩:=hv.form
 have HC:=hid (FW hR F (fun x=> !q x) _ S _ hv1 145 #[.pointer (some ⟨w.heap.size,0,none⟩)] (bE Tryz.func145 (by kernel_rfl) rfl) (fun X hX j hj us hl hr=>by
  obtain⟨u0,u1,u2,rfl⟩:=aaO hl;exact YG u0 u1 u2 w.heap.size fo lb (q F[j]) X nH ((hX.cell (p:=⟨w.heap.size,0,none⟩) aZ).trans aZ) Oq (fun Y hY=>HP.out Y (cO hbx (cO hX hY)) j hj [u0,u1,u2] hl (hR.keep hr (aB.below hY)))))
 have HN:Hid (F.all q= !F.any fun x=> !q x):=hid Oo;have lD:=hid hbx;generalize F.all q=fa at*;generalize (F.any fun x=> !q x)=fb at*;clear hv hv1 hbx;go_enter Tryz.func120,Tryz.ntmps120;exact EM
theorem YH(u0 u1 u2 u3 u4:Value)(b:Nat)(fo:Nat)(lb:Array Value)(z:Bool)(w:World)(nH:∀args w,(callFunc fo args).run Tryz.prog w=.ok (.enter fo args) w)(hb:w.cell? ⟨b,0,none⟩=some (.func (.func fo) #[] lb))(hz:b<w.heap.size)
  (hp:∀X,BL w X->CP fo (#[.agg #[u0,u1,u2,u3,u4]]++lb) X fun e w'=>e=.returned (.bool z)/\BL X w'):
  Calls Tryz.prog 149 #[.agg #[u0,u1,u2,u3,u4],.pointer (some ⟨b,0,none⟩)] w fun e w'=>e=.returned (.bool (!z))/\BL w w':=by
 have HP:=hid hp;clear hp;have bf:Hid (BL w (w.alloc (.cells #[u0,u1,u2,u3,u4] 119))):=hid (ay.alloc aH _);have HC:=hid (HP.out _ bf.out);go_enter Tryz.func149,Tryz.ntmps149;exact EL
theorem adn{α:Type}{RR:(Nat->Prop)->World->List Value->α->Prop}(hR:cD RR)(F:List α)(q:α->Bool)(v:Value)(S:Nat->Prop)(w:World)(hv:dO 5 (RR S) S w v F)(fo:Nat)(lb:Array Value)(nH:∀args w,(callFunc fo args).run Tryz.prog w=.ok (.enter fo args) w)
  (hp:∀X,BL w X->∀j (h:j<F.length) us,us.length=5->RR S X us F[j]->CP fo (#[.agg us.toArray]++lb) X fun e w'=>e=.returned (.bool (q F[j]))/\BL X w'):
  Calls Tryz.prog 122 #[v,.func (.func fo) #[] lb] w fun e w'=>e=.returned (.bool (F.all q))/\BL w w':=by
 have HP:=hid hp;clear hp;have hbx:BL w (w.alloc (.cells #[.func (.func fo) #[] lb] 236)):=ay.alloc aH _;have hv1:dO 5 (RR S) S (w.alloc (.cells #[.func (.func fo) #[] lb] 236)) v F:=dO.keep hR hv (aB.below hbx);obtain⟨a,cap,rfl, -, -, -⟩:=hv.form
 have HC:=hid (Np hR F (fun x=> !q x) _ S _ hv1 149 #[.pointer (some ⟨w.heap.size,0,none⟩)] (bE Tryz.func149 (by kernel_rfl) rfl) (fun X hX j hj us hl hr=>by
  obtain⟨u0,u1,u2,u3,u4,rfl⟩:=aaQ hl;exact YH u0 u1 u2 u3 u4 w.heap.size fo lb (q F[j]) X nH ((hX.cell (p:=⟨w.heap.size,0,none⟩) aZ).trans aZ) Oq (fun Y hY=>HP.out Y (cO hbx (cO hX hY)) j hj [u0,u1,u2,u3,u4] hl (hR.keep hr (aB.below hY)))))
 have HN:Hid (F.all q= !F.any fun x=> !q x):=hid Oo;have lD:=hid hbx;generalize F.all q=fa at*;generalize (F.any fun x=> !q x)=fb at*;clear hv hv1 hbx;go_enter Tryz.func122,Tryz.ntmps122;exact EM
theorem YI(u0 u1 u2 u3 u4 u5 u6 u7:Value)(b:Nat)(fo:Nat)(lb:Array Value)(z:Bool)(w:World)(nH:∀args w,(callFunc fo args).run Tryz.prog w=.ok (.enter fo args) w)(hb:w.cell? ⟨b,0,none⟩=some (.func (.func fo) #[] lb))(hz:b<w.heap.size)
  (hp:∀X,BL w X->CP fo (#[.agg #[u0,u1,u2,u3,u4,u5,u6,u7]]++lb) X fun e w'=>e=.returned (.bool z)/\BL X w'):
  Calls Tryz.prog 165 #[.agg #[u0,u1,u2,u3,u4,u5,u6,u7],.pointer (some ⟨b,0,none⟩)] w fun e w'=>e=.returned (.bool (!z))/\BL w w':=by
 have HP:=hid hp;clear hp;have bf:Hid (BL w (w.alloc (.cells #[u0,u1,u2,u3,u4,u5,u6,u7] 92))):=hid (ay.alloc aH _);have HC:=hid (HP.out _ bf.out);go_enter Tryz.func165,Tryz.ntmps165;exact EL
theorem ado{α:Type}{RR:(Nat->Prop)->World->List Value->α->Prop}(hR:cD RR)(F:List α)(q:α->Bool)(v:Value)(S:Nat->Prop)(w:World)(hv:dO 8 (RR S) S w v F)(fo:Nat)(lb:Array Value)(nH:∀args w,(callFunc fo args).run Tryz.prog w=.ok (.enter fo args) w)
  (hp:∀X,BL w X->∀j (h:j<F.length) us,us.length=8->RR S X us F[j]->CP fo (#[.agg us.toArray]++lb) X fun e w'=>e=.returned (.bool (q F[j]))/\BL X w'):
  Calls Tryz.prog 143 #[v,.func (.func fo) #[] lb] w fun e w'=>e=.returned (.bool (F.all q))/\BL w w':=by
 have HP:=hid hp;clear hp;have hbx:BL w (w.alloc (.cells #[.func (.func fo) #[] lb] 241)):=ay.alloc aH _;have hv1:dO 8 (RR S) S (w.alloc (.cells #[.func (.func fo) #[] lb] 241)) v F:=dO.keep hR hv (aB.below hbx);obtain⟨a,cap,rfl, -, -, -⟩:=hv.form
 have HC:=hid (Yq hR F (fun x=> !q x) _ S _ hv1 165 #[.pointer (some ⟨w.heap.size,0,none⟩)] (bE Tryz.func165 (by kernel_rfl) rfl) (fun X hX j hj us hl hr=>by
  obtain⟨u0,u1,u2,u3,u4,u5,u6,u7,rfl⟩:=aaR hl;exact YI u0 u1 u2 u3 u4 u5 u6 u7 w.heap.size fo lb (q F[j]) X nH ((hX.cell (p:=⟨w.heap.size,0,none⟩) aZ).trans aZ) Oq (fun Y hY=>HP.out Y (cO hbx (cO hX hY)) j hj [u0,u1,u2,u3,u4,u5,u6,u7] hl (hR.keep hr (aB.below hY)))))
 have HN:Hid (F.all q= !F.any fun x=> !q x):=hid Oo;have lD:=hid hbx;generalize F.all q=fa at*;generalize (F.any fun x=> !q x)=fb at*;clear hv hv1 hbx;go_enter Tryz.func143,Tryz.ntmps143;exact EM
theorem YJ(u0 u1:Value)(b:Nat)(fo:Nat)(lb:Array Value)(z:Bool)(w:World)(nH:∀args w,(callFunc fo args).run Tryz.prog w=.ok (.enter fo args) w)(hb:w.cell? ⟨b,0,none⟩=some (.func (.func fo) #[] lb))(hz:b<w.heap.size)
  (hp:∀X,BL w X->CP fo (#[.agg #[u0,u1]]++lb) X fun e w'=>e=.returned (.bool z)/\BL X w'):
  Calls Tryz.prog 172 #[.agg #[u0,u1],.pointer (some ⟨b,0,none⟩)] w fun e w'=>e=.returned (.bool (!z))/\BL w w':=by
 have HP:=hid hp;clear hp;have bf:Hid (BL w (w.alloc (.cells #[u0,u1] 117))):=hid (ay.alloc aH _);have HC:=hid (HP.out _ bf.out);go_enter Tryz.func172,Tryz.ntmps172;exact EL
theorem adp{α:Type}{RR:(Nat->Prop)->World->List Value->α->Prop}(hR:cD RR)(F:List α)(q:α->Bool)(v:Value)(S:Nat->Prop)(w:World)(hv:dO 2 (RR S) S w v F)(fo:Nat)(lb:Array Value)(nH:∀args w,(callFunc fo args).run Tryz.prog w=.ok (.enter fo args) w)
  (hp:∀X,BL w X->∀j (h:j<F.length) us,us.length=2->RR S X us F[j]->CP fo (#[.agg us.toArray]++lb) X fun e w'=>e=.returned (.bool (q F[j]))/\BL X w'):
  Calls Tryz.prog 147 #[v,.func (.func fo) #[] lb] w fun e w'=>e=.returned (.bool (F.all q))/\BL w w':=by
 have HP:=hid hp;clear hp;have hbx:BL w (w.alloc (.cells #[.func (.func fo) #[] lb] 257)):=ay.alloc aH _;have hv1:dO 2 (RR S) S (w.alloc (.cells #[.func (.func fo) #[] lb] 257)) v F:=dO.keep hR hv (aB.below hbx);obtain⟨a,cap,rfl, -, -, -⟩:=hv.form
 have HC:=hid (Yt hR F (fun x=> !q x) _ S _ hv1 172 #[.pointer (some ⟨w.heap.size,0,none⟩)] (bE Tryz.func172 (by kernel_rfl) rfl) (fun X hX j hj us hl hr=>by
  obtain⟨u0,u1,rfl⟩:=aaN hl;exact YJ u0 u1 w.heap.size fo lb (q F[j]) X nH ((hX.cell (p:=⟨w.heap.size,0,none⟩) aZ).trans aZ) Oq (fun Y hY=>HP.out Y (cO hbx (cO hX hY)) j hj [u0,u1] hl (hR.keep hr (aB.below hY)))))
 have HN:Hid (F.all q= !F.any fun x=> !q x):=hid Oo;have lD:=hid hbx;generalize F.all q=fa at*;generalize (F.any fun x=> !q x)=fb at*;clear hv hv1 hbx;go_enter Tryz.func147,Tryz.ntmps147;exact EM
theorem YK(s:ByteArray)(b:Nat)(fo:Nat)(lb:Array Value)(z:Bool)(w:World)(nH:∀args w,(callFunc fo args).run Tryz.prog w=.ok (.enter fo args) w)(hb:w.cell? ⟨b,0,none⟩=some (.func (.func fo) #[] lb))(_:b<w.heap.size)
  (hp:∀X,BL w X->CP fo (#[.string s]++lb) X fun e w'=>e=.returned (.bool z)/\BL X w'):
  Calls Tryz.prog 170 #[.string s,.pointer (some ⟨b,0,none⟩)] w fun e w'=>e=.returned (.bool (!z))/\BL w w':=by
 have HP:=hid hp;clear hp;have bf:Hid (BL w w):=hid ay;have HC:=hid (HP.out _ bf.out);go_enter Tryz.func170,Tryz.ntmps170;exact EL
theorem adq{α:Type}{RR:(Nat->Prop)->World->Value->α->Prop}(hR:fG RR)(F:List α)(q:α->Bool)(v:Value)(S:Nat->Prop)(w:World)(hv:gQ (RR S) S w v F)(hform:∀X u x,RR S X u x->∃c,u=.string c)(fo:Nat)(lb:Array Value)(nH:∀args w,(callFunc fo args).run Tryz.prog w=.ok (.enter fo args) w)
  (hp:∀X,BL w X->∀j (h:j<F.length) u,RR S X u F[j]->CP fo (#[u]++lb) X fun e w'=>e=.returned (.bool (q F[j]))/\BL X w'):
  Calls Tryz.prog 146 #[v,.func (.func fo) #[] lb] w fun e w'=>e=.returned (.bool (F.all q))/\BL w w':=by
 have HP:=hid hp;clear hp;have hbx:BL w (w.alloc (.cells #[.func (.func fo) #[] lb] 252)):=ay.alloc aH _;have hv1:gQ (RR S) S (w.alloc (.cells #[.func (.func fo) #[] lb] 252)) v F:=gQ.keep (R:=RR S) hv (aB.below hbx) (fun _ _ h=>hR.keep h (aB.below hbx));obtain⟨a,cap,rfl, -, -, -⟩:=hv.form
 have HC:=hid (Yv hR F (fun x=> !q x) _ S _ hv1 hform 170 #[.pointer (some ⟨w.heap.size,0,none⟩)] (bE Tryz.func170 (by kernel_rfl) rfl) (fun X hX j hj u hr=>by
  obtain⟨c,rfl⟩:=hform _ _ _ hr;exact YK c w.heap.size fo lb (q F[j]) X nH ((hX.cell (p:=⟨w.heap.size,0,none⟩) aZ).trans aZ) Oq (fun Y hY=>HP.out Y (cO hbx (cO hX hY)) j hj (.string c) (hR.keep hr (aB.below hY)))))
 have HN:Hid (F.all q= !F.any fun x=> !q x):=hid Oo;have lD:=hid hbx;generalize F.all q=fa at*;generalize (F.any fun x=> !q x)=fb at*;clear hv hv1 hbx;go_enter Tryz.func146,Tryz.ntmps146;exact EM
theorem aaY{p:Prop}(h:p:=by
  subst hx2
  subst hy2
  generalize xs[k]=x0 at*
  have hk0:(0:Int)<=(k:Int):=by omega
  have hk1:(k:Int)<(xs.length:Int):=by omega
  go_wp2
  go_quiet (fail)
  have bK:=hid (aG HB.out nq)
  go_wp2
  go_roundw
  case rel=>exact⟨k+1,by omega,by go_num,bK⟩
  simp[intOf]
  omega):p:=h
theorem Uw(xs:List Int)(u v:Value)(S T:Nat->Prop)(w:World)(hu:cH S w u xs)(hv:cH T w v xs):
  Calls Tryz.prog 179 #[u,v] w fun e w'=>e=.returned (.bool true)/\BL w w':=by
 obtain⟨a,cap,rfl,hok,hcap,hmax⟩:=hu.form;obtain⟨a',cap',rfl,hok',afL,afM⟩:=hv.form;have HU:=hid hu;have HV:=hid hv;clear hu hv;go_enter Tryz.func179,Tryz.ntmps179;go_wp2;go_loopw [13] (fun i wr=>∃k:Nat,k<=xs.length/\i=.int .i64 k/\Hid (BL w wr)) (fun i _=>xs.length-(intOf i).toNat);case atStart=>exact⟨0,Nat.zero_le _,rfl,hid ay⟩
 case round=>
  obtain⟨k,hk,rfl,HB⟩:=hrel;obtain⟨wo,rfl⟩:=aV (wr:World);by_cases hlt:k<xs.length
  ·obtain⟨x,hx, -,hx2⟩:=(cH.keep HU.out (aB.below HB.out)).at hlt
   obtain⟨y,hy, -,hy2⟩:=(cH.keep HV.out (aB.below HB.out)).at hlt;exact aaY
  ·go_wp2
   go_ret;exact⟨rfl,HB.out⟩
theorem Ux(xs:List ByteArray)(u v:Value)(S T:Nat->Prop)(w:World)(hu:gP S w u xs)(hv:gP T w v xs):
  Calls Tryz.prog 178 #[u,v] w fun e w'=>e=.returned (.bool true)/\BL w w':=by
 obtain⟨a,cap,rfl,hok,hcap,hmax⟩:=hu.form;obtain⟨a',cap',rfl,hok',afL,afM⟩:=hv.form;have HU:=hid hu;have HV:=hid hv;clear hu hv;go_enter Tryz.func178,Tryz.ntmps178;go_wp2;go_loopw [13] (fun i wr=>∃k:Nat,k<=xs.length/\i=.int .i64 k/\Hid (BL w wr)) (fun i _=>xs.length-(intOf i).toNat);case atStart=>exact⟨0,Nat.zero_le _,rfl,hid ay⟩
 case round=>
  obtain⟨k,hk,rfl,HB⟩:=hrel;obtain⟨wo,rfl⟩:=aV (wr:World);by_cases hlt:k<xs.length
  ·obtain⟨x,hx, -,hx2⟩:=(gP.keep HU.out (aB.below HB.out)).at hlt
   obtain⟨y,hy, -,hy2⟩:=(gP.keep HV.out (aB.below HB.out)).at hlt;exact aaY
  ·go_wp2
   go_ret;exact⟨rfl,HB.out⟩
theorem Pm{w:World}{g:Nat}{x0 x1 x2 x3 x4 x5 x6 x7:Value}{tmps:Array Value}(h:w.heap[g]?=some (.cells #[x0,x1,x2,x3,x4,x5,x6,x7] 92 (0,0)))(hp:tmps[2]?=some (.pointer (some ⟨g,0,none⟩))):
  (results Tryz.f167 tmps).run Tryz.prog w=.ok (.agg #[x0,x1,x2,x3,x4,x5,x6,x7]) w:=by
 obtain⟨⟨h0,h1,h2,h3,h4,h5,h6,h7⟩, -⟩:=dY h;simp[results,Tryz.results167,go_sem,hp,h0,h1,h2,h3,h4,h5,h6,h7]
theorem KW{W:World}{k:Nat}{o:Obj}(h:W.heap[k]?=some o):W.drew.heap[k]?=some o:=h
theorem adr{p:Prop}(h:p:=by
  go_wp2
  refine bodyPost_ret (Pm (g:=w.heap.size+1) ?h1 rfl) rfl ⟨rfl, ?h2⟩
  case h1=>first|exact aY _ (aP _ _ aZ)|exact KW (aY _ (aP _ _ aZ))
  case h2=>first|exact((ay.alloc aH _).alloc aZ _).alloc mV _|exact(((ay.alloc aH _).alloc aZ _).alloc mV _).drew):p:=h
theorem afN(nm:ByteArray)(lo:Int)(aw:Option Addr)(nw cw:Nat)(ag:Option Addr)(ng cg:Nat)(w:World):
  Calls Tryz.prog 167 #[.agg #[.string nm,.string ah.nil,.string ah.nil,.int .i64 0,.int .i64 lo,.int .i64 0,.slice aw nw cw,.slice ag ng cg]] w fun e w'=>e=.returned (.agg #[.string nm,.string ah.nil,.string ah.nil,.int .i64 0,.int .i64 lo,.int .i64 0,.slice none 0 0,.slice none 0 0])/\BL w w':=by
 try unfold ah.nil
 go_enter Tryz.func167,Tryz.ntmps167;exact adr
theorem BK{p:Prop}(h:p:=by
  try unfold ah.nil
  go_enter Tryz.func167,Tryz.ntmps167
  go_wp2
  go_region
  exact adr):p:=h
theorem afO(nm:ByteArray)(o:ByteArray)(lo:Int)(hi:Int)(aw:Option Addr)(nw cw:Nat)(ag:Option Addr)(ng cg:Nat)(w:World):
  Calls Tryz.prog 167 #[.agg #[.string nm,.string o,.string ah.nil,.int .i64 1,.int .i64 lo,.int .i64 hi,.slice aw nw cw,.slice ag ng cg]] w fun e w'=>e=.returned (.agg #[.string nm,.string o,.string ah.nil,.int .i64 1,.int .i64 lo,.int .i64 hi,.slice none 0 0,.slice none 0 0])/\BL w w':=by
 exact BK
theorem afP(nm:ByteArray)(lo:Int)(hi:Int)(aw:Option Addr)(nw cw:Nat)(ag:Option Addr)(ng cg:Nat)(w:World):
  Calls Tryz.prog 167 #[.agg #[.string nm,.string ah.nil,.string ah.nil,.int .i64 2,.int .i64 lo,.int .i64 hi,.slice aw nw cw,.slice ag ng cg]] w fun e w'=>e=.returned (.agg #[.string nm,.string ah.nil,.string ah.nil,.int .i64 2,.int .i64 lo,.int .i64 hi,.slice none 0 0,.slice none 0 0])/\BL w w':=by
 exact BK
theorem afQ(nm:ByteArray)(aw:Option Addr)(nw cw:Nat)(ag:Option Addr)(ng cg:Nat)(w:World):
  Calls Tryz.prog 167 #[.agg #[.string nm,.string ah.nil,.string ah.nil,.int .i64 3,.int .i64 0,.int .i64 0,.slice aw nw cw,.slice ag ng cg]] w fun e w'=>e=.returned (.agg #[.string nm,.string ah.nil,.string ah.nil,.int .i64 3,.int .i64 0,.int .i64 0,.slice aw nw cw,.slice ag ng cg])/\BL w w':=by
 exact BK
theorem afR(nm:ByteArray)(o:ByteArray)(lo:Int)(hi:Int)(aw:Option Addr)(nw cw:Nat)(ag:Option Addr)(ng cg:Nat)(w:World):
  Calls Tryz.prog 167 #[.agg #[.string nm,.string o,.string ah.nil,.int .i64 4,.int .i64 lo,.int .i64 hi,.slice aw nw cw,.slice ag ng cg]] w fun e w'=>e=.returned (.agg #[.string nm,.string o,.string ah.nil,.int .i64 4,.int .i64 lo,.int .i64 hi,.slice none 0 0,.slice none 0 0])/\BL w w':=by
 exact BK
theorem afS(nm:ByteArray)(o:ByteArray)(lo:Int)(hi:Int)(aw:Option Addr)(nw cw:Nat)(ag:Option Addr)(ng cg:Nat)(w:World):
  Calls Tryz.prog 167 #[.agg #[.string nm,.string o,.string ah.nil,.int .i64 5,.int .i64 lo,.int .i64 hi,.slice aw nw cw,.slice ag ng cg]] w fun e w'=>e=.returned (.agg #[.string nm,.string o,.string ah.nil,.int .i64 5,.int .i64 lo,.int .i64 hi,.slice none 0 0,.slice none 0 0])/\BL w w':=by
 exact BK
theorem afT(nm:ByteArray)(o:ByteArray)(aw:Option Addr)(nw cw:Nat)(ag:Option Addr)(ng cg:Nat)(w:World):
  Calls Tryz.prog 167 #[.agg #[.string nm,.string o,.string ah.nil,.int .i64 6,.int .i64 0,.int .i64 0,.slice aw nw cw,.slice ag ng cg]] w fun e w'=>e=.returned (.agg #[.string nm,.string o,.string ah.nil,.int .i64 6,.int .i64 0,.int .i64 0,.slice none 0 0,.slice none 0 0])/\BL w w':=by
 try unfold ah.nil
 go_enter Tryz.func167,Tryz.ntmps167;exact adr
theorem afU(nm:ByteArray)(o:ByteArray)(up:ByteArray)(lo:Int)(hi:Int)(aw:Option Addr)(nw cw:Nat)(ag:Option Addr)(ng cg:Nat)(w:World):
  Calls Tryz.prog 167 #[.agg #[.string nm,.string o,.string up,.int .i64 7,.int .i64 lo,.int .i64 hi,.slice aw nw cw,.slice ag ng cg]] w fun e w'=>e=.returned (.agg #[.string nm,.string o,.string up,.int .i64 7,.int .i64 lo,.int .i64 hi,.slice none 0 0,.slice none 0 0])/\BL w w':=by
 exact BK
theorem afV(nm:ByteArray)(o:ByteArray)(up:ByteArray)(aw:Option Addr)(nw cw:Nat)(ag:Option Addr)(ng cg:Nat)(w:World):
  Calls Tryz.prog 167 #[.agg #[.string nm,.string o,.string up,.int .i64 8,.int .i64 0,.int .i64 0,.slice aw nw cw,.slice ag ng cg]] w fun e w'=>e=.returned (.agg #[.string nm,.string o,.string up,.int .i64 8,.int .i64 0,.int .i64 0,.slice none 0 0,.slice none 0 0])/\BL w w':=by
 exact BK
def onV(k:Int)(v:Value):Value:=if k=3 then v else .slice none 0 0
theorem Uy(f:ah.dh)(hf:ah.dB f=true)(aw:Option Addr)(nw cw:Nat)(ag:Option Addr)(ng cg:Nat)(w:World):
  Calls Tryz.prog 167 #[.agg (cV f (.slice aw nw cw) (.slice ag ng cg)).toArray] w fun e w'=>e=.returned (.agg (cV f (onV f.kind (.slice aw nw cw)) (onV f.kind (.slice ag ng cg))).toArray)/\BL w w':=by
 obtain⟨k0,k8⟩:=ah.wA hf;unfold ah.dB ah.ou at hf;obtain⟨nm,o,up,k,lo,hi,ws,gs⟩:=f;simp only at k0 k8;have:k=0\/k=1\/k=2\/k=3\/k=4\/k=5\/k=6\/k=7\/k=8:=by omega
 simp only[cV];rcases this with rfl|rfl|rfl|rfl|rfl|rfl|rfl|rfl|rfl<;>simp only[kJ,Bool.or_eq_true,lE] at hf<;>simp at hf
 ·obtain⟨⟨-,hz⟩, -⟩:=hf
  obtain⟨⟨⟨⟨rfl,rfl⟩,rfl⟩,rfl⟩,rfl⟩:=hz;refine(afN nm lo aw nw cw ag ng cg w).mono ?_;rintro e w' ⟨rfl,hb⟩;exact⟨rfl,hb⟩
 ·obtain⟨⟨-,hz⟩, -⟩:=hf
  obtain⟨⟨rfl,rfl⟩,rfl⟩:=hz;refine(afO nm o lo hi aw nw cw ag ng cg w).mono ?_;rintro e w' ⟨rfl,hb⟩;exact⟨rfl,hb⟩
 ·obtain⟨⟨-,hz⟩, -⟩:=hf
  obtain⟨⟨⟨rfl,rfl⟩,rfl⟩,rfl⟩:=hz;refine(afP nm lo hi aw nw cw ag ng cg w).mono ?_;rintro e w' ⟨rfl,hb⟩;exact⟨rfl,hb⟩
 ·obtain⟨⟨-,hz⟩, -⟩:=hf
  obtain⟨⟨⟨rfl,rfl⟩,rfl⟩,rfl⟩:=hz;refine(afQ nm aw nw cw ag ng cg w).mono ?_;rintro e w' ⟨rfl,hb⟩;exact⟨rfl,hb⟩
 ·obtain⟨⟨-,hz⟩, -⟩:=hf
  obtain⟨⟨rfl,rfl⟩,rfl⟩:=hz;refine(afR nm o lo hi aw nw cw ag ng cg w).mono ?_;rintro e w' ⟨rfl,hb⟩;exact⟨rfl,hb⟩
 ·obtain⟨⟨-,hz⟩, -⟩:=hf
  obtain⟨⟨rfl,rfl⟩,rfl⟩:=hz;refine(afS nm o lo hi aw nw cw ag ng cg w).mono ?_;rintro e w' ⟨rfl,hb⟩;exact⟨rfl,hb⟩
 ·obtain⟨⟨-,hz⟩, -⟩:=hf
  obtain⟨⟨⟨⟨rfl,rfl⟩,rfl⟩,rfl⟩,rfl⟩:=hz;refine(afT nm o aw nw cw ag ng cg w).mono ?_;rintro e w' ⟨rfl,hb⟩;exact⟨rfl,hb⟩
 ·obtain⟨⟨-,hz⟩, -⟩:=hf
  obtain⟨rfl,rfl⟩:=hz;refine(afU nm o up lo hi aw nw cw ag ng cg w).mono ?_;rintro e w' ⟨rfl,hb⟩;exact⟨rfl,hb⟩
 ·obtain⟨⟨-,hz⟩, -⟩:=hf
  obtain⟨⟨⟨rfl,rfl⟩,rfl⟩,rfl⟩:=hz;refine(afV nm o up aw nw cw ag ng cg w).mono ?_;rintro e w' ⟨rfl,hb⟩;exact⟨rfl,hb⟩
theorem DS(f:ah.dh)(aw aw':Option Addr)(cw cw':Nat)(ag R7:Option Addr)(cg Q9:Nat)(S T S' T':Nat->Prop)(w:World)
  (h1:gP S w (.slice aw f.dc.length cw) f.dc)(h2:gP T w (.slice aw' f.dc.length cw') f.dc)(h3:cH S' w (.slice ag f.bX.length cg) f.bX)(h4:cH T' w (.slice R7 f.bX.length Q9) f.bX):
  Calls Tryz.prog 166 #[.agg (cV f (.slice aw f.dc.length cw) (.slice ag f.bX.length cg)).toArray,.agg (cV f (.slice aw' f.dc.length cw') (.slice R7 f.bX.length Q9)).toArray] w
   fun e w'=>e=.returned (.bool true)/\BL w w':=by
 have HS:=hid (fun(W:World) (hb:BL w W)=>Ux f.dc _ _ S T W (h1.keep (aB.below hb)) (h2.keep (aB.below hb)));have HI:=hid (fun(W:World) (hb:BL w W)=>Uw f.bX _ _ S' T' W (h3.keep (aB.below hb)) (h4.keep (aB.below hb)));clear h1 h2 h3 h4;obtain⟨nm,o,up,k,lo,hi,ws,gs⟩:=f;simp only[cV] at HS HI ⊢;generalize ws.length=nw at*;generalize gs.length=ng at*;go_enter Tryz.func166,Tryz.ntmps166;go_wp2_with fail;refine(HS.out _ ((ay.alloc aH _).alloc aZ _)).mono ?_;rintro e w2 ⟨rfl,hb2⟩;have bK:Hid (BL w w2):=hid (((ay.alloc aH _).alloc aZ _).trans (hb2.mono mV))
 obtain⟨y6,y7,y8,y9⟩:w2.cell? ⟨w.heap.size,6,none⟩=some (.slice aw nw cw)/\w2.cell? ⟨w.heap.size,7,none⟩=some (.slice ag ng cg)/\w2.cell? ⟨w.heap.size+1,6,none⟩=some (.slice aw' nw cw')/\w2.cell? ⟨w.heap.size+1,7,none⟩=some (.slice R7 ng Q9):=by
  refine⟨(hb2.cell (p:=⟨w.heap.size,6,none⟩) mV).trans aZ,(hb2.cell (p:=⟨w.heap.size,7,none⟩) mV).trans aZ,(hb2.cell (p:=⟨w.heap.size+1,6,none⟩) aZ).trans aZ,(hb2.cell (p:=⟨w.heap.size+1,7,none⟩) aZ).trans aZ⟩
 clear hb2;go_wp2_with fail;refine(HI.out _ bK.out).mono ?_;rintro e w3 ⟨rfl,hb3⟩;have bZ:=aJ bK hb3;clear hb3;go_wp2;go_ret;exact⟨rfl,bZ.out⟩
theorem Pn(S:Nat->Prop):∀(X:World) (u:Value) (x:ByteArray),(fun(_:Nat->Prop) (_:World) u (x:ByteArray)=>u=Value.string x) S X u x->∃c,u=.string c:=fun _ _ _ h=>⟨_,h⟩
theorem EN(ws:List ByteArray)(v:Value)(S:Nat->Prop)(w:World)(hv:gP S w v ws):
  Calls Tryz.prog 146 #[v,.func (.func 141) #[] #[]] w fun e w'=>e=.returned (.bool (ws.all ah.aU))/\BL w w':=
 adq Ki ws ah.aU v S w hv (Pn S) 141 #[] (bE Tryz.func141 (by kernel_rfl) rfl) (fun X _ j hj u hu=>by
  have hu:u=.string ws[j]:=hu;subst hu;exact dA ws[j] X)
theorem Po(gs:List Int){k:Nat}(h:k<gs.length):ah.uT (gs.take (k+1))=ah.uT (gs.take k)+gs[k]:=by
 rw[Gu h];unfold ah.uT;rw[List.foldl_append];rfl
theorem qB{ws:List ah.Nm}{gs:List Int}(h:ah.lG ws gs=true):(∀g∈gs,ah.tT g 0 1048576=true)/\ah.tT ws.length 1 12=true/\ws.length=gs.length/\0<ah.uT gs/\ws.all ah.aU=true:=by
 unfold ah.lG at h;simp only[kJ,lE,List.all_eq_true] at h;exact⟨h.1.1.1.1,h.1.1.1.2,h.1.1.2,h.1.2,by rw[List.all_eq_true];exact h.2⟩
theorem iL{n a b:Int}(h:ah.tT n a b=true):a<=n/\n<=b:=by
 unfold ah.tT at h;simpa using h
theorem KX(ws:List ByteArray)(gs:List Int)(h:ah.lG ws gs=true)(v u:Value)(S T:Nat->Prop)(w:World)(hv:gP S w v ws)(hu:cH T w u gs):
  Calls Tryz.prog 168 #[v,u] w fun e w'=>e=.returned (.bool true)/\BL w w':=by
 obtain⟨p1,p2,p3,p4,p5⟩:=qB h;have YL:=(iL p2).2;have HG:=hid p1;have HW:=hid p2;have HL:=hid p3;have HP:=hid p4;obtain⟨a,cap,rfl,hok,hcap,hmax⟩:=hv.form;obtain⟨b,cb,rfl,hokb,hcapb,hmaxb⟩:=hu.form;have HN:=hid (fun(W:World) (hb:BL w W)=>EN ws _ S W (hv.keep (aB.below hb)));rw[p5] at HN;have HU:=hid hu;rw[p3] at HN YL;have HW2:=hid (fun W=>gK (ws.length:Int) 1 12 W);rw[HW.out,p3] at HW2;rw[p3];clear hv hu h p1 p2 p3 p4 p5;have hgl:gs.length<=12:=by omega
 go_enter Tryz.func168,Tryz.ntmps168;go_upto_region 3 with fail;go_loopw [5,10] (fun s i wr=>∃(k:Nat) (z:Int),k<=gs.length/\i=.int .i64 (k:Int)/\s=.int .i64 z/\Hid (z=ah.uT (gs.take k)/\0<=z/\z<=1048576*k)/\Hid (BL w wr)) (fun _ i _=>gs.length-(intOf i).toNat);case atStart=>exact⟨0,0,by omega,rfl,rfl,hid ⟨rfl,by omega,by omega⟩,hid ay⟩
 case round=>
  obtain⟨k,z,hk,rfl,rfl,HZ,HB⟩:=hrel;obtain⟨wo,rfl⟩:=aV (wr:World);by_cases hlt:k<gs.length
  ·have hk0:(0:Int)<=(k:Int):=by omega
   have hk1:(k:Int)<(gs.length:Int):=by omega
   obtain⟨x,hx, -,hx2⟩:=(cH.keep HU.out (aB.below HB.out)).at hlt;subst hx2;have hg:=HG.out _ (gY hlt);have hgn:=iL hg;have HI:=hid (gK gs[k] 0 1048576 wo);rw[hg] at HI
   have HZ2:Hid (z+gs[k]=ah.uT (gs.take (k+1))/\0<=z+gs[k]/\z+gs[k]<=1048576*(k+1:Nat)):=hid (by
    have:=HZ.out
    refine⟨by rw[Po gs hlt,this.1],by omega,by omega⟩)
   have hz1:0<=z:=HZ.out.2.1;have hz2:z<=1048576*12:=by have:=HZ.out.2.2;omega
   clear hg;generalize gs[k]=g at*;go_wp2_with fail;refine HI.out.mono ?_;rintro e w' ⟨rfl,rfl⟩;go_wp2;go_roundw;case rel=>exact⟨k+1,z+g,by omega,by go_num,rfl,HZ2,HB⟩
   simp[intOf];omega
  ·have hz:0<z:=by
    have:=HZ.out.1
    rw[this,zTl aC]
    exact HP.out
   have Dn:=hid (HN.out wo HB.out);have HWo:=hid (HW2.out wo);go_wp2_with fail;refine HWo.out.mono ?_;rintro e w' ⟨rfl,rfl⟩;go_wp2_with fail;refine Dn.out.mono ?_;rintro e w' ⟨rfl,hb⟩;have bK:=aJ HB hb;clear hb;go_wp2;go_ret;exact⟨rfl,bK.out⟩
theorem Uz{S:Nat->Prop}{w:World}{f:ah.dh}(hf:ah.dB f=true){aw:Option Addr}{cw:Nat}(_h:gP S w (.slice aw f.dc.length cw) f.dc):
  ∃a c,onV f.kind (.slice aw f.dc.length cw)=.slice a f.dc.length c/\∀W,gP S W (.slice aw f.dc.length cw) f.dc->gP S W (.slice a f.dc.length c) f.dc:=by
 unfold onV;by_cases h3:f.kind=3
 ·rw[if_pos h3];exact⟨aw,cw,rfl,fun _ h=>h⟩
 ·rw[if_neg h3]
  have hw:f.dc=[]:=by
   unfold ah.dB ah.ou at hf;simp only[kJ,Bool.or_eq_true,lE] at hf;rcases hf.1.2.1.2 with e|e
   ·exact e
   ·exact absurd e h3
  rw[hw];exact⟨none,0,rfl,fun W _=>gQ.nil _ _ _⟩
theorem UA{S:Nat->Prop}{w:World}{f:ah.dh}(hf:ah.dB f=true){aw:Option Addr}{cw:Nat}(_h:cH S w (.slice aw f.bX.length cw) f.bX):
  ∃a c,onV f.kind (.slice aw f.bX.length cw)=.slice a f.bX.length c/\∀W,cH S W (.slice aw f.bX.length cw) f.bX->cH S W (.slice a f.bX.length c) f.bX:=by
 unfold onV;by_cases h3:f.kind=3
 ·rw[if_pos h3];exact⟨aw,cw,rfl,fun _ h=>h⟩
 ·rw[if_neg h3]
  have hw:f.bX=[]:=by
   unfold ah.dB ah.ou at hf;simp only[kJ,Bool.or_eq_true,lE] at hf;rcases hf.1.2.2 with e|e
   ·exact e
   ·exact absurd e h3
  rw[hw];exact⟨none,0,rfl,fun W _=>gQ.nil _ _ _⟩
theorem zH{f:ah.dh}(h:ah.dB f=true):ah.aU f.name=true/\ah.nC f=true:=by
 unfold ah.dB at h;simp only[kJ] at h;exact⟨h.1.1,h.2⟩
theorem UB{p:Prop}(h:p:=by
  rw[hc2] at HX
  go_wp2_with fail
  refine HX.out.mono ?_
  rintro e w' ⟨rfl,rfl⟩
  clear HX
  go_wp2
  go_ret
  exact⟨rfl,sH.out⟩):p:=h
theorem UC{p:Prop}(h:p:=by
  go_wp2_with fail
  refine HX.out.mono ?_
  rintro e w' ⟨rfl,rfl⟩
  clear HX
  go_wp2
  go_ret
  exact⟨rfl,uZ.out⟩):p:=h
theorem Iw(f:ah.dh)(hf:ah.dB f=true)(uw ug:Value)(S T:Nat->Prop)(w:World)(h1:gP S w uw f.dc)(h2:cH T w ug f.bX):
  Calls Tryz.prog 144 #[.agg (cV f uw ug).toArray] w fun e w'=>e=.returned (.bool true)/\BL w w':=by
 obtain⟨hnm,hcase⟩:=zH hf;obtain⟨kk0,kk8⟩:=ah.wA hf;obtain⟨aw,cw,rfl, -, -, -⟩:=h1.form;obtain⟨ag,cg,rfl, -, -, -⟩:=h2.form;obtain⟨a2,c2,eo1,Pp⟩:=Uz hf h1;obtain⟨b2,d2,eo2,ho2⟩:=UA hf h2;have Ea:=hid (fun W=>Uy f hf aw f.dc.length cw ag f.bX.length cg W);rw[eo1,eo2] at Ea;obtain⟨w1,hw1⟩:=aV (w.alloc (.cells (cV f (.slice aw f.dc.length cw) (.slice ag f.bX.length cg)).toArray 92));have bf:Hid (Below w.heap.size w w1):=hid ud;have HK:Hid (∀W,BL w1 W->W.heap[w.heap.size]?=some (.cells (cV f (.slice aw f.dc.length cw) (.slice ag f.bX.length cg)).toArray 92 (0,0))):=hid (fun W hW=>(hW.block _ tr).trans Oh);have HSm:=hid (fun(W:World) (hb:BL w W)=>DS f aw a2 cw c2 ag b2 cg d2 S S T T W (h1.keep (aB.below hb)) (Pp W (h1.keep (aB.below hb))) (h2.keep (aB.below hb)) (ho2 W (h2.keep (aB.below hb))));have Rp:=hid (fun(hp:ah.lG f.dc f.bX=true) (W:World) (hb:BL w W)=>KX f.dc f.bX hp _ _ S T W (h1.keep (aB.below hb)) (h2.keep (aB.below hb)));have Rf:=hid (fun W=>dA f.name W);rw[hnm] at Rf;have hz1:w.heap.size<w1.heap.size:=by rw[hw1];simp
 clear h1 h2 eo1 eo2 Pp ho2 hnm;obtain⟨nm,o,up,k,lo,hi,ws,gs⟩:=f;simp only[cV] at hw1 Ea HK HSm Rp Rf kk0 kk8 ⊢;generalize ws.length=nw at*;generalize gs.length=ng at*;obtain⟨⟨y0,y1,y2,y3,y4,y5,y6,y7⟩, -⟩:=dY (HK.out w1 ay);have DQ:=hid (fun(x:nX w1)=>Calls.qi (x:=x) (Rf.out x.1));have HG2:=hid (fun(x:nX w1)=>Calls.qi (x:=x) (Ea.out x.1));have rH:=hid (fun(x:nX w1)=>Calls.qi (x:=x) (HSm.out x.1 (cO bf.out x.2)));have HW:=hid hw1;clear hw1;go_enter Tryz.func144,Tryz.ntmps144;go_upto_region 1 with fail;rw[<-HW.out];have hg:=nX.cell (w:=w1);refine fQ (by kernel_rfl) (by kernel_rfl) ?_;iterate 2 (go_big_quiet_step (fail))
 go_big_quiet_step ((exact DQ.out _));iterate 4 (go_big_quiet_step (fail))
 go_big_quiet_step ((exact HG2.out _));go_big_quiet_step ((exact rH.out _));repeat (go_big_quiet_step (fail))
 refine fS ?_;intro w2 hx;have hb2:=ny hx;clear hx hg DQ HG2 rH y0 y1 y2 y3 y4 y5 y6 y7;have bK:Hid (BL w1 w2):=hid hb2;have uZ:Hid (BL w w2):=hid (cO bf.out hb2);clear hb2;obtain⟨⟨y0,y1,y2,y3,y4,y5,y6,y7⟩, -⟩:=dY (HK.out w2 bK.out);have xK:=hid hcase;clear hcase;have:k=0\/k=1\/k=2\/k=3\/k=4\/k=5\/k=6\/k=7\/k=8:=by omega
 rcases this with rfl|rfl|rfl|rfl|rfl|rfl|rfl|rfl|rfl
 ·have hc:ah.tT lo (-1048576) 1048576=true:=xK.out
  have HX:=hid (gK lo (-1048576) 1048576 w2);rw[hc] at HX;exact UC
 ·have hc:(ah.aU o&&ah.gI lo hi 0 65536)=true:=xK.out
  obtain⟨hc1,hc2⟩:=Bool.and_eq_true_iff.1 hc;have HX:=hid (dA o w2);rw[hc1] at HX;go_wp2_with fail;refine HX.out.mono ?_;rintro e w3 ⟨rfl,hb⟩;have bZ:=aJ bK hb;have sH:Hid (BL w w3):=hid (cO uZ.out hb);clear hb HX y0 y1 y2 y3 y4 y5 y6 y7;obtain⟨⟨y0,y1,y2,y3,y4,y5,y6,y7⟩, -⟩:=dY (HK.out w3 bZ.out);have HX:=hid (kY lo hi 0 65536 w3);exact UB
 ·have hc:ah.gI lo hi (-1048576) 1048576=true:=xK.out
  have HX:=hid (kY lo hi (-1048576) 1048576 w2);rw[hc] at HX;exact UC
 ·have hc:ah.lG ws gs=true:=xK.out
  have HX:=hid (Rp.out hc w2 uZ.out);go_wp2_with fail;refine HX.out.mono ?_;rintro e w3 ⟨rfl,hb⟩;have sH:Hid (BL w w3):=hid (cO uZ.out hb);clear hb HX;go_wp2;go_ret;exact⟨rfl,sH.out⟩
 ·have hc:((decide (o=ah.nil)||ah.aU o)&&ah.gI lo hi (-1048576) 1048576)=true:=xK.out
  obtain⟨hc1,hc2⟩:=Bool.and_eq_true_iff.1 hc;by_cases ho:o=ah.nil
  ·subst ho
   unfold ah.nil at*;have HX:=hid (kY lo hi (-1048576) 1048576 w2);rw[hc2] at HX;exact UC
  ·have hc3:ah.aU o=true:=by
    rw[decide_eq_false ho] at hc1;exact hc1
   have hoe:o.toList.isEmpty=false:=by
    cases hh:o.toList.isEmpty
    ·rfl
    ·exact absurd (str_inj (a:=o) (b:=ah.nil) (by rw[List.isEmpty_iff.1 hh,ByteArray.toList_eq];rfl)) ho
   have HX:=hid (dA o w2);rw[hc3] at HX;go_wp2_with fail;refine HX.out.mono ?_;rintro e w3 ⟨rfl,hb⟩;have bZ:=aJ bK hb;have sH:Hid (BL w w3):=hid (cO uZ.out hb);clear hb HX y0 y1 y2 y3 y4 y5 y6 y7;obtain⟨⟨y0,y1,y2,y3,y4,y5,y6,y7⟩, -⟩:=dY (HK.out w3 bZ.out);have HX:=hid (kY lo hi (-1048576) 1048576 w3);exact UB
 ·have hc:(ah.aU o&&ah.gI lo hi 0 32)=true:=xK.out
  obtain⟨hc1,hc2⟩:=Bool.and_eq_true_iff.1 hc;have HX:=hid (dA o w2);rw[hc1] at HX;go_wp2_with fail;refine HX.out.mono ?_;rintro e w3 ⟨rfl,hb⟩;have bZ:=aJ bK hb;have sH:Hid (BL w w3):=hid (cO uZ.out hb);clear hb HX y0 y1 y2 y3 y4 y5 y6 y7;obtain⟨⟨y0,y1,y2,y3,y4,y5,y6,y7⟩, -⟩:=dY (HK.out w3 bZ.out);have HX:=hid (kY lo hi 0 32 w3);exact UB
 ·have hc:ah.aU o=true:=xK.out
  have HX:=hid (dA o w2);rw[hc] at HX;go_wp2_with fail;refine HX.out.mono ?_;rintro e w3 ⟨rfl,hb⟩;have bZ:=aJ bK hb;have sH:Hid (BL w w3):=hid (cO uZ.out hb);clear hb HX y0 y1 y2 y3 y4 y5 y6 y7;obtain⟨⟨y0,y1,y2,y3,y4,y5,y6,y7⟩, -⟩:=dY (HK.out w3 bZ.out);go_wp2;go_ret;exact⟨rfl,sH.out⟩
 ·have hc:(ah.aU o&&ah.aU up&&ah.gI lo hi 0 1048576)=true:=xK.out
  obtain⟨hc0,hc3⟩:=Bool.and_eq_true_iff.1 hc;obtain⟨hc1,hc2⟩:=Bool.and_eq_true_iff.1 hc0;have HX:=hid (dA o w2);rw[hc1] at HX;go_wp2_with fail;refine HX.out.mono ?_;rintro e w3 ⟨rfl,hb⟩;have bZ:=aJ bK hb;have sH:Hid (BL w w3):=hid (cO uZ.out hb);clear hb HX y0 y1 y2 y3 y4 y5 y6 y7;obtain⟨⟨y0,y1,y2,y3,y4,y5,y6,y7⟩, -⟩:=dY (HK.out w3 bZ.out);have HX:=hid (dA up w3);rw[hc2] at HX;go_wp2_with fail;refine HX.out.mono ?_;rintro e w4 ⟨rfl,hb⟩;have f9:=aJ bZ hb;have ads:Hid (BL w w4):=hid (cO sH.out hb);clear hb HX y0 y1 y2 y3 y4 y5 y6 y7;obtain⟨⟨y0,y1,y2,y3,y4,y5,y6,y7⟩, -⟩:=dY (HK.out w4 f9.out);have HX:=hid (kY lo hi 0 1048576 w4);rw[hc3] at HX;go_wp2_with fail;refine HX.out.mono ?_;rintro e w' ⟨rfl,rfl⟩;clear HX;go_wp2;go_ret;exact⟨rfl,ads.out⟩
 ·have hc:(ah.aU o&&ah.aU up)=true:=xK.out
  obtain⟨hc1,hc2⟩:=Bool.and_eq_true_iff.1 hc;have HX:=hid (dA o w2);rw[hc1] at HX;go_wp2_with fail;refine HX.out.mono ?_;rintro e w3 ⟨rfl,hb⟩;have bZ:=aJ bK hb;have sH:Hid (BL w w3):=hid (cO uZ.out hb);clear hb HX y0 y1 y2 y3 y4 y5 y6 y7;obtain⟨⟨y0,y1,y2,y3,y4,y5,y6,y7⟩, -⟩:=dY (HK.out w3 bZ.out);have HX:=hid (dA up w3);rw[hc2] at HX;go_wp2_with fail;refine HX.out.mono ?_;rintro e w4 ⟨rfl,hb⟩;have f9:=aJ bZ hb;have ads:Hid (BL w w4):=hid (cO sH.out hb);clear hb HX y0 y1 y2 y3 y4 y5 y6 y7;obtain⟨⟨y0,y1,y2,y3,y4,y5,y6,y7⟩, -⟩:=dY (HK.out w4 f9.out);go_wp2;go_ret;exact⟨rfl,ads.out⟩
theorem KY(fs:List ah.dh)(hf:∀f∈fs,ah.dB f=true)(v:Value)(S:Nat->Prop)(w:World)(hv:dJ S w v fs):
  Calls Tryz.prog 143 #[v,.func (.func 144) #[] #[]] w fun e w'=>e=.returned (.bool true)/\BL w w':=by
 have H:=ado bg fs (fun _=>true) v S w hv 144 #[] (bE Tryz.func144 (by kernel_rfl) rfl) (fun X _ j hj us _ hu=>by
  obtain⟨uw,ug,rfl,h1,h2⟩:=hu;exact Iw fs[j] (hf _ (gY hj)) uw ug S S X h1 h2)
 have:fs.all (fun _=>true)=true:=by simp
 rwa [this] at H
theorem zI{k:ah.eZ}(h:ah.qU k=true):ah.aU k.name=true/\ah.gI k.lo k.hi 0 65536=true/\k.aA.length<=10/\∀f∈k.aA,ah.dB f=true:=by
 unfold ah.qU at h;simp only[kJ,lE,List.all_eq_true] at h;exact⟨h.1.1.1,h.1.1.2,h.1.2,h.2⟩
theorem KZ(k:ah.eZ)(hk:ah.qU k=true)(uf:Value)(S:Nat->Prop)(w:World)(hv:dJ S w uf k.aA):
  Calls Tryz.prog 119 #[.agg (lU k uf).toArray] w fun e w'=>e=.returned (.bool true)/\BL w w':=by
 obtain⟨p1,p2,p3,p4⟩:=zI hk;obtain⟨af,cf,rfl, -, -, -⟩:=hv.form;have HA:=hid (fun(W:World) (hb:BL w W)=>KY k.aA p4 _ S W (hv.keep (aB.below hb)));have HN:=hid (fun W=>dA k.name W);have HS:=hid (fun W=>kY k.lo k.hi 0 65536 W);rw[p1] at HN;rw[p2] at HS;obtain⟨w1,hw1⟩:=aV (w.alloc (.cells (lU k (.slice af k.aA.length cf)).toArray 95));have bf:Hid (Below w.heap.size w w1):=hid ud;have HK:Hid (∀W,BL w1 W->W.heap[w.heap.size]?=some (.cells (lU k (.slice af k.aA.length cf)).toArray 95 (0,0))):=hid (fun W hW=>(hW.block _ tr).trans Oh);clear hv hk p1 p2 p4;obtain⟨nm,lo,hi,fs⟩:=k;simp only[lU] at hw1 HK HA HN HS p3 ⊢;generalize fs.length=n at*;have hn:(n:Int)<=10:=by omega
 have HW:=hid hw1;clear hw1;obtain⟨⟨y0,y1,y2,y3⟩, -⟩:=aW (HK.out w1 ay);go_enter Tryz.func119,Tryz.ntmps119;go_upto_region 1 with fail;rw[<-HW.out];go_wp2_with fail;refine(HN.out _).mono ?_;rintro e w2 ⟨rfl,hb⟩;clear y0 y1 y2 y3;obtain⟨⟨y0,y1,y2,y3⟩, -⟩:=aW (HK.out w2 hb);have bK:=aJ bf hb;clear hb;go_wp2_with fail;refine(HS.out _).mono ?_;rintro e w' ⟨rfl,rfl⟩;go_wp2_with fail;refine(HA.out _ bK.out).mono ?_;rintro e w3 ⟨rfl,hb⟩;have bZ:=aJ bK hb;clear hb;go_wp2;go_ret;exact⟨rfl,bZ.out⟩
theorem Iy(m:Int×Int)(n b:Nat)(hm:ah.Bf n m=true)(hn:n<=100)(w:World)(hb:w.cell? ⟨b,0,none⟩=some (.int .i64 (n:Int))):
  Calls Tryz.prog 148 #[.agg #[.int .i64 m.1,.int .i64 m.2],.pointer (some ⟨b,0,none⟩)] w fun e w'=>e=.returned (.bool true)/\BL w w':=by
 unfold ah.Bf at hm;obtain⟨h1,h2⟩:=Bool.and_eq_true_iff.1 hm;have H1:=hid (fun W=>gK m.1 0 ((n:Int)-1) W);have H2:=hid (fun W=>gK m.2 0 ((n:Int)-1) W);rw[h1] at H1;rw[h2] at H2;have hz:b<w.heap.size:=xN w _ hb;clear hm h1 h2;obtain⟨m1,m2⟩:=m;simp only at H1 H2 ⊢;go_enter Tryz.func148,Tryz.ntmps148;go_wp2_with fail;refine(H1.out _).mono ?_;rintro e w' ⟨rfl,rfl⟩;go_wp2_with fail;refine(H2.out _).mono ?_;rintro e w' ⟨rfl,rfl⟩;go_wp2;go_ret;exact⟨rfl,ay.alloc aH _⟩
theorem zJ{x:ah.Gv}(h:ah.vR x=true):ah.aU x.name=true/\ah.tT x.dM.length 1 12=true/\x.dM.all ah.aU=true/\x.jd.length<=32/\∀m∈x.jd,ah.Bf x.dM.length m=true:=by
 unfold ah.vR at h;simp only[kJ,lE] at h;exact⟨h.1.1.1.1,h.1.1.1.2,h.1.1.2,h.1.2,List.all_eq_true.1 h.2⟩
theorem EO{w:World}{F:Nat}{x0 x1 x2:Value}{t:TypeId}(h:w.heap[F]?=some (.cells #[x0,x1,x2] t (0,0))):
  w.cell? ⟨F,0,none⟩=some x0/\w.cell? ⟨F,1,none⟩=some x1/\w.cell? ⟨F,2,none⟩=some x2:=⟨(aF h 0).trans rfl,(aF h 1).trans rfl,(aF h 2).trans rfl⟩
theorem K0(x:ah.Gv)(hx:ah.vR x=true)(u1 u2:Value)(S:Nat->Prop)(w:World)(hs:gP S w u1 x.dM)(hm:Ed S w u2 x.jd):
  Calls Tryz.prog 121 #[.agg #[.string x.name,u1,u2]] w fun e w'=>e=.returned (.bool true)/\BL w w':=by
 obtain⟨p1,p2,p3,p4,p5⟩:=zJ hx;obtain⟨a1,c1,rfl, -, -, -⟩:=hs.form;obtain⟨a2,c2,rfl, -, -, -⟩:=hm.form;have hn:=(iL p2).2;obtain⟨w1,hw1⟩:=aV ((w.alloc (.cells #[.string x.name,.slice a1 x.dM.length c1,.slice a2 x.jd.length c2] 116)).alloc (.cells #[.int .i64 (x.dM.length:Int)] 3));have bf:Hid (Below w.heap.size w w1):=hid aci;have HK:Hid (∀W,BL w1 W->W.heap[w.heap.size]?=some (.cells #[.string x.name,.slice a1 x.dM.length c1,.slice a2 x.jd.length c2] 116 (0,0))):=hid (fun W hW=>(hW.block _ (by rw[hw1];simp;omega)).trans ab4);have HC:Hid (∀W,BL w1 W->W.cell? ⟨w.heap.size+1,0,none⟩=some (.int .i64 (x.dM.length:Int))):=hid (fun W hW=>(hW.cell (p:=⟨w.heap.size+1,0,none⟩) tr).trans tr);have HN:=hid (fun W=>dA x.name W);have HI:=hid (fun W=>gK (x.dM.length:Int) 1 12 W);have HA:=hid (fun(W:World) (hb:BL w W)=>EN x.dM _ S W (hs.keep (aB.below hb)))
 have HM:=hid (fun(W:World) (hb:BL w W) (hb1:BL w1 W)=>adp eA x.jd (fun _=>true) _ S W (dO.keep eA hm (aB.below hb)) 148 #[.pointer (some ⟨w.heap.size+1,0,none⟩)] (bE Tryz.func148 (by kernel_rfl) rfl)
  (fun X hX j hj us _ hu=>by
   have hu:us=[.int .i64 x.jd[j].1,.int .i64 x.jd[j].2]:=hu;subst hu;exact Iy x.jd[j] x.dM.length (w.heap.size+1) (p5 _ (gY hj)) aC X (HC.out X (cO hb1 hX))))
 have hall:x.jd.all (fun _=>true)=true:=by simp
 rw[hall] at HM;rw[p1] at HN;rw[p2] at HI;rw[p3] at HA;clear hs hm hx p1 p2 p3 p5 hall;obtain⟨nm,ss,ms⟩:=x;simp only at hw1 HK HC HN HI HA HM p4 hn ⊢;generalize ss.length=n at*;generalize ms.length=m at*;have hm32:(m:Int)<=32:=by omega
 have HW:=hid hw1;clear hw1;have cn:=HC.out w1 ay;obtain⟨y0,y1,y2⟩:=EO (HK.out w1 ay);go_enter Tryz.func121,Tryz.ntmps121;go_upto_region 2 with fail;rw[<-HW.out];go_wp2_with fail;refine(HN.out _).mono ?_;rintro e w2 ⟨rfl,hb⟩;clear y0 y1 y2 cn;have cn:=HC.out w2 hb;obtain⟨y0,y1,y2⟩:=EO (HK.out w2 hb);have bK:=aJ bf hb;have eC:=hid hb;clear hb;go_wp2_with fail;refine(HI.out _).mono ?_;rintro e w' ⟨rfl,rfl⟩;go_wp2_with fail;refine(HA.out _ bK.out).mono ?_;rintro e w3 ⟨rfl,hb⟩;clear y0 y1 y2 cn;have gj:=aJ eC hb;have cn:=HC.out w3 gj.out;obtain⟨y0,y1,y2⟩:=EO (HK.out w3 gj.out);have bZ:=aJ bK hb;clear hb;go_wp2_with fail;refine(HM.out _ bZ.out gj.out).mono ?_;rintro e w4 ⟨rfl,hb⟩;have f9:=aJ bZ hb;clear hb;go_wp2;go_ret;exact⟨rfl,f9.out⟩
theorem zK{r:ah.xX}(h:ah.vU r=true):ah.aU r.name=true/\ah.aU r.kind=true/\(r.a=ah.nil\/ah.aU r.a=true)/\(r.b=ah.nil\/ah.aU r.b=true)/\¬(r.a=ah.nil/\r.b=ah.nil)/\ah.tT r.n (-1048576) 1048576=true:=by
 unfold ah.vU at h;simp only[kJ,Bool.or_eq_true,lE,Bool.not_eq_true',Bool.and_eq_false_iff,decide_eq_false_iff_not] at h;refine⟨h.1.1.1.1.1,h.1.1.1.1.2,h.1.1.1.2,h.1.1.2,fun⟨g1,g2⟩=>?_,h.2⟩;rcases h.1.2 with g|g
 ·exact g g1
 ·exact g g2
theorem sI{o:ByteArray}(h:¬o=ah.nil):o.toList.isEmpty=false:=by
 cases hh:o.toList.isEmpty
 ·rfl
 ·exact absurd (str_inj (a:=o) (b:=ah.nil) (by rw[List.isEmpty_iff.1 hh,ByteArray.toList_eq];rfl)) h
end Go.Proofs.YteiakkfdchnddaaGreatDoor
namespace Go.Proofs
open Go.Shelf Go.RowKit Go.Sort Go.Lib
def Tryz.zL:Go.Shelf.Ren:=⟨fun|169=>154|n=>n,fun|70=>258|9=>9|0=>0|72=>260|37=>191|127=>285|3=>3|5=>5|n=>n,fun|n=>n⟩
theorem Tryz.YM:Go.Proofs.Lays.n169 Tryz.prog Tryz.zL:={
 mixed:=by kernel_rfl
 f169:=Tryz.func154.trans (congrArg some (by kernel_rfl))
 t0:=Tryz.underlying0
 a0:=Tryz.isAgg0
 z0:=Tryz.sizeOf0
 v0:=Tryz.zeroValue0
 t3:=Tryz.underlying3
 a3:=Tryz.isAgg3
 z3:=Tryz.sizeOf3
 v3:=Tryz.zeroValue3
 t9:=Tryz.underlying9
 a9:=Tryz.isAgg9
 z9:=Tryz.sizeOf9
 v9:=Tryz.zeroValue9
 t37:=Tryz.underlying191
 a37:=Tryz.isAgg191
 z37:=Tryz.sizeOf191
 v37:=Tryz.zeroValue191
 t70:=Tryz.underlying258
 a70:=Tryz.isAgg258
 z70:=Tryz.sizeOf258
 v70:=Tryz.zeroValue258
 t72:=Tryz.underlying260
 a72:=Tryz.isAgg260
 z72:=Tryz.sizeOf260
 v72:=Tryz.zeroValue260
 t127:=Tryz.underlying285
 a127:=Tryz.isAgg285
 z127:=Tryz.sizeOf285
 v127:=Tryz.zeroValue285}
theorem Tryz.wK:Builder.Extra Tryz.prog Tryz.zL:={
 sizeBuilder:=by kernel_rfl
 liesBuilder:=by kernel_rfl
 t5:=Tryz.underlying5
 a5:=Tryz.isAgg5
 z5:=Tryz.sizeOf5
 v5:=Tryz.zeroValue5
 infoByte:=by kernel_rfl
 cellsByte:=by kernel_rfl
 sizeByte:=by kernel_rfl
 neB5:=by decide}
open Go.RowKit in
theorem Tryz.Builder_String_any(B b:Nat)(l:List UInt8)(w:World)(h:Lib.IsBuilder 260 5 B b (Lib.byteCells l) w)(hBw:B<=w.heap.size):
  Calls Tryz.prog 154 #[.pointer (some ⟨b,0,none⟩)] w fun e w'=>e=.returned (.string ⟨l.toArray⟩)/\Below B w w':=Any.Builder_String_any Tryz.YM Tryz.wK B b l w h hBw
def Tryz.FZ:Go.Shelf.Ren:=⟨fun|171=>175|243=>183|246=>184|283=>185|284=>186|285=>187|286=>188|129=>113|317=>189|318=>190|319=>191|320=>192|337=>193|338=>194|n=>n,fun|3=>3|9=>9|2=>2|4=>4|171=>294|0=>0|53=>188|37=>191|5=>5|173=>296|212=>299|51=>185|20=>20|213=>300|46=>138|232=>302|233=>303|n=>n,fun|17=>2|18=>3|19=>4|n=>n⟩
theorem Tryz.UD:Go.Proofs.LaysM.n171 Tryz.prog Tryz.FZ:={
 mixed:=by kernel_rfl
 f129:=Tryz.func113.trans (congrArg some (by kernel_rfl))
 f171:=Tryz.func175.trans (congrArg some (by kernel_rfl))
 f243:=Tryz.func183.trans (congrArg some (by kernel_rfl))
 f246:=Tryz.func184.trans (congrArg some (by kernel_rfl))
 f283:=Tryz.func185.trans (congrArg some (by kernel_rfl))
 f284:=Tryz.func186.trans (congrArg some (by kernel_rfl))
 f285:=Tryz.func187.trans (congrArg some (by kernel_rfl))
 f286:=Tryz.func188.trans (congrArg some (by kernel_rfl))
 f317:=Tryz.func189.trans (congrArg some (by kernel_rfl))
 f318:=Tryz.func190.trans (congrArg some (by kernel_rfl))
 f319:=Tryz.func191.trans (congrArg some (by kernel_rfl))
 f320:=Tryz.func192.trans (congrArg some (by kernel_rfl))
 f337:=Tryz.func193.trans (congrArg some (by kernel_rfl))
 f338:=Tryz.func194.trans (congrArg some (by kernel_rfl))
 t0:=Tryz.underlying0
 a0:=Tryz.isAgg0
 z0:=Tryz.sizeOf0
 v0:=Tryz.zeroValue0
 t2:=Tryz.underlying2
 a2:=Tryz.isAgg2
 z2:=Tryz.sizeOf2
 v2:=Tryz.zeroValue2
 t3:=Tryz.underlying3
 a3:=Tryz.isAgg3
 z3:=Tryz.sizeOf3
 v3:=Tryz.zeroValue3
 t4:=Tryz.underlying4
 a4:=Tryz.isAgg4
 z4:=Tryz.sizeOf4
 v4:=Tryz.zeroValue4
 t5:=Tryz.underlying5
 a5:=Tryz.isAgg5
 z5:=Tryz.sizeOf5
 v5:=Tryz.zeroValue5
 t9:=Tryz.underlying9
 a9:=Tryz.isAgg9
 z9:=Tryz.sizeOf9
 v9:=Tryz.zeroValue9
 t20:=Tryz.underlying20
 a20:=Tryz.isAgg20
 z20:=Tryz.sizeOf20
 v20:=Tryz.zeroValue20
 t37:=Tryz.underlying191
 a37:=Tryz.isAgg191
 z37:=Tryz.sizeOf191
 v37:=Tryz.zeroValue191
 t46:=Tryz.underlying138
 a46:=Tryz.isAgg138
 z46:=Tryz.sizeOf138
 v46:=Tryz.zeroValue138
 t51:=Tryz.underlying185
 a51:=Tryz.isAgg185
 z51:=Tryz.sizeOf185
 v51:=Tryz.zeroValue185
 t53:=Tryz.underlying188
 a53:=Tryz.isAgg188
 z53:=Tryz.sizeOf188
 v53:=Tryz.zeroValue188
 t171:=Tryz.underlying294
 a171:=Tryz.isAgg294
 z171:=Tryz.sizeOf294
 v171:=Tryz.zeroValue294
 t173:=Tryz.underlying296
 a173:=Tryz.isAgg296
 z173:=Tryz.sizeOf296
 v173:=Tryz.zeroValue296
 t212:=Tryz.underlying299
 a212:=Tryz.isAgg299
 z212:=Tryz.sizeOf299
 v212:=Tryz.zeroValue299
 t213:=Tryz.underlying300
 a213:=Tryz.isAgg300
 z213:=Tryz.sizeOf300
 t232:=Tryz.underlying302
 a232:=Tryz.isAgg302
 z232:=Tryz.sizeOf302
 v232:=Tryz.zeroValue302
 t233:=Tryz.underlying303
 a233:=Tryz.isAgg303
 z233:=Tryz.sizeOf303
 v233:=Tryz.zeroValue303
 g17:=by kernel_rfl
 g18:=by kernel_rfl
 g19:=by kernel_rfl
 i0:=by kernel_rfl
 i2:=by kernel_rfl
 i3:=by kernel_rfl
 i4:=by kernel_rfl
 i5:=by kernel_rfl
 i9:=by kernel_rfl
 i20:=by kernel_rfl
 i37:=by kernel_rfl
 i46:=by kernel_rfl
 i51:=by kernel_rfl
 i53:=by kernel_rfl
 i171:=by kernel_rfl
 i173:=by kernel_rfl
 i212:=by kernel_rfl
 i232:=by kernel_rfl
 i233:=by kernel_rfl
 m17:=by kernel_rfl
 m18:=by kernel_rfl
 m19:=by kernel_rfl}
theorem Tryz.strconv_Itoa(n:Int)(h0: -9223372036854775808<=n)(h1:n<=9223372036854775807)(w:World)(htab:Lib.TabIs Tryz.prog w "internal/strconv.uint64pow10" .u64 Lib.pow10Tab):
  Calls Tryz.prog 175 #[.int .i64 n] w fun e w'=>e=.returned (.string ⟨(Lib.itoa n).toArray⟩)/\∃k os,w'=grow (w.drewN k) os:=Any.strconv_Itoa Tryz.UD n h0 h1 w htab
end Go.Proofs
namespace Go.Proofs.YteiakkfdchnddaaGreatDoor
open Go.RowKit
theorem Iz:∃j,Tryz.prog.info? 260=some j/\j.size=2:=by
 have h:(Tryz.prog.info? 260).map (·.size)=some 2:=by kernel_rfl
 exact Option.map_eq_some_iff.1 h
theorem BM(b:Nat)(w:World)(h0:w.cell? ⟨b,0,none⟩=some (.pointer (some ⟨b,0,none⟩))):
  Calls Tryz.prog 173 #[.pointer (some ⟨b,0,none⟩)] w fun e w'=>e=.returned (.tuple #[])/\w=w':=by
 obtain⟨j,hj,_⟩:=Iz;go_enter Tryz.func173,Tryz.ntmps173;go_wp2;rw[Lib.run_neq_ptr_same w _ Tryz.underlying258 hj];go_wp2;go_end0;exact⟨rfl,rfl⟩
theorem Ao(b:Nat)(w:World)(h0:w.cell? ⟨b,0,none⟩=some (.pointer none))(hsh:w.shape? b=some (260,2))(hfz:w.frozen? ⟨b,0,none⟩=false):
  Calls Tryz.prog 173 #[.pointer (some ⟨b,0,none⟩)] w fun e w'=>e=.returned (.tuple #[])/\w.setCell ⟨b,0,none⟩ (.pointer (some ⟨b,0,none⟩))=w':=by
 obtain⟨j,hj,hjs⟩:=Iz;go_enter Tryz.func173,Tryz.ntmps173;go_wp2;rw[Lib.run_to_unsafe w ⟨b,0,none⟩ Tryz.underlying258 Tryz.underlying291 hj (by rw[hjs];decide) hsh (Nat.zero_lt_succ 1)];simp only[Result.andThen];rw[Oper.upon_value];go_wp2;rw[run_callFunc_extern Tryz.func182 (by kernel_rfl) (by kernel_rfl) (by kernel_rfl) (e:=Extern.AbiNoEscape.same) (by kernel_rfl)];rw[Lib.run_noEscape];simp only[Result.andThen];rw[Oper.upon_value];go_wp2;rw[Lib.run_from_unsafe w ⟨b,0,none⟩ Tryz.underlying291 Tryz.underlying258 hj hsh (by kernel_rfl)];simp only[Result.andThen];rw[Oper.upon_value];go_wp2;go_end0;exact⟨rfl,rfl⟩
def UE(o:Obj):Prop:=∀cs fr,o≠ .cells cs 5 fr
def KB(b:Nat)(w w':World):Prop:=∀x o,w.heap[x]?=some o->x≠b->UE o->w'.heap[x]?=some o
theorem KB.refl(b:Nat)(w:World):KB b w w:=fun _ _ h _ _=>h
theorem KB.trans{b:Nat}{w w1 w2:World}(h:KB b w w1)(k:KB b w1 w2):KB b w w2:=fun x o h1 h2 h3=>k x o (h x o h1 h2 h3) h2 h3
theorem KB.setCell(b i:Nat)(v:Value)(w:World):KB b w (w.setCell ⟨b,i,none⟩ v):=fun x o h1 h2 _=>by rw[heap_setCell_other _ _ _ _ h2];exact h1
theorem KB.grown{b base n:Nat}{w w':World}{v:Value}{xs:List Value}(ho:w.ownsRow base 5 1 v n xs)(h:w.grownBy w' v.ownBlock):KB b w w':=fun x o h1 _ h3=>by
 refine(h.block x (aj h1) (fun e=>?_)).trans h1;rcases ho.2 with⟨rfl,_⟩|⟨g,cap,cur,rfl,_,hg,_⟩
 ·simp[Value.ownBlock] at e
 ·simp only[Value.ownBlock,Option.some.injEq] at e
  subst e;rw[hg] at h1;exact h3 _ _ (qf h1).symm
theorem uJ(B b:Nat)(bs:List Value)(w:World)(h:Lib.IsBuilder 260 5 B b bs w):
  Calls Tryz.prog 173 #[.pointer (some ⟨b,0,none⟩)] w fun e w'=>e=.returned (.tuple #[])/\Lib.BuilderAt 260 5 B b (.pointer (some ⟨b,0,none⟩)) bs w'/\Below B w w'/\KB b w w':=by
 rcases h with h|h
 ·refine(Ao b w h.cell0 h.shape h.frozen0).mono ?_
  rintro e w' ⟨rfl,rfl⟩;exact⟨rfl,h.used _,(Below.refl B w).setCell (p:=⟨b,0,none⟩) h.1 _,KB.setCell b 0 _ _⟩
 ·refine(BM b w h.cell0).mono ?_
  rintro e w' ⟨rfl,rfl⟩;exact⟨rfl,h,Below.refl B _,KB.refl _ _⟩
def iH(B b n:Nat)(w:World):Prop:=∃l:List UInt8,l.length=n/\Lib.IsBuilder 260 5 B b (Lib.byteCells l) w
theorem EP:(Tryz.prog.info? 5).map (fun i=>(i.zero,i.size,i.bytes))=some (some (.int .u8 0),1,1):=by kernel_rfl
theorem dR(B b n:Nat)(s:ByteArray)(w:World)(h:iH B b n w)(hlen:n+s.size<=140737488355328)(hBw:B<=w.heap.size):
  Calls Tryz.prog 150 #[.pointer (some ⟨b,0,none⟩),.string s] w fun e w'=>e=.returned (.tuple #[.int .i64 s.size,.nilIface])/\iH B b (n+s.size) w'/\Below B w w'/\KB b w w':=by
 obtain⟨l,hl,h⟩:=h;have hbl:=Lib.byteCells_length l;have HL:=hid hl;have afW:(Lib.byteCells l).length+s.size<=140737488355328:=by omega
 clear hbl hl hlen;obtain⟨i0,hi,hz0,hz1,hz2⟩:=info_parts EP;have HC:=hid (uJ B b _ w h);go_enter Tryz.func150,Tryz.ntmps150;go_wp2_with fail;refine HC.out.mono ?_;rintro e w1 ⟨rfl,h1,hb1,hk1⟩;obtain⟨hB,v,hbk,hown,hne⟩:=h1;have c0:w1.cell? ⟨b,0,none⟩=some (.pointer (some ⟨b,0,none⟩)):=by rw[Lib.cell_of_heap hbk];rfl
 have c1:w1.cell? ⟨b,1,none⟩=some v:=by rw[Lib.cell_of_heap hbk];rfl
 go_wp2_with (at_builtin;refine Lib.wpList_append_own_string _ rfl _ _ 191 9 rfl B 5 i0 Tryz.underlying191 Tryz.underlying9 hi hz0 hz1 hz2 _ _ _ rfl hown s rfl ?c3 ?c4 ?c5 ?_);case c3=>unfold maxLen;omega
 case c4=>omega
 case c5=>have:=hb1.size;omega
 intro v' w2 hown' hgrow _;have hlt:b<w1.heap.size:=aj hbk
 have hb2:w2.heap[b]?=some (.cells #[.pointer (some ⟨b,0,none⟩),v] 260 (0,0)):=by
  rw[hgrow.block b hlt (fun e=>hne e.symm)];exact hbk
 have d0:w2.cell? ⟨b,0,none⟩=some (.pointer (some ⟨b,0,none⟩)):=by rw[Lib.cell_of_heap hb2];rfl
 have d1:w2.cell? ⟨b,1,none⟩=some v:=by rw[Lib.cell_of_heap hb2];rfl
 have f1:w2.frozen? ⟨b,1,none⟩=false:=Lib.frozen_of_heap hb2 1
 obtain⟨ao,n',cap,rfl⟩:∃ao n' cap,v'=.slice ao n' cap:=by
  rcases hown'.2 with⟨hv,_⟩|⟨g,cap,cur,hv,_⟩
  ·exact⟨_,_,_,hv⟩
  ·exact⟨_,_,_,hv⟩
 go_wp2;go_ret2;refine⟨rfl,⟨l++s.data.toList,by rw[rG,HL.out];rfl,.inr ?_⟩,?_,?_⟩
 ·rw[Lib.byteCells_append,<-Lib.strCells_eq]
  exact Lib.BuilderAt.put (T:=260) (e:=5) hB hb2 (bs':=Lib.byteCells l++Lib.strCells s) (by simpa [Lib.strCells_length] using hown') qg
 ·exact(hb1.grown hgrow (by have:=hb1.size;omega) (fun k hk=>(hown.lt k hk).1)).setCell (p:=⟨b,1,none⟩) hB _
 ·exact(hk1.trans (KB.grown hown hgrow)).trans (KB.setCell b 1 _ _)
theorem DT(B b n:Nat)(c:UInt8)(w:World)(h:iH B b n w)(hlen:n+1<=140737488355328)(hBw:B<=w.heap.size):
  Calls Tryz.prog 174 #[.pointer (some ⟨b,0,none⟩),.int .u8 (c.toNat:Int)] w fun e w'=>e=.returned .nilIface/\iH B b (n+1) w'/\Below B w w':=by
 obtain⟨l,hl,h⟩:=h;have hbl:=Lib.byteCells_length l;have HL:=hid hl;have afW:(Lib.byteCells l).length+1<=140737488355328:=by omega
 clear hbl hl hlen;obtain⟨i0,hi,hz0,hz1,hz2⟩:=info_parts EP;have HC:=hid (uJ B b _ w h);have Xd:Hid (Lib.byteCells (l++[c])=Lib.byteCells l++[.int .u8 (c.toNat:Int)]):=hid (by rw[Lib.byteCells_append];rfl);generalize (c.toNat:Int)=ci at*;go_enter Tryz.func174,Tryz.ntmps174;go_wp2_with fail;refine HC.out.mono ?_;rintro e w1 ⟨rfl,h1,hb1, -⟩;obtain⟨hB,v,hbk,hown,hne⟩:=h1;have c0:w1.cell? ⟨b,0,none⟩=some (.pointer (some ⟨b,0,none⟩)):=by rw[Lib.cell_of_heap hbk];rfl
 have c1:w1.cell? ⟨b,1,none⟩=some v:=by rw[Lib.cell_of_heap hbk];rfl
 go_wp2_with (at_builtin;refine wpList_append_own _ rfl _ _ 191 rfl B 5 i0 (.int .u8 0) 1 1 Tryz.underlying191 hi hz0 hz1 hz2 rfl qg _ _ _ rfl (hown.alloc _) ⟨w1.heap.size,0,none⟩ 1 1 [.int .u8 ci] rfl rfl ?c1 ?c2 ?c3 ?c4 ?c5 ?_)
 case c1=>
  intro j u hj;match j,hj with
  |0,hj=>simp at hj;subst hj;simp[Addr.add]
 case c2=>intro u hu;simp at hu;subst hu;rfl
 case c3=>unfold maxLen;omega
 case c4=>omega
 case c5=>have:=hb1.size;simp;omega
 intro v' w2 hown' hgrow _;have hlt:b<w1.heap.size:=aj hbk
 have hb2:w2.heap[b]?=some (.cells #[.pointer (some ⟨b,0,none⟩),v] 260 (0,0)):=by
  rw[hgrow.block b mV (fun e=>hne e.symm),Lib.alloc_old w1 _ b hlt];exact hbk
 have d0:w2.cell? ⟨b,0,none⟩=some (.pointer (some ⟨b,0,none⟩)):=by rw[Lib.cell_of_heap hb2];rfl
 have d1:w2.cell? ⟨b,1,none⟩=some v:=by rw[Lib.cell_of_heap hb2];rfl
 have f1:w2.frozen? ⟨b,1,none⟩=false:=Lib.frozen_of_heap hb2 1
 obtain⟨g,cap,rfl⟩:∃g cap,v'=.slice (some ⟨g,0,none⟩) ((Lib.byteCells l).length+1) cap:=by
  rcases hown'.2 with⟨_,h0⟩|⟨g,cap,cur,hv,_⟩
  ·omega
  ·exact⟨g,cap,hv⟩
 go_wp2;go_ret;refine⟨rfl,⟨l++[c],by rw[rG,HL.out];rfl,.inr ?_⟩,?_⟩
 ·rw[Xd.out]
  exact Lib.BuilderAt.put (T:=260) (e:=5) hB hb2 (bs':=Lib.byteCells l++[.int .u8 ci]) (by simpa using hown') qg
 ·exact((hb1.alloc (by have:=hb1.size;omega) _).grown hgrow (by have:=hb1.size;simp;omega) (fun k hk=>(hown.lt k hk).1)).setCell (p:=⟨b,1,none⟩) hB _
theorem BN(B b n:Nat)(w:World)(h:iH B b n w)(hBw:B<=w.heap.size):
  Calls Tryz.prog 154 #[.pointer (some ⟨b,0,none⟩)] w fun e w'=>∃s:ByteArray,e=.returned (.string s)/\s.size=n/\Below B w w':=by
 obtain⟨l,hl,h⟩:=h;exact(Tryz.Builder_String_any B b l w h hBw).mono fun e w' ⟨h1,h2⟩=>⟨⟨l.toArray⟩,h1,by show l.toArray.size=n;simpa using hl,h2⟩
def K1:List ByteArray:=[⟨#[107,101,121]⟩,⟨#[114,101,102]⟩,⟨#[110,117,109]⟩,⟨#[112,105,99,107]⟩,⟨#[100,97,121]⟩,⟨#[115,116,101,112]⟩,⟨#[115,117,109]⟩,⟨#[115,104,97,114,101]⟩,⟨#[99,111,112,121]⟩]
structure LaidW(w:World):Prop where
 pow:Lib.TabIs Tryz.prog w "internal/strconv.uint64pow10" .u64 Lib.pow10Tab
 dc:∀k (_:k<9),w.cell? ⟨1,k,none⟩=some (.string (K1.getD k ah.nil))
 size:5<=w.heap.size
theorem aaZ:Tryz.prog.globalNamed "internal/strconv.uint64pow10" =some 2:=by kernel_rfl
theorem LaidW.below{B:Nat}{w w':World}(h:LaidW w)(hb:Below B w w')(hB:5<=B):LaidW w' where
 pow:=var?_below hb aaZ aC h.pow
 dc k hk:=(hb.cell (p:=⟨1,k,none⟩) (show 1<B by omega)).trans (h.dc k hk)
 size:=Nat.le_trans h.size hb.size
theorem LaidW.next{w w':World}(h:LaidW w)(hb:BL w w'):LaidW w':=h.below hb h.size
theorem F2:∀(f n:Nat),n<10 ^ f->ah.Bg f n=Lib.nDigits n
 |0,n,h=>by
  have:n=0:=by simpa using h
  subst this;rw[Lib.nDigits_small aC];rfl
 |f+1,n,h=>by
  unfold ah.Bg;split
  ·rename_i h1;rw[Lib.nDigits_small h1]
  ·rename_i h1
   rw[Lib.nDigits_big h1,F2 f (n / 10) (by rw[Nat.pow_succ] at h;omega)];omega
theorem IA(w:World)(k:Nat)(os:Array Obj):BL w (Go.Sort.grow (w.drewN k) os):=
 ⟨rfl,rfl,rfl,by simp[Go.Sort.grow],fun b hb=>Go.Sort.heap_grow_old (w.drewN k) os hb⟩
theorem UF(n:Int)(h0: -1000000000000<=n)(h1:n<=1000000000000)(w:World)(hl:LaidW w):
  Calls Tryz.prog 175 #[.int .i64 n] w fun e w'=>∃s:ByteArray,e=.returned (.string s)/\s.size=ah.dQ n/\BL w w':=by
 refine(Tryz.strconv_Itoa n aC aC w hl.pow).mono ?_;rintro e w' ⟨rfl,k,os,rfl⟩;refine⟨_,rfl,?_,IA w k os⟩;show (Lib.itoa n).toArray.size=_
 rw[List.size_toArray];unfold Lib.itoa ah.dQ;split
 ·rw[List.length_cons,Lib.decDigits_length,F2 40 _ aC];omega
 ·rw[Lib.decDigits_length,F2 40 _ aC]
  have:n.natAbs=n.toNat:=by omega
  rw[this];omega
inductive Arg
 |num (n:Int)
 |str (s:ByteArray)
def oe(a:Arg):Value:=match a with
 | .num n=>.iface 3 (.int .i64 n)
 | .str s=>.iface 9 (.string s)
def argN:Arg->Nat
 | .num n=>1+ah.dQ n
 | .str s=>1+s.size
def iT:Arg->Prop
 | .num n=> -1000000000000<=n/\n<=1000000000000
 | .str _=>True
abbrev zM(S:Nat->Prop):=gQ (fun _ u (x:Arg)=>u=oe x) S
theorem zM.keep{S w w' v xs}(h:zM S w v xs)(hk:aB S w w'):zM S w' v xs:=gQ.keep h hk fun _ _ h=>h
theorem Pq{α:Type}(g:α->Nat)(l:List α)(x:α):ah.bG g (l++[x])=ah.bG g l+g x:=by
 unfold ah.bG;rw[List.foldl_append];rfl
theorem mY{α:Type}(g:α->Nat)(l:List α){k:Nat}(h:k<l.length):ah.bG g (l.take (k+1))=ah.bG g (l.take k)+g l[k]:=by
 rw[Gu h,Pq]
theorem tL{α:Type}(g:α->Nat):∀(l:List α) (a:Nat),l.foldl (fun n x=>n+g x) a=a+l.foldl (fun n x=>n+g x) 0
 |[],_=>rfl
 |x::l,a=>by
  simp only[List.foldl_cons];rw[tL g l (a+g x),tL g l (0+g x)];omega
theorem dx{α:Type}(g:α->Nat)(x:α)(l:List α):ah.bG g (x::l)=g x+ah.bG g l:=by
 unfold ah.bG;rw[List.foldl_cons,tL];omega
theorem jr{α:Type}(g:α->Nat)(l:List α)(k:Nat):ah.bG g (l.take k)<=ah.bG g l:=by
 have h:ah.bG g l=ah.bG g (l.take k)+ah.bG g (l.drop k):=by
  unfold ah.bG;conv=>lhs;rw[<-List.take_append_drop k l]
  rw[List.foldl_append,tL]
 omega
theorem rq{T e:TypeId}{B b:Nat}{p:Value}{bs:List Value}{w w':World}(h:Lib.BuilderAt T e B b p bs w)(hb:BL w w'):Lib.BuilderAt T e B b p bs w':=by
 obtain⟨h1,v,h2,h3,h4⟩:=h;exact⟨h1,v,(hb.block _ (aj h2)).trans h2,dm (S:=fun _=>True) h3 (fun _ _=>trivial) (aB.below hb),h4⟩
theorem iH.below{B b n:Nat}{w w':World}(h:iH B b n w)(hb:BL w w'):iH B b n w':=by
 obtain⟨l,h1,h2⟩:=h;exact⟨l,h1,h2.imp (fun h=>rq h hb) (fun h=>rq h hb)⟩
theorem K3(n:Int)(w:World):(Instr.typeAssert (.iface 3 (.int .i64 n)) 20 3 true).run Tryz.prog w=.ok (.tuple #[.int .i64 n,.bool true]) w:=by kernel_rfl
theorem K4(s:ByteArray)(w:World):(Instr.typeAssert (.iface 9 (.string s)) 20 3 true).run Tryz.prog w=.ok (.tuple #[.int .i64 0,.bool false]) w:=by kernel_rfl
theorem K5(s:ByteArray)(w:World):(Instr.typeAssert (.iface 9 (.string s)) 20 9 true).run Tryz.prog w=.ok (.tuple #[.string s,.bool true]) w:=by kernel_rfl
theorem aa0{p:Prop}(h:p:=by
  clear hd5 jR
  go_wp2
  go_roundw
  case rel=>exact⟨k+1,by omega,by go_num,UG,fF⟩
  simp[intOf]
  omega):p:=h
theorem BO(word:ByteArray)(l:List Arg)(hok:∀a∈l,iT a)(hlen:word.size+ah.bG argN l<=1000000000)(v:Value)(S:Nat->Prop)(w:World)(hv:zM S w v l)(hw:LaidW w):
  Calls Tryz.prog 151 #[.string word,v] w fun e w'=>∃s:ByteArray,e=.returned (.string s)/\s.size=word.size+ah.bG argN l+1/\BL w w':=by
 obtain⟨a,cap,rfl,hsl,hcap,hmax⟩:=hv.form;have HV:=hid hv;have HO:=hid hok;have HN:=hid hlen;have HL:=hid hw;clear hv hok hlen hw;obtain⟨w1,hw1⟩:=aV (w.alloc (.cells #[.pointer none,.slice none 0 0] 260));have bf:Hid (Below w.heap.size w w1):=hid ud;have Xe:Hid (iH w.heap.size w.heap.size 0 w1):=hid (by rw[hw1];exact⟨[],rfl,Lib.fresh_isBuilder _ _ w⟩);have HW:=hid hw1;clear hw1;go_enter Tryz.func151,Tryz.ntmps151;go_upto_region 2 with fail;rw[<-HW.out];go_wp2_with fail;refine(dR w.heap.size w.heap.size 0 word w1 Xe.out GQ bf.out.size).mono ?_;rintro e w2 ⟨rfl,hd2,hb2, -⟩;have HD2:Hid (iH w.heap.size w.heap.size (word.size+ah.bG argN (l.take 0)) w2):=hid (by simpa [ah.bG] using hd2);have bK:Hid (BL w w2):=hid (bf.out.trans hb2);clear hd2 hb2;go_upto_region 4 with fail;go_loopw [14] (fun i wr=>∃k:Nat,k<=l.length/\i=.int .i64 (k:Int)/\Hid (iH w.heap.size w.heap.size (word.size+ah.bG argN (l.take k)) wr)/\Hid (BL w wr)) (fun i _=>l.length-(intOf i).toNat);case atStart=>exact⟨0,by omega,rfl,HD2,bK⟩
 case round=>
  obtain⟨k,hk,rfl,HD,HB⟩:=hrel;obtain⟨wo,rfl⟩:=aV (wr:World);by_cases hlt:k<l.length
  ·have hk0:(0:Int)<=(k:Int):=by omega
   have hk1:(k:Int)<(l.length:Int):=by omega
   obtain⟨x,hx, -,hx2⟩:=(zM.keep HV.out (aB.below HB.out)).at hlt;subst hx2;have HO1:=hid (HO.out _ (gY hlt));have hsum:=mY argN l hlt;have hle:=jr argN l (k+1);have HM:Hid (word.size+ah.bG argN (l.take k)+argN l[k]=word.size+ah.bG argN (l.take (k+1))/\word.size+ah.bG argN (l.take (k+1))<=1000000000):=hid GQ;clear hsum hle;generalize l[k]=z at*;obtain⟨n0,hn0⟩:=aV (word.size+ah.bG argN (l.take k));rw[<-hn0] at HD HM;clear hn0;have HWB:=hid (DT w.heap.size w.heap.size n0 32 wo HD.out (by have:=HM.out;omega) HB.out.size);cases z with
   |num n=>
    have hb:=HO1.out
    simp only[iT] at hb
    simp only[argN] at HM
    simp only[oe] at hx
    have ta:=K3 n
    go_wp2_with fail
    refine HWB.out.mono ?_
    rintro e w3 ⟨rfl,hd3,hb3⟩
    have bZ:Hid (BL w w3):=hid (HB.out.trans hb3)
    have YN:=hid hd3
    clear hd3 hb3
    have HI:=hid (UF n aC aC w3 (HL.out.next bZ.out))
    go_wp2_with fail
    refine HI.out.mono ?_
    rintro e w4 ⟨s,rfl,hs,hb4⟩
    have f9:=aJ bZ hb4
    have HD4:Hid (iH w.heap.size w.heap.size (n0+1) w4):=hid (YN.out.below hb4)
    have HS:=hid hs
    clear hs hb4
    go_wp2_with fail
    refine(dR w.heap.size w.heap.size (n0+1) s w4 HD4.out (by have:=HM.out;have:=HS.out;omega) f9.out.size).mono ?_
    rintro e w5 ⟨rfl,hd5,jR, -⟩
    have fF:Hid (BL w w5):=hid (f9.out.trans jR)
    have UG:Hid (iH w.heap.size w.heap.size (word.size+ah.bG argN (l.take (k+1))) w5):=hid (by
     have h1:=HM.out
     have h2:=HS.out
     rw[<-h1.1,<-h2]
     have:n0+(1+s.size)=n0+1+s.size:=by omega
     rw[this];exact hd5)
    exact aa0
   |str s=>
    simp only[argN] at HM
    simp only[oe] at hx
    have ta:=K4 s
    have tb:=K5 s
    go_wp2_with fail
    refine HWB.out.mono ?_
    rintro e w3 ⟨rfl,hd3,hb3⟩
    have bZ:Hid (BL w w3):=hid (HB.out.trans hb3)
    have YN:=hid hd3
    clear hd3 hb3
    go_wp2_with fail
    refine(dR w.heap.size w.heap.size (n0+1) s w3 YN.out (by have:=HM.out;omega) bZ.out.size).mono ?_
    rintro e w5 ⟨rfl,hd5,jR, -⟩
    have fF:Hid (BL w w5):=hid (bZ.out.trans jR)
    have UG:Hid (iH w.heap.size w.heap.size (word.size+ah.bG argN (l.take (k+1))) w5):=hid (by
     have h1:=HM.out
     rw[<-h1.1]
     have:n0+(1+s.size)=n0+1+s.size:=by omega
     rw[this];exact hd5)
    exact aa0
  ·have hkk:k=l.length:=by omega
   subst hkk;have YN:Hid (iH w.heap.size w.heap.size (word.size+ah.bG argN l) wo):=hid (by have:=HD.out;rwa [List.take_length] at this);have rJ:=hid (BN w.heap.size w.heap.size _ wo YN.out HB.out.size);go_wp2_with fail;refine rJ.out.mono ?_;rintro e w3 ⟨s,rfl,hs,hb3⟩;have HS:=hid hs;have bZ:=hid (HB.out.trans hb3);have hs1:s.size<=1000000000:=by have:=HN.out;omega
   clear hs hb3;go_wp2;go_ret;refine⟨_,rfl,?_,bZ.out⟩;rw[<-HS.out];exact ByteArray.size_append
def dash:ByteArray:=⟨#[45]⟩
def jh(s:ByteArray):ByteArray:=if s=ah.nil then dash else s
theorem l5(s:ByteArray):(jh s).size=ah.eP s:=by
 unfold jh ah.eP;split<;>rfl
theorem adt(s:ByteArray)(g:Nat)(w:World)(h0:w.cell? ⟨g,0,none⟩=some (.string s))(h1:w.cell? ⟨g,1,none⟩=some (.string {data:=#[45]})):
  Calls Tryz.prog 176 #[.slice (some ⟨g,0,none⟩) 2 2] w fun e w'=>e=.returned (.string (jh s))/\w=w':=by
 go_enter Tryz.func176,Tryz.ntmps176;go_upto_region 3 with fail;go_loopw [8] (fun i wr=>∃k:Nat,k<=1/\i=.int .i64 (k:Int)/\Hid (k=1->s=ah.nil)/\w=wr) (fun i _=>2-(intOf i).toNat);case atStart=>exact⟨0,by omega,rfl,hid fun h=>absurd h aC,rfl⟩
 case round=>
  obtain⟨k,hk,rfl,HK,rfl⟩:=hrel;have hk2:k=0\/k=1:=by omega
  rcases hk2 with rfl|rfl
  ·by_cases hs:s=ah.nil
   ·subst hs
    unfold ah.nil at*;go_wp2;go_roundw;case rel=>exact⟨1,by omega,by first|trivial|rfl,by first|exact hid trivial|exact hid (fun _=>trivial)|exact hid (fun _=>rfl),by first|trivial|rfl⟩
    simp[intOf]
   ·have he:=sI hs
    have HE:Hid (jh s=s):=hid (if_neg hs);exact Nu
  ·have hs:=HK.out rfl
   have HE:Hid (jh s={data:=#[45]}):=hid (if_pos hs);clear hs;exact Nu
theorem yA(s:ByteArray)(w:World):Calls Tryz.prog 153 #[.string s] w fun e w'=>e=.returned (.string (jh s))/\BL w w':=by
 have HO:=hid (adt s w.heap.size (w.alloc (.cells #[.string s,.string {data:=#[45]}] 9)) aZ aZ);go_enter Tryz.func153,Tryz.ntmps153;go_wp2_with fail;refine HO.out.mono ?_;rintro e w' ⟨rfl,rfl⟩;go_wp2;go_ret;exact⟨rfl,ay.alloc aH _⟩
theorem vf(W:World)(l:List Arg)(hl:l.length<=1000)(T:TypeId):zM (fun _=>True) (W.alloc (.cells (l.map oe).toArray T)) (.slice (some ⟨W.heap.size,0,none⟩) l.length l.length) l:=by
 refine⟨some ⟨W.heap.size,0,none⟩,l.length,rfl,fun _=>⟨_,_,rfl⟩,aH,by unfold maxLen;omega,fun _=>trivial,fun j hj=>⟨oe l[j],?_,rfl⟩⟩;have e:(⟨bD (some ⟨W.heap.size,0,none⟩),bJ (some ⟨W.heap.size,0,none⟩)+j,none⟩:Addr)=⟨W.heap.size,j,none⟩:=by simp[bD,bJ]
 rw[e,aF (aP W _ rfl)];simp[kK hj]
section
variable {P:Program} {ops:Array Oper} {md:Region.Mode}
def wM:Op->Bool
 | .move _| .assign _| .pick .. | .load .. | .binOp .. | .unOp .. | .build .. | .fieldAddr .. | .field .. | .indexAddr .. | .index .. | .slice .. | .extract .. | .convert .. | .makeFunc .. | .makeInterface .. =>true
 | .call {callee:=.builtin .len, .. }| .call {callee:=.builtin .cap, .. }| .call {callee:=.builtin .min, .. }| .call {callee:=.builtin .max, .. }=>true
 |_=>false
theorem yB{o:Oper}(h:wM o.op=true){ρ:Operand->Value}{w w':World}{nx:Next}(hn:∀v,nx≠ .value v):(execOp ρ o).run P w≠ .ok nx w':=by
 unfold execOp;generalize o.op=op at*;unfold wM at h;exact aai
def Region.kG(md:Region.Mode)(ops:Array Oper)(n:Nat):Nat->je->Array Bool->Bool
 |0,.done,listed=>Region.seqB md ops (ops.size-n) n listed
 |f+1,.one c s,listed=>decide (Region.ready md ops listed=[c])&&decide (c<n)&&Region.kG md ops n f s (listed.setIfInBounds c true)
 |f+1,.two c d s t,listed=>decide (Region.ready md ops listed=[c,d])&&decide (c<n)&&decide (d<n)&&Region.kG md ops n f s (listed.setIfInBounds c true)&&Region.kG md ops n f t (listed.setIfInBounds d true)
 |f+1,.three c d e s t u,listed=>decide (Region.ready md ops listed=[c,d,e])&&decide (c<n)&&decide (d<n)&&decide (e<n)&&Region.kG md ops n f s (listed.setIfInBounds c true)&&Region.kG md ops n f t (listed.setIfInBounds d true)&&Region.kG md ops n f u (listed.setIfInBounds e true)
 |f+1,.quiet q s,listed=>(Region.ready md ops listed).contains q&&Region.free md ops listed q&&decide (q<n)&&((ops[q]?).map (fun o=>wM o.op)).getD false&&Region.kG md ops n f s (listed.setIfInBounds q true)
 |_,_,_=>false
def Region.EQ(md:Region.Mode)(ops:Array Oper)(n:Nat)(s:je):Bool:=
 Region.noSelect ops&&decide (n<ops.size)&&Region.sinkB md ops n&&Region.chainB md ops n&&Region.kG md ops n n s (Array.replicate ops.size false)
theorem fO{n:Nat}{Lq:Act->World->Prop}(hsel:Region.noSelect ops=true)(hs:Region.sinkB md ops n=true)(hc:Region.chainB md ops n=true)(hn:n<ops.size):
  ∀(f:Nat) (s:je) (φ:World->Prop) (listed:Array Bool) (a:Act) (w:World),φ w->HeadInv md ops n listed->Region.kG md ops n f s listed=true->bQ P ops Lq ops.toList s φ a w->
  j9 P md ops (eO φ) n (fun listed' a' w'=>Region.seqB md ops (ops.size-n) n listed'=true/\Lq a' w') f listed a w
 |0,.done,φ,listed,a,w,hC,inv,hB,h=>by
  simp only[Region.kG] at hB;exact⟨hB,h⟩
 |f+1,.quiet k s,φ,listed,a,w,hC,inv,hB,h=>by
  simp only[Region.kG,kJ,lE] at hB;obtain⟨⟨⟨⟨hr,hf⟩,hkn⟩,hq⟩,hB⟩:=hB;have hks:k<ops.size:=by omega
  obtain⟨o,h0⟩:∃o,ops[k]?=some o:=⟨ops[k],by simp[hks]⟩;have h0':ops.toList[k]?=some o:=by simpa using h0
  simp only[bQ,h0'] at h;have h:=h ⟨⟨w,hC⟩⟩;have JR:eO φ w:=⟨⟨w,hC⟩,rfl⟩;have Q7:wM o.op=true:=by rw[h0] at hq;simpa using hq
  unfold wpQuiet at h;split at h
  ·rename_i hw
   obtain⟨v,h1,h2⟩:=h
   have hy:gG P ops (eO φ) o v a:=.inl ⟨hw,fun w1 hC1=>by
    have g:=h1 w1 hC1;unfold Oper.quietAt at g;generalize hr1:(execOp a.eval o).run P w1=r at g ⊢;cases r with
    |ok nx w2=>
     cases nx with
     |value u=>obtain⟨e1,e2⟩:=g;rw[e1,e2]
     |_=>exact absurd hr1 (yB Q7 (by intro v;simp))
    |halt x w2=>exact g.elim⟩
   exact iC h0 hsel hs hc hn hkn (fun listed' a' w' hL=>oq hL.1 aH) JR inv hf hr hy
    (fO hsel hs hc hn f s φ _ _ w hC (inv.set Fw hkn) hB h2)
  ·rename_i hw
   exact iC h0 hsel hs hc hn hkn (fun listed' a' w' hL=>oq hL.1 aH) JR inv hf hr (.inr ⟨by simpa using hw,rfl⟩)
    (fO hsel hs hc hn f s φ _ _ w hC (inv.set Fw hkn) hB h)
 |f+1,.one k s,φ,listed,a,w,hC,inv,hB,h=>by
  simp only[Region.kG,kJ,lE] at hB;obtain⟨⟨hr,hkn⟩,hB⟩:=hB;simp only[bQ] at h;refine⟨by rw[hr];simp,fun i hi=>?_⟩;rw[hr] at hi;obtain rfl:i=k:=by simpa using hi
  exact⟨hkn,eF h fun φ' a' w' hw' h3=>fO hsel hs hc hn f s φ' _ a' w' hw' (inv.set qh hkn) hB h3⟩
 |f+1,.two k j s t,φ,listed,a,w,hC,inv,hB,h=>by
  simp only[Region.kG,kJ,lE] at hB;obtain⟨⟨⟨⟨hr,hkn⟩,hjn⟩,R9⟩,Ah⟩:=hB;simp only[bQ] at h;refine⟨by rw[hr];simp,fun i hi=>?_⟩;rw[hr] at hi;by_cases e:i=k
  ·subst e
   exact⟨hkn,eF h.1 fun φ' a' w' hw' h3=>fO hsel hs hc hn f s φ' _ a' w' hw' (inv.set qh hkn) R9 h3⟩
  ·obtain rfl:i=j:=by simpa [e] using hi
   exact⟨hjn,eF h.2 fun φ' a' w' hw' h3=>fO hsel hs hc hn f t φ' _ a' w' hw' (inv.set qh hjn) Ah h3⟩
 |f+1,.three k j m s t u,φ,listed,a,w,hC,inv,hB,h=>by
  simp only[Region.kG,kJ,lE] at hB;obtain⟨⟨⟨⟨⟨⟨hr,hkn⟩,hjn⟩,hmn⟩,R9⟩,Ah⟩,hB3⟩:=hB;simp only[bQ] at h;refine⟨by rw[hr];simp,fun i hi=>?_⟩;rw[hr] at hi;by_cases e:i=k
  ·subst e
   exact⟨hkn,eF h.1 fun φ' a' w' hw' h3=>fO hsel hs hc hn f s φ' _ a' w' hw' (inv.set qh hkn) R9 h3⟩
  ·by_cases e':i=j
   ·subst e'
    exact⟨hjn,eF h.2.1 fun φ' a' w' hw' h3=>fO hsel hs hc hn f t φ' _ a' w' hw' (inv.set qh hjn) Ah h3⟩
   ·obtain rfl:i=m:=by simpa [e,e'] using hi
    exact⟨hmn,eF h.2.2 fun φ' a' w' hw' h3=>fO hsel hs hc hn f u φ' _ a' w' hw' (inv.set qh hmn) hB3 h3⟩
 |0,.quiet ..,_,_,_,_,_,_,hB,_=>by simp[Region.kG] at hB
 |0,.one ..,_,_,_,_,_,_,hB,_=>by simp[Region.kG] at hB
 |0,.two ..,_,_,_,_,_,_,hB,_=>by simp[Region.kG] at hB
 |0,.three ..,_,_,_,_,_,_,hB,_=>by simp[Region.kG] at hB
 |_+1,.done,_,_,_,_,_,_,hB,_=>by simp[Region.kG] at hB
theorem dS{id:Nat}{Q:Exit->Act->World->Prop}{a:Act}{w:World}{l:List Oper}(n:Nat)(s:je)(φ:World->Prop)(hm:P.follows .mixedOrders=true)(hB:Region.EQ .any l.toArray n s=true)(hC:φ (w.drewN 1))
  (h:bQ P l.toArray (fun a' w'=>wpList P l.toArray Q (l.drop n) a' w') l s φ a (w.drewN 1)):(Code.region id l.toArray true).wp P Q a w:=by
 simp only[Region.EQ,kJ,lE] at hB;obtain⟨⟨⟨⟨hsel,hn⟩,hs⟩,hc⟩,hlex⟩:=hB
 have inv0:HeadInv .any l.toArray n (Array.replicate l.toArray.size false):=
  ⟨by simp,fun j oj _ hl=>RK,fun t _ ht=>getD_in RT (getD_replicate_false _ _)⟩
 have H:=fO (md:=.any) (Lq:=fun a' w'=>wpList P l.toArray Q (l.drop n) a' w') hsel hs hc hn n s φ _ a _ hC inv0 hlex uO;exact Sb
end
end Go.Proofs.YteiakkfdchnddaaGreatDoor
