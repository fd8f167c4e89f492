/- Part 11 of the walks and plain laws that the proof needs (packed). -/
import Derived.Deep.LoopGhost
import Derived.StringKeys
import Derived.Laws.IdiomStrings
import Derived.Laws.BytesArg
import Derived.Test.YtohddpbgflgiaaaGreatDoorCards
import Derived.Test.YtohddpbgflgiaaaGreatDoorTie
import Derived.WalkKit
import Derived.ProofKit
import Derived.OpenShut
import Derived.Deep.DeepHandedRow
import Derived.Lib.LaidTab
import Derived.Stop.LaidErr
import Derived.MakeChecks
import Derived.LaidMore
import Derived.LaidSub
import Derived.Maps.OwnSet
import Derived.Test.YtohddpbgflgiaaaGreatDoorQ1
import Derived.Test.YtohddpbgflgiaaaGreatDoorQ4
import Derived.Test.YtohddpbgflgiaaaGreatDoorQ6
import Derived.Test.YtohddpbgflgiaaaGreatDoorQ7
import Derived.Test.YtohddpbgflgiaaaGreatDoorQ8
import Derived.Test.YtohddpbgflgiaaaGreatDoorQ9
import Derived.Test.YtohddpbgflgiaaaGreatDoorQ10
set_option linter.all false
set_option maxRecDepth 100000
set_option maxHeartbeats 8000000
open Go.Proofs.Tryz
namespace Go.Proofs.YtohddpbgflgiaaaGreatDoor
open Go.RowKit
theorem ZP(x:aC.cE)(W:aC.dw)(s:Sub.S)(C:bU.jE x W)(hsh:W.map List.length=s.map List.length)(G A g M n:Nat)(hn:n<=100000)(k i:Nat)(hk:k<W.length)(hi:i<W[k].length)(ay:Sub.keeps s k i=true)(w:World)(h:DN G A g M n (bU.fS x) W s w):
  CP 110 #[.pointer (some ⟨g+1,0,none⟩),.agg #[.int .i64 (k:Int),.int .i64 (i:Int)]] w fun e w'=>(∃v,e=.returned v)/\DN G A g M (n+1) (bU.fS x) W (Sub.drop s k i) w'/\aY (fun b o=>(A<=b/\b<M)/\¬book o) A w w':=by
 have E:=C.refs;have az:=C.lead;have aA:=C.lX;have wK:=C.tot;have cj:=C.ah;have ag:=C.len;have bE:=hid h;obtain⟨D,cr,P,Z,O,za,qC,RB,aB⟩:=h.box;obtain⟨t,ho,aE,aF,aK,aM⟩:=h.maps;have bH:=h.Ua;have ZK:=h.b12;have aO:=h.b2m;have cl:=C.many;clear h C;generalize bU.fS x=rs at*;have Nb:g+1<w.heap.size:=aI za;have aP:s.length=W.length:=abv
 have ak:k<s.length:=aD
 have ai:s[k].length=W[k].length:=by
  have:=congrArg (fun l=>l[k]?) hsh;have e:W[k].length=s[k].length:=by simpa [hk,ak] using this
  exact e.symm
 have Uh:Hid (∀k (h1:k<W.length),W[k].length<=512):=hid (fun k h1=>by
  have h4:W[k].length<=aC.total W:=gq h1;omega)
 obtain⟨H,aa⟩:=bJ (Sub.drop s k i);have Q:H=s.set k (s[k].set i false):=by rw[aa];unfold Sub.drop;rw[Sub.bh ak]
 have al:H.length=s.length:=by rw[Q,zxl]
 rw[<-aa];obtain⟨ao,co,eo,yp, -, -⟩:=qC.form;cases eo;obtain⟨cm,cn,ew,cp, -, -⟩:=RB.form;cases ew;obtain⟨w1,hw1⟩:=bJ (w.alloc (.cells #[.int .i64 (k:Int),.int .i64 (i:Int)] 177));have bL:Hid (Below w.heap.size w w1):=hid Cx;have E6:Hid (w1.heap[w.heap.size]?=some (.cells #[.int .i64 (k:Int),.int .i64 (i:Int)] 177 (0,0))):=hid J7;have aQ:Hid (∀V,BL w V->V.heap[g+1]?=some (.cells #[.slice D rs.length cr,.slice P W.length Z,.slice (some ⟨O,0,none⟩) s.length s.length,.map (some g)] 172 (0,0))):=hid (fun V y=>(y.block _ Nb).trans za);have aR:=gB.keep aB (aH.below bL.out);obtain⟨uk,Sk,g',cap,e1,Ye,qZ,aS,aT,bI,aj⟩:=jv.inner gW aR ak;cases e1;obtain⟨nb,am⟩:=bJ (s[k].length);have cq:i<nb:=aD
 have an:=gU qZ.1 aD;obtain⟨gk,ck,e2,bN, -, -,I⟩:=an;subst e2;have Np:Sk gk:=qZ.2 gk rfl;have ap:=aS gk Np
 obtain⟨bP,aU⟩:∃c,w1.heap[gk]?=some (.cells c 4 (0,0)):=by
  rcases qZ.1.2 with⟨z,_⟩|⟨g2,c2,cs,bQ,ct,bR,_⟩
  ·cases z
  ·cases bQ;exact⟨_,bR⟩
 have aV:Hid (∀V:World,V.heap=w1.heap->(∃b,V.cell? ⟨gk,i,none⟩=some (.bool b))/\V.frozen? ⟨gk,i,none⟩=false):=hid (fun V y=>by
  have h0:=I i jo;have e3:V.heap[gk]?=w1.heap[gk]?:=by rw[y]
  refine⟨⟨(s[k])[i]' aD,?_⟩,?_⟩
  ·rw[al1 (w:=w1) (a:=⟨gk,i,none⟩) e3,h0.1];simp
  ·rw[World.frozen?_of_block (w:=w1) (a:=⟨gk,i,none⟩) e3,h0.2])
 have ab:Hid (∀V,BL w1 V->V.cell? ⟨O,k,none⟩=some (.slice (some ⟨gk,0,none⟩) nb ck)):=hid (fun V y=>by
  rw[am];exact(al1 (w:=w1) (a:=⟨O,k,none⟩) (y.block _ (kK w1 ⟨O,k,none⟩ Ye))).trans Ye)
 have bS:=hid hw1;have aW:w.heap.size<w1.heap.size:=J6
 have Nf:A<=w.heap.size:=aD
 have aX:=ap.1;have ch:=ap.2
 have a2:Hid (∀V:World,V.heap=w1.heap->pu (fun b=>A<=b/\b<g) (V.setCell ⟨gk,i,none⟩ (.bool false)) (.slice (some ⟨O,0,none⟩) H.length H.length) H):=hid (fun V y=>by
  rw[al,Q];refine aj _ _ (ku.set (gW.keep qZ (fun b _ _=>by rw[y])) rfl i false) (fun b B hlt=>?_);have hne:b≠gk:=fun e=>B.2 (e▸Np);exact(mO _ _ _ _ hne).trans (by rw[y]))
 have a3:Hid (∀V:World,V.heap=w1.heap->BL w1 V->aY (fun b o=>(A<=b/\b<M)/\¬book o) A w (V.setCell ⟨gk,i,none⟩ (.bool false))):=hid (fun V y B=>by
  have h1:aY (fun b o=>(A<=b/\b<M)/\¬book o) A w V:=aY.bg (bO bL.out B) Nf;exact h1.setCell (p:=⟨gk,i,none⟩) (o:=.cells bP 4 (0,0)) (by rw[y];exact aU) ⟨⟨aX,by show gk<M;omega⟩,WV⟩ aX _)
 have bV:Hid (GK (fun b=>G<=b/\b<A) w (.slice D rs.length cr) rs):=hid qC;have ZF:Hid (bK (·<G) w (.slice P W.length Z) W):=hid RB;have a4:Hid (pK w g t):=hid ho;have aq:=hid aM;have rS:=hid ag;have ZE:=hid aP;have vQ:=hid aE;have DE:=hid E;have xL:=hid az;have FD:=hid aA;have cu:=hid am;have Pa:=hid ai;have a5:=hid aa;have a6:=hid al;have a7:=hid aF;have Cq:=hid aK;have vE:=hid ay;have cv:=zN k
 have cx:=zN i
 have cy:=zL k s.length
 have cz:=zL i nb
 have cA:(i:Int)<(W[k].length:Int):=aD
 have cB:=zL k W.length
 clear hw1 ag aP aE E az aA ho aM RB qC aB za bE hsh aR Ye qZ aS aT bI aj bN I Np ap aU aa Q al aF aK ai am ay;go_enter func110,ntmps110;go_upto_region 1 with fail;rw[<-bS.out];have bW:=eC w1 ⟨g+1,2,none⟩ (.slice (some ⟨O,0,none⟩) s.length s.length) fun d=>(bF (aQ.out d.1 (bO bL.out d.2))).1.2.2.1;have ZN:=eC w1 ⟨w.heap.size,0,none⟩ (.int .i64 (k:Int)) fun d=>(pV ((d.2.block _ aW).trans E6.out)).1.1;have ZO:=eC w1 ⟨w.heap.size,1,none⟩ (.int .i64 (i:Int)) fun d=>(pV ((d.2.block _ aW).trans E6.out)).1.2;have bX:=eC w1 ⟨O,k,none⟩ (.slice (some ⟨gk,0,none⟩) nb ck) fun d=>ab.out d.1 d.2;refine bq 10 (.quiet 0 (.quiet 1 (.quiet 2 (.quiet 3 (.quiet 4 (.quiet 5 (.quiet 6 (.quiet 7 (.quiet 8 (.quiet 9 .done)))))))))) (BL w1) nK zK (aJ aG 1) ?_;have a8:Hid (BL w1 (w1.drewN 1)):=hid (aJ aG 1);have J:Hid ((w1.drewN 1).heap=w1.heap):=hid rfl;generalize w1.drewN 1=w8 at*
 iterate 10 refine gF ?_
 refine bG ?_;try simp only[jW,jH]
 clear bW ZN ZO bX;obtain⟨⟨xb,bY⟩,BQ⟩:=aV.out w8 J.out;go_upto_region 2 with fail;obtain⟨w2,K⟩:=bJ (w8.setCell ⟨gk,i,none⟩ (.bool false));rw[<-K];have vU:Hid (aY (fun b o=>(A<=b/\b<M)/\¬book o) A w w2):=hid (by rw[K];exact a3.out w8 J.out a8.out);have bZ:Hid (pu (fun b=>A<=b/\b<g) w2 (.slice (some ⟨O,0,none⟩) H.length H.length) H):=hid (by rw[K];exact a2.out w8 J.out);have Da:Hid (∀b,b≠gk->b<w.heap.size->w2.heap[b]?=w.heap[b]?):=hid (fun b h1 z=>by rw[K];exact(mO _ _ _ _ h1).trans (by rw[J.out];exact bL.out.block _ z));have ET:Hid (w2.heap[g+1]?=some (.cells #[.slice D rs.length cr,.slice P W.length Z,.slice (some ⟨O,0,none⟩) s.length s.length,.map (some g)] 172 (0,0))):=hid ((Da.out _ aD Nb).trans (aQ.out w aG));have sU:Hid (w2.heap[w.heap.size]?=some (.cells #[.int .i64 (k:Int),.int .i64 (i:Int)] 177 (0,0))):=hid (by rw[K];exact(mO _ _ _ _ (show w.heap.size≠gk by omega)).trans (by rw[J.out];exact E6.out));have jm:Hid (GK (fun b=>G<=b/\b<A) w2 (.slice D rs.length cr) rs):=hid (fC.keep dL bV.out (fun b B hlt=>Da.out b (by have:=B.2;omega) hlt));have b0:Hid (bK (·<G) w2 (.slice P W.length Z) W):=hid (ZF.out.keep (fun b (B:b<G) hlt=>Da.out b aD hlt));have wQ:Hid (pK w2 g t):=hid (a4.out.keep (Da.out _ aD a4.out.lt));have GJ:Hid (∀q (h:q<t.length) (z:q<rs.length),gD w2 t[q] n (lJ W s rs[q])):=hid (fun q h z=>(aq.out q h z).keep (Da.out _ (by have:=(Cq.out _ (eV h)).1;omega) (aq.out q h z).lt));clear K bY BQ a8 J a3 a2 ab aV;obtain⟨x0,x1,x2,x3⟩:=b4z ET.out;go_wp2;clear x0 x1 x2 x3;go_loopw [22] (fun jj wr=>∃j:Nat,j<=rs.length/\jj=.int .i64 j/\Hid (Turns (·∈t) w2 wr)/\Hid (aY (fun b o=>(A<=b/\b<M)/\¬book o) A w wr)/\Hid (∀q (h:q<t.length) (z:q<rs.length),q<j->gD wr t[q] (n+1) (lJ W H rs[q]))/\Hid (∀q (h:q<t.length) (z:q<rs.length),j<=q->gD wr t[q] n (lJ W s rs[q]))) (fun jj _=>rs.length-(intOf jj).toNat);case atStart=>exact⟨0,zxa _,rfl,hid (Turns.refl _ _),vU,hid (fun q h z h3=>absurd h3 aD),hid (fun q h z _=>GJ.out q h z)⟩
 case round=>
  obtain⟨j,hj,rfl,au,a9,ba,Rl⟩:=hrel;have R:Hid (∀b,b<g+2->b<w2.heap.size->wr.heap[b]?=w2.heap[b]?):=hid (fun b h1 z=>au.out.block b (fun B=>by have:=(Cq.out b B).1;omega) z);have Fz:Hid (GK (fun b=>G<=b/\b<A) wr (.slice D rs.length cr) rs):=hid (fC.keep dL jm.out (fun b B hlt=>R.out b (by have:=B.2;omega) hlt));have Wp:Hid (wr.heap[g+1]?=some (.cells #[.slice D rs.length cr,.slice P W.length Z,.slice (some ⟨O,0,none⟩) s.length s.length,.map (some g)] 172 (0,0))):=hid ((R.out _ aD (aI ET.out)).trans ET.out);have bb:Hid (bK (·<G) wr (.slice P W.length Z) W):=hid (b0.out.keep (fun b (B:b<G) hlt=>R.out b aD hlt));have T:Hid (pK wr g t):=hid (wQ.out.keep (R.out _ aD wQ.out.lt))
  have lP:Hid (∀b∈t,b<w.heap.size):=hid (fun b B=>by
   obtain⟨q,hq,rfl⟩:=zxf B;exact(aq.out q hq (by have:=vQ.out;omega)).lt)
  have J3:Hid (wr.heap[w.heap.size]?=some (.cells #[.int .i64 (k:Int),.int .i64 (i:Int)] 177 (0,0))):=hid ((au.out.block _ (fun B=>by have:=lP.out _ B;omega) (aI sU.out)).trans sU.out);have OB:w.heap.size<wr.heap.size:=aI J3.out;by_cases hlt:j<rs.length
  ·have cC:=zN j
   have cD:=zL j rs.length
   have L:j<t.length:=Sh
   obtain⟨-,us,FA,U,TU⟩:=fC.at Fz.out hlt;obtain rfl:us=_:=TU;have y0:wr.cell? ⟨bM D,bT D+j*4,none⟩=some (.int .i64 (rs[j].kind:Int)):=U 0 _ rfl;have y1:wr.cell? ⟨bM D,bT D+j*4+1,none⟩=some (.int .i64 (rs[j].field:Int)):=U 1 _ rfl;have y2:wr.cell? ⟨bM D,bT D+j*4+2,none⟩=some (.int .i64 rs[j].up):=U 2 _ rfl;have y3:wr.cell? ⟨bM D,bT D+j*4+3,none⟩=some (.int .i64 rs[j].least):=U 3 _ rfl;have X:rs[j]∈rs:=eV hlt;obtain⟨q1,q2,q3,q4,q5,q6, -, -⟩:=DE.out _ X;have bc:=hid (xL.out _ X);have b1:Hid (∀(h:j<rs.length),rs[j]=rs[j]):=hid (fun _=>rfl);have ad:=hid (Rl.out j L hlt aL);have bd:=Cq.out _ (eV L);have be:=lP.out _ (eV L);have bf:Hid (∀q (h:q<t.length),q≠j->t[q]≠t[j]):=hid (fun q h hne e=>hne ((List.getElem_inj a7.out).1 e));obtain⟨rf,E⟩:=bJ (rs[j]);obtain⟨f,N⟩:=bJ (t[j])
   have bi:Hid (∀V,(∀q (h:q<t.length),q≠j->V.heap[t[q]]?=wr.heap[t[q]]?)->gD V f (n+1) (lJ W H rf)->
     (∀q (h:q<t.length) (z:q<rs.length),q<j+1->gD V t[q] (n+1) (lJ W H rs[q]))/\∀q (h:q<t.length) (z:q<rs.length),j+1<=q->gD V t[q] n (lJ W s rs[q])):=hid (fun V y hc=>by
    refine⟨fun q h z h3=>?_,fun q h z h3=>(Rl.out q h z aD).keep (y q h aD)⟩;by_cases e:q=j
    ·subst e
     rw[N,E] at hc;exact hc
    ·exact(ba.out q h z aD).keep (y q h e))
   have bk:Hid (∀q (h:q<t.length),q≠j->t[q]≠f):=hid (by rw[N];exact bf.out);have Jd:=T.out.look L aD;have b2:Hid (∀V:World,V.heap[g]?=wr.heap[g]?->(Instr.lookup 170 (.map (some g)) (.int .i64 (j:Int)) false).run prog V=.ok (.map (some f)) V):=hid (fun V y=>by rw[N];exact(T.out.keep y).look L aD);rw[<-E] at y0 y1 y2 y3 q1 q2 q3 q4 q5 q6 bc ad;rw[<-N] at ad bd be;have ci:=hid E;have b3:=hid N;clear U FA X E N Jd b1 bf;obtain⟨rk,u,ru,rl⟩:=rf;simp only at y0 y1 y2 y3 q1 q2 q3 q4 q5 q6;obtain⟨m,rfl⟩:∃m:Nat,ru=(m:Int):=⟨ru.toNat,aD⟩;obtain⟨w5,hw⟩:=bJ (wr.alloc (.cells #[.int .i64 (rk:Int),.int .i64 (u:Int),.int .i64 (m:Int),.int .i64 rl] 174));have qf:Hid (w5.heap[wr.heap.size]?=some (.cells #[.int .i64 (rk:Int),.int .i64 (u:Int),.int .i64 (m:Int),.int .i64 rl] 174 (0,0))):=hid ahT;have kY:Hid (Below wr.heap.size wr w5):=hid R7;have NI:Hid (Turns (·∈t) w2 w5):=hid (by rw[hw];exact au.out.alloc _);have bl:Hid (aY (fun b o=>(A<=b/\b<M)/\¬book o) A w w5):=hid (by rw[hw];exact a9.out.alloc Nf _);have I8:Hid (gD w5 f n (lJ W s ⟨rk,u,(m:Int),rl⟩)):=hid (ad.out.keep (kY.out.block _ ad.out.lt));have cF:wr.heap.size<w5.heap.size:=aI qf.out;have EU:=hid hw;clear hw;go_upto_region 5 with fail;rw[<-EU.out];clear y0 y1 y2 y3;obtain⟨y0,y1,y2,y3⟩:=b4z qf.out;obtain⟨⟨a0,a1⟩, -⟩:=pV ((kY.out.block _ OB).trans J3.out);by_cases bm:rk=k
   ·subst bm
    have J2:Hid (∀V,Turns (·=f) w5 V->aH (·<G) w5 V):=hid (fun V y b (B:b<G) hlt=>y.block b (show ¬b=f by omega) hlt);obtain⟨uk,ZQ,Ye⟩:=(bb.out.keep (w':=w5) (fun b (B:b<G) hlt=>kY.out.block b hlt)).vG hk;obtain⟨ua,uc,rfl,cG, -, -⟩:=ZQ.form;obtain⟨ui,ZR,bn⟩:=ZQ.vG hi;obtain⟨ia,ic,rfl,cH, -, -⟩:=ZR.form;have Ul:u<W[rk][i].length:=by rw[FD.out rk hk _ (eV hi)];exact q2
    obtain⟨uv,bo,bp⟩:=ZR.vG Ul;obtain rfl:uv=_:=bo;have I:bU.wM W rk i u=W[rk][i][u]:=O6 hk hi Ul
    have Uj:Hid (vH (W[rk][i][u])):=hid (by
     have h1:0<=bU.wM W rk i u/\bU.wM W rk i u<aC.gK W (m:Int):=bc.out i hk hi
     rw[I] at h1
     have z:=LK W (m:Int)
     exact⟨aD,aD⟩)
    have Ui:Hid (vH (m:Int)):=hid ⟨aD,aD⟩;have ab:=hid (fun V (y:Turns (·=f) w5 V)=>Ye V (J2.out V y));have b4:=hid (fun V (y:Turns (·=f) w5 V)=>bn V (J2.out V y));have b5:=hid (fun V (y:Turns (·=f) w5 V)=>bp V (J2.out V y))
    have av:Hid (lJ W H ⟨rk,u,(m:Int),rl⟩=FC (lJ W s ⟨rk,u,(m:Int),rl⟩) (m:Int) (W[rk][i][u]) (lJ W s ⟨rk,u,(m:Int),rl⟩ (m:Int) (W[rk][i][u])-1)):=hid (by
     rw[a5.out,FE (r:=⟨rk,u,(m:Int),rl⟩) rfl (by rw[Sub.bh hk];exact hi) vE.out,I])
    have cI:=zN u
    have cJ:(u:Int)<(W[rk][i].length:Int):=aD
    have Y:0<=lJ W s ⟨rk,u,(m:Int),rl⟩ (m:Int) (W[rk][i][u])/\lJ W s ⟨rk,u,(m:Int),rl⟩ (m:Int) (W[rk][i][u])<=(W.getD rk []).length:=DI _ _ _ _ _ _;rw[Sub.bh hk] at Y;have b6:=Uh.out rk hk;obtain⟨F,hF⟩:=bJ (lJ W s ⟨rk,u,(m:Int),rl⟩);rw[<-hF] at Y av I8;clear hF ZQ Ye ZR bn bp I;generalize W[rk][i][u]=v at*;clear Ul;generalize W[rk][i].length=ln at*;obtain⟨fc,ax⟩:=bJ (F (m:Int) v);rw[<-ax] at av Y;have cK:=Y.1;have cL:fc<=512:=aD
    have b7:=hid ax;have br:¬g+1=f:=aD
    have Pc:¬wr.heap.size=f:=aD
    have bt:¬w.heap.size=f:=aD
    have bu:¬g=f:=aD
    have ae:Hid (w5.heap[g+1]?=some (.cells #[.slice D rs.length cr,.slice P W.length Z,.slice (some ⟨O,0,none⟩) s.length s.length,.map (some g)] 172 (0,0))):=hid ((kY.out.block _ (aI Wp.out)).trans Wp.out);have af:Hid (w5.heap[w.heap.size]?=some (.cells #[.int .i64 (rk:Int),.int .i64 (i:Int)] 177 (0,0))):=hid ((kY.out.block _ OB).trans J3.out);have Zq:Hid (∀V,Turns (·=f) w5 V->V.heap[g]?=wr.heap[g]?):=hid (fun V y=>(y.block g bu (by have:=T.out.lt;omega)).trans (kY.out.block _ T.out.lt));clear Y ax;go_upto_region 6 with fail;clear y0 y1 y2 y3 a0 a1;have b8:∀d:Held (fun V=>Turns (·=f) w5 V/\gD V f (n+1) F),d.1.cell? ⟨g+1,1,none⟩=some (.slice P W.length Z):=fun d=>(bF ((d.2.1.block _ br (aI ae.out)).trans ae.out)).1.2.1;have b9:∀d:Held (fun V=>Turns (·=f) w5 V/\gD V f (n+1) F),d.1.cell? ⟨g+1,3,none⟩=some (.map (some g)):=fun d=>(bF ((d.2.1.block _ br (aI ae.out)).trans ae.out)).1.2.2.2;have ca:∀d:Held (fun V=>Turns (·=f) w5 V/\gD V f (n+1) F),d.1.cell? ⟨wr.heap.size,1,none⟩=some (.int .i64 (u:Int)):=fun d=>(bF ((d.2.1.block _ Pc (aI qf.out)).trans qf.out)).1.2.1;have cb:∀d:Held (fun V=>Turns (·=f) w5 V/\gD V f (n+1) F),d.1.cell? ⟨wr.heap.size,2,none⟩=some (.int .i64 (m:Int)):=fun d=>(bF ((d.2.1.block _ Pc (aI qf.out)).trans qf.out)).1.2.2.1;have ZN:∀d:Held (fun V=>Turns (·=f) w5 V/\gD V f (n+1) F),d.1.cell? ⟨w.heap.size,0,none⟩=some (.int .i64 (rk:Int)):=fun d=>(pV ((d.2.1.block _ bt (aI af.out)).trans af.out)).1.1;have ZO:∀d:Held (fun V=>Turns (·=f) w5 V/\gD V f (n+1) F),d.1.cell? ⟨w.heap.size,1,none⟩=some (.int .i64 (i:Int)):=fun d=>(pV ((d.2.1.block _ bt (aI af.out)).trans af.out)).1.2;have bv:∀d:Held (fun V=>Turns (·=f) w5 V/\gD V f (n+1) F),d.1.cell? ⟨bM P,bT P+rk,none⟩=some (.slice ua W[rk].length uc):=fun d=>ab.out d.1 d.2.1;have bw:∀d:Held (fun V=>Turns (·=f) w5 V/\gD V f (n+1) F),d.1.cell? ⟨bM ua,bT ua+i,none⟩=some (.slice ia ln ic):=fun d=>b4.out d.1 d.2.1;have bx:∀d:Held (fun V=>Turns (·=f) w5 V/\gD V f (n+1) F),d.1.cell? ⟨bM ia,bT ia+u,none⟩=some (.int .i64 v):=fun d=>b5.out d.1 d.2.1;have cc:∀d:Held (fun V=>Turns (·=f) w5 V/\gD V f (n+1) F),(Instr.lookup 170 (.map (some g)) (.int .i64 (j:Int)) false).run prog d.1=.ok (.map (some f)) d.1:=fun d=>b2.out d.1 (Zq.out d.1 d.2.1)
    have cd:∀d:Held (fun V=>Turns (·=f) w5 V/\gD V f (n+1) F),(Instr.lookup 175 (.map (some f)) (.agg #[.int .i64 (m:Int),.int .i64 v]) false).run prog d.1=.ok (.int .i64 fc) d.1:=fun d=>by
     rw[b7.out];exact d.2.2.look Ui.out Uj.out
    refine bq 29 (.quiet 0 (.quiet 1 (.quiet 2 (.quiet 3 (.quiet 4 (.quiet 5 (.quiet 6 (.quiet 7 (.quiet 8 (.quiet 9 (.quiet 10 (.quiet 11 (.quiet 12 (.quiet 13 (.quiet 14 (.quiet 15 (.quiet 16 (.quiet 17 (.quiet 18 (.quiet 19 (.quiet 20 (.quiet 21 (.quiet 22 (.quiet 23 (.quiet 24 (.quiet 25 (.quiet 26 (.one 27 (.quiet 28 .done))))))))))))))))))))))))))))) (fun V=>Turns (·=f) w5 V/\gD V f (n+1) F) nK zK ⟨Turns.bg (aJ aG 1),I8.out.mono aD⟩ ?_;have JW:Hid (Turns (·=f) w5 (w5.drewN 1)):=hid (Turns.bg (aJ aG 1));have wR:Hid (gD (w5.drewN 1) f n F):=hid (I8.out.keep rfl);generalize w5.drewN 1=w8 at*;obtain⟨v0,st,w9,ce,bz,Pb,bA⟩:=wR.out.entry aD Ui.out Uj.out;unfold vG at ce;have bB:vH (fc-1):=⟨aD,aD⟩;obtain⟨mL,ZG,ZH,ZI⟩:=bA w9 (fc-1) bB rfl;have cM:(Instr.entryStore 175 (.map (some f)) (.int .i64 (st:Int)) (.int .i64 (fc-1))).run prog w9=.ok () mL:=ZG;have Wm:Hid (Turns (·=f) w5 w9):=hid (JW.out.trans Pb);have Fx:=hid bz;have O9:Hid (Turns (·=f) w5 mL):=hid (Wm.out.trans ZI);have vR:Hid (gD mL f (n+1) (lJ W H ⟨rk,u,(m:Int),rl⟩)):=hid (by rw[av.out];exact ZH);clear bz Pb bA ZH ZI bB ZG
    iterate 27 refine gF ?_
    refine aZ rfl ?_;go_wp2_with fail;refine aN (fun V=>Turns (·=f) w5 V/\gD V f (n+1) F) (fun _ h=>h) ⟨Wm.out,Fx.out⟩ ?_;refine gF ?_;refine bG ?_;try simp only[jW,jH]
    clear b8 b9 ca cb ZN ZO bv bw bx cc cd;have cf:Hid (Turns (·∈t) w2 mL):=hid (NI.out.trans (O9.out.mono (fun b _ (e:b=f)=>by rw[e,b3.out];exact eV L)))
    have cg:Hid (aY (fun b o=>(A<=b/\b<M)/\¬book o) A w mL):=hid (bl.out.trans (aY.eX O9.out aD (fun b (e:b=f)=>by omega) (fun b o (e:b=f) ho=>by
     subst e;exact⟨⟨aD,bd.2⟩,I8.out.obj ho⟩)))
    have Je:=hid (bi.out mL (fun q h hne=>(O9.out.block _ (bk.out q h hne) Kg).trans (kY.out.block _ Kg)) vR.out);go_wp2;go_roundw;case rel=>exact⟨j+1,aD,zG,cf,cg,hid Je.out.1,hid Je.out.2⟩
    exact zI
   ·have cN:¬(rk:Int)=(k:Int):=by omega
    have Je:=hid (bi.out w5 (fun q h hne=>kY.out.block _ Kg) (by
     rw[a5.out,Jc (r:=⟨rk,u,(m:Int),rl⟩) bm]
     exact I8.out.mono aD))
    go_wp2;go_roundw;case rel=>exact⟨j+1,aD,zG,NI,bl,hid Je.out.1,hid Je.out.2⟩
    exact zI
  ·obtain rfl:rs.length=j:=by omega
   have HF:Hid (DN G A g M (n+1) rs W H wr):=hid ⟨bH,ZK,aO,⟨D,cr,P,Z,O,by rw[a6.out];exact Wp.out,Fz.out,bb.out,gB.keep bZ.out (fun b B hlt=>R.out b (by have:=B.2;omega) hlt)⟩,
    ⟨t,T.out,vQ.out,a7.out,Cq.out,fun q h z=>ba.out q h z z⟩⟩
   go_wp2;go_end0;exact⟨⟨_,rfl⟩,HF.out,a9.out⟩
namespace Sub
def pM(W:S->Nat->Nat->Bool):List (Nat×Nat)->S->Bool
 |[],_=>false
 |x::l,s=>W s x.1 x.2||pM W l (if W s x.1 x.2 then drop s x.1 x.2 else s)
theorem GX(W:S->Nat->Nat->Bool)(x:Nat×Nat):∀(l:List (Nat×Nat)) (s:S),pass W (l++[x]) s=if W (pass W l s) x.1 x.2 then drop (pass W l s) x.1 x.2 else pass W l s
 |[],s=>rfl
 |y::l,s=>by
  show pass W (l++[x]) _=_
  rw[GX W x l];rfl
theorem DP(W:S->Nat->Nat->Bool)(x:Nat×Nat):∀(l:List (Nat×Nat)) (s:S),pM W (l++[x]) s=(pM W l s||W (pass W l s) x.1 x.2)
 |[],s=>by simp[pM,pass]
 |y::l,s=>by
  show (W s y.1 y.2||pM W (l++[x]) _)=_
  rw[DP W x l,<-Bool.or_assoc];rfl
theorem LL{W:S->Nat->Nat->Bool}:∀{l:List (Nat×Nat)} {s:S},pM W l s=false->pass W l s=s
 |[],_,_=>rfl
 |x::l,s,h=>by
  unfold pM at h;rw[Bool.or_eq_false_iff] at h;obtain⟨b,a⟩:=h;unfold pass;rw[b] at a ⊢;exact LL a
theorem GY{W:S->Nat->Nat->Bool}:∀{l:List (Nat×Nat)} {s:S},(∀x∈l,keeps s x.1 x.2=true)->pM W l s=true->pass W l s≠s
 |[],_,_,h=>by cases h
 |x::l,s,hk,h=>by
  intro e;unfold pM at h;unfold pass at e;cases hw:W s x.1 x.2
  ·rw[hw] at h e
   exact GY (fun y b=>hk y (by simp[b])) Fa e
  ·rw[hw] at e
   have a:=rY (W:=W) l (drop s x.1 x.2);rw[if_pos rfl] at e;rw[e] at a;have:=a x.1 x.2 (hk x bH);rw[o9] at this;simp at this
theorem DQ{W:S->Nat->Nat->Bool}{k i:Nat}:∀{l:List (Nat×Nat)} {s:S},(k,i)∉l->keeps s k i=true->keeps (pass W l s) k i=true
 |[],_,_,h=>h
 |x::l,s,hn,h=>by
  unfold pass;refine DQ (fun a=>hn (by simp[a])) ?_;split
  ·rw[o9,h]
   have:¬(k=x.1/\i=x.2):=fun e=>hn (by rw[e.1,e.2];simp);simp only[Bool.true_and,Bool.not_eq_true',Bool.and_eq_false_iff,decide_eq_false_iff_not];omega
  ·exact h
theorem size_drop{s:S}{k i:Nat}(h:keeps s k i=true):size (drop s k i)<size s:=Rg (Rf s k i) h (by rw[o9];simp)
end Sub
theorem Pf{W:aC.dw}{t:Sub.S}(h:Sub.Fit (bU.shape W) t):Sub.size t<=aC.total W:=by
 unfold Sub.size Sub.kept;rw[List.length_flatMap,bU.LG];have b:t.length=W.length:=by have:=h.1;rw[bU.Am] at this;exact this
 rw[b];refine bU.LD fun k _=>?_;have a:=h.2 k;rw[bU.xP] at a;rw[<-a];unfold Sub.IV;exact zxb (List.length_filterMap_le _ _) bH
attribute [local go_sem] Oper.semAt_some
theorem ZS(N:Nat)(t:Array Value)(h:t.size=N):∃u:Nat->Value,t=((List.range N).map u).toArray:=by
 refine⟨fun i=>t.getD i undef,?_⟩;apply Array.ext
 ·simp[h]
 ·intro i a b
  simp at b;simp[Array.getD,a]
theorem acu:List.range 24=[0,1,2,3,4,5,6,7,8,9,10,11,12,13,14,15,16,17,18,19,20,21,22,23]:=iG
structure GrI(B0 B1 B2 M N w0 bt:Nat)(rs:List bU.Ref)(W:aC.dw)(s0 s:Sub.S)(bb:Bool)(ds:List Deferred)(w X:World):Prop where
 lt:w0<bt
 fit:Sub.Fit (bU.shape W) s
 size:Sub.size s<=Sub.size s0
 same:Sub.great (bU.wrong rs W) s=Sub.great (bU.wrong rs W) s0
 done:bb=false->Sub.great (bU.wrong rs W) s=s
 st:DN B0 B1 B2 M (N-Sub.size s) rs W s X
 ptr:X.heap[w0]?=some (.cells #[.pointer (some ⟨B2+1,0,none⟩)] 118 (0,0))
 again:X.heap[bt]?=some (.cells #[.bool bb] 4 (0,0))
 below:Below B1 w X
 marks:Marks w0 X.heap.size ds X
theorem Jf(x:aC.cE)(W:aC.dw)(s:Sub.S)(ai:bU.jE x W)(O:Sub.Fit (bU.shape W) s)(H m C M n:Nat)(hn:n<=1000)(w:World)(hM:M<=w.heap.size)(h:DN H m C M n (bU.fS x) W s w):
  CP 61 #[.pointer (some ⟨C+1,0,none⟩)] w fun e T=>∃g,e=.returned (.slice (some ⟨g,0,none⟩) W.length W.length)/\pu (fun b=>m<=b/\b<C) T (.slice (some ⟨g,0,none⟩) W.length W.length) (Sub.great (bU.wrong (bU.fS x) W) s)/\Below m w T:=by
 have wK:=ai.tot;have ae:=hid ai
 have a7:∀t:Sub.S,Sub.Fit (bU.shape W) t->Sub.size t<=512:=fun t Z=>by
  have:=Pf Z;omega
 obtain⟨rs,aj⟩:=bJ (bU.fS x);rw[<-aj] at h ⊢;have ZK:m<=w.heap.size:=by have:=h.b12;have:=h.b2m;omega
 have bs:=h.b2m;have a8:=h.b12;obtain⟨w1,hw1⟩:=bJ ((w.alloc (.cells #[.pointer (some ⟨C+1,0,none⟩)] 118)).alloc (.cells #[.bool true] 4));have ak:BL w w1:=Qw
 obtain⟨N,hN⟩:=bJ (n+Sub.size s);have aA:=a7 s O
 have H0:Hid (GrI H m C M N w.heap.size (w.heap.size+1) rs W s s true [] w w1):=hid {
  lt:=aD
  fit:=O
  size:=aL
  same:=rfl
  done:=fun h=>by cases h
  st:=(h.zb (fun b E q=>ak.block b q)).mono aD
  ptr:=by rw[hw1];exact cC _ (bD _ _ rfl)
  again:=Kj
  below:=ak.mono ZK
  marks:=Marks.nil _ _ _}
 have bu:N<=1512:=aD
 have bv:Sub.size s<=N:=aD
 have a9:=hid hw1;have Rl:=hid aj;have pW:=hid O;clear h O hw1 ak ai hN aA aj;refine(callsIn_wide (n:=5)).1 ?_;refine callsIn_of_wp_marks func61 rfl trivial ?_ rfl;simp only[ntmps61,List.size_toArray,zxg,List.length_nil,Nat.reduceAdd,Nat.reduceSub,Array.replicate_succ,Array.replicate_zero,List.push_toArray,List.append_toArray,List.nil_append,List.cons_append];rw[wpIn_wide];go_wp2;rw[<-a9.out];refine wp_loop_ghost_k (fun kk a X=>a.tmps.size=24/\a.tmps.getD 1 undef=.pointer (some ⟨w.heap.size,0,none⟩)/\∃(bt:Nat) (bb:Bool) (f:Sub.S),a.tmps.getD 3 undef=.pointer (some ⟨bt,0,none⟩)/\kk=(if bb=true then Sub.size f+1 else 0)/\GrI H m C M N w.heap.size bt rs W s f bb a.defers w X) (Sub.size s+1) ?h0 ?agP;case h0=>exact⟨rfl,rfl,w.heap.size+1,true,s,rfl,rfl,H0.out⟩
 case agP=>
  rintro kk ⟨t,ds⟩ X ⟨aB,h1,bt,bb,f,h3,ba,hG⟩ J K hJ hK;obtain⟨uu,rfl⟩:=ZS 24 t aB;simp only[acu,zxt,List.map_nil] at h1 h3 ⊢;rw[show uu 1=_ from h1,show uu 3=_ from h3];have u:=hid hG;have HJ:=hid hJ;have HK:=hid hK;clear h1 h3 aB hG;have c3:=(one_cell u.out.again).1;have bc:=(one_cell u.out.again).2;have c1:=(one_cell u.out.ptr).1;obtain⟨ar,cr,aw,cw,gs,za, -, -,Q⟩:=u.out.st.box;have aE:f.length=W.length:=by have:=u.out.fit.1;rw[bU.Am] at this;exact this
  have ZE:=hid aE;clear aE;cases bb with
  |false=>
   obtain⟨x0,x1,x2,x3⟩:=b4z za
   have aF:Hid (∀T,aY (cD w.heap.size) w.heap.size X T->pu (fun b=>m<=b/\b<C) T (.slice (some ⟨gs,0,none⟩) W.length W.length) (Sub.great (bU.wrong rs W) s)/\Below m w T):=hid (fun T Z=>⟨by
    rw[<-u.out.same,u.out.done rfl,<-ZE.out]
    exact gB.keep Q (aH.bg Z.1 (fun b E=>by have:=E.2;omega)),u.out.below.trans (Z.1.mono ZK)⟩)
   clear za Q HJ HK
   go_wp2
   refine sA (v:=.slice (some ⟨gs,0,none⟩) f.length f.length) u.out.marks (fun T Z=>⟨?_,?_⟩)
   ·simp[results,results61,go_sem]
   ·obtain⟨k1,k2⟩:=aF.out T Z
    exact⟨gs,by rw[ZE.out],k1,k2⟩
  |true=>
   obtain⟨U,R⟩:=bJ (X.setCell ⟨bt,0,none⟩ (.bool false))
   have wI:Hid (aY (fun b o=>b=bt/\¬book o) m X U):=hid (by
    rw[R]
    exact(aY.refl _ _ _).setCell (p:=⟨bt,0,none⟩) u.out.again ⟨rfl,WV⟩ (by have:=u.out.lt;show m<=bt;omega) _)
   have vf:Hid (DN H m C M (N-Sub.size f) rs W f U):=hid (by
    rw[R]
    exact u.out.st.zb (fun b (E:b<M) q=>mO _ _ _ _ (by have:=u.out.lt;show b≠bt;omega)))
   have Um:Hid (U.heap[w.heap.size]?=some (.cells #[.pointer (some ⟨C+1,0,none⟩)] 118 (0,0))):=hid (by
    rw[R]
    exact(mO _ _ _ _ (by have:=u.out.lt;show w.heap.size≠bt;omega)).trans u.out.ptr)
   have E6:Hid (U.heap[bt]?=some (.cells #[.bool false] 4 (0,0))):=hid (by rw[R];exact one_set _ u.out.again)
   have bx:bt<U.heap.size:=aI E6.out
   have bz:w.heap.size<bt:=u.out.lt
   have bd:=hid R
   clear R za Q
   obtain⟨ar,cr,aw,cw,bA,za, -, -,Q⟩:=vf.out.box
   have aJ:=hid (Bl f (by rw[ZE.out,ae.out.len];have:=ae.out.ah;omega) (fun r hr=>by
    obtain⟨j,hj,rfl⟩:=zxf hr;have h2:=u.out.fit.2 j;rw[Sub.bh hj,bU.xP] at h2;have h3:j<W.length:=by rw[<-ZE.out];exact hj
    unfold bU.dm at h2;rw[Sub.bh h3] at h2;have:=gq h3;omega) _ _ U (pu.sl Q))
   go_upto_region 4 with fail
   rw[<-bd.out]
   clear c1 c3 bc
   have c1:=(one_cell Um.out).1
   obtain⟨x0,x1,x2,x3⟩:=b4z za
   clear za Q
   go_wp2_with fail
   refine aJ.out.mono ?_
   rintro e X2 ⟨g2,rfl,aK,aM⟩
   have cH:=hid aM
   have be:=hid (gB.mono (S':=fun b=>U.heap.size<=b/\b<X2.heap.size) aK (fun b q E=>⟨E,q⟩))
   clear aK aM aJ x0 x1 x2 x3 c1
   go_wp2_with fail
   refine(LJ _ _ _ _).mono ?_
   rintro e z ⟨rfl,al⟩
   have I:BL X2 z:=by rw[al];exact aG.alloc aL _
   have am:z.heap[X2.heap.size]?=some (.cells #[.slice (some ⟨g2,0,none⟩) f.length f.length] 70 (0,0)):=by rw[al];exact bD _ _ rfl
   have bf:=cH.out.size
   have vW:=aI am
   have P:Hid (BL U z):=hid (cH.out.trans (I.mono bf))
   have aN:Hid (nU (fun b=>U.heap.size<=b/\b<X2.heap.size) z (.slice (some ⟨g2,0,none⟩) f.length f.length) f):=hid (pu.sl (gB.keep be.out (aH.bg I (fun b E=>E.2))))
   have Pg:Hid (yY (α:=Nat×Nat) prog m z.heap.size 156 #[.pointer (some ⟨X2.heap.size,0,none⟩)] (fun x=> #[.agg #[.int .i64 (x.1:Int),.int .i64 (x.2:Int)]]) (fun pre x _=>pre++[x]<+:Sub.kept f) (fun b o=>((m<=b/\b<M)\/b=bt)/\¬book o) (fun _ _=>False) (fun xs _=>xs=Sub.kept f) z):=
    hid (GW f m z.heap.size X2.heap.size _ (fun b=>U.heap.size<=b/\b<X2.heap.size) _ z aD aN.out am (fun o h=>by rcases h.1 with h|h<;>omega) (fun Y Z b E q=>by
     have ho:z.heap[b]?=some z.heap[b]:=zxi q;rw[ho];refine Z.2 b _ ho ?_;rintro (h|h)
     ·rcases h.1 with h|h<;>omega
     ·have:=h.1;omega))
   have rV:Hid (∀b o,U.heap[b]?=some o->z.heap[b]?=some o):=hid (fun b o h=>(P.out.block b (aI h)).trans h)
   have bi:Hid (DN H m C M (N-Sub.size f) rs W f z):=hid (vf.out.zb (fun b E q=>P.out.block b q))
   clear al I am
   go_wp2
   rw[<-wpIn_wide (n:=5)]
   refine uI (α:=Nat×Nat) (n0:=m) (gf:=156) rfl (cF func156 zK rfl) (fun _=>rfl) Pg.out aD (fun _ _ h=>h.elim) (fun _ _ h=>h.2)
    (fun pre Y=>aY (fun b o=>(((m<=b/\b<M)\/b=bt)/\¬book o)\/cD z.heap.size b o) m z Y/\DN H m C M (N-Sub.size (Sub.pass (bU.wrong rs W) pre f)) rs W (Sub.pass (bU.wrong rs W) pre f) Y/\
     Y.heap[bt]?=some (.cells #[.bool (Sub.pM (bU.wrong rs W) pre f)] 4 (0,0))) (fun _ _=>False)
    (fun pre A B h Z=> ?hI) (fun _ _ _ h _=>h) (fun _ _ _ h _=>h) ?hstart ?jB ?hdone ?hstop
   case hI=>
    have aO:=Z.mono (A':=cD z.heap.size) (fun b o h=>h.elim False.elim id);exact⟨h.1.trans (Z.mono (fun b o h=>h.elim False.elim .inr)),h.2.1.zb (aO.ajD (fun b o E ho=>by have:=ho.1;omega)),aO.2 _ _ h.2.2 (by simp[cD,book])⟩
   case hstart=>exact⟨aY.refl _ _ _,bi.out,rV.out _ _ E6.out⟩
   case jB=>
    rintro l pre y Y bB hI an;obtain⟨k,i⟩:=y;simp only[List.zip_toArray,List.zip_cons_cons,List.zip_nil_left];have bj:=hI.1.1.size;gi_wp2;refine⟨(aY.refl _ _ _).alloc aD _,fun Y2 aa bk bC=>?_⟩;obtain⟨c,d⟩:=bJ (Sub.pass (bU.wrong rs W) pre f);obtain⟨pb,G⟩:=bJ (Sub.pM (bU.wrong rs W) pre f);obtain⟨F,uX,Ca⟩:=hI;rw[<-d] at uX;rw[<-G] at Ca;have Da:Hid (∀b o,Y.heap[b]?=some o->¬book o->Y2.heap[b]?=some o):=hid (fun b o h E=>aa.2 _ _ (cC _ h) (fun h2=>E h2.2));have Nn:Hid (Y2.heap[Y.heap.size]?=some (.cells #[.int .i64 (k:Int),.int .i64 (i:Int)] 177 (0,0))):=hid (aa.2 _ _ (bD _ _ rfl) (by simp[cD,book]))
    have ao:Hid (DN H m C M (N-Sub.size c) rs W c Y2):=hid (uX.zb (fun b (E:b<M) q=>by
     have e1:(Y.alloc (.cells #[.int .i64 (k:Int),.int .i64 (i:Int)] 177)).heap[b]?=Y.heap[b]?:=((Below.refl Y.heap.size Y).alloc aL _).block b q;have ho:Y.heap[b]?=some Y.heap[b]:=zxi q;rw[ho] at e1 ⊢;exact aa.2 _ _ e1 (fun h2=>by have:=h2.1;omega)))
    have ap:Hid (Y2.heap[w.heap.size]?=some (.cells #[.pointer (some ⟨C+1,0,none⟩)] 118 (0,0))):=hid (Da.out _ _ (F.2 _ _ (rV.out _ _ Um.out) (by
     rintro (h|h)
     ·rcases h.1 with h|h<;>omega
     ·exact h.2)) WV)
    have aq:Hid (Y2.heap[bt]?=some (.cells #[.bool pb] 4 (0,0))):=hid (Da.out _ _ Ca WV);have af:(k,i)∈Sub.kept f:=an.subset bH;have au:=Sub.nA.1 af;obtain⟨iy,ox⟩:=bU.agC u.out.fit au;have aP:i<W[k].length:=by unfold bU.dm at ox;rwa [Sub.bh iy] at ox
    have aQ:(pre++[(k,i)]).Nodup:=an.sublist.nodup (Sub.xH f);have ag:(k,i)∉pre:=fun h=>(List.nodup_append.1 aQ).2.2 _ h (k,i) bH rfl;have av:Sub.keeps c k i=true:=by rw[d];exact Sub.DQ ag au
    have aR:Sub.Fit (bU.shape W) c:=by rw[d];exact Sub.qR _ u.out.fit
    have bl:Sub.size c<=Sub.size f:=by rw[d];exact Sub.size_le (Sub.rY _ _)
    have ax:W.map List.length=c.map List.length:=(bU.Ry aR).symm
    have bm:Hid (CB 109 #[.pointer (some ⟨C+1,0,none⟩),.agg #[.int .i64 (k:Int),.int .i64 (i:Int)]] Y2 (.bool (bU.wrong rs W c k i))):=hid (by
     have:=Uk x W c ae.out ax H m C (N-Sub.size c) k i iy aP Y2 (by rw[<-Rl.out];exact ao.out.toV)
     rw[<-Rl.out] at this
     exact this)
    have bn:Hid (∀V,DN H m C M (N-Sub.size c) rs W c V->CP 110 #[.pointer (some ⟨C+1,0,none⟩),.agg #[.int .i64 (k:Int),.int .i64 (i:Int)]] V fun e T=>(∃v,e=.returned v)/\DN H m C M (N-Sub.size c+1) rs W (Sub.drop c k i) T/\aY (fun b o=>(m<=b/\b<M)/\¬book o) m V T):=hid (fun V hV=>by
     have:=ZP x W c ae.out ax H m C M (N-Sub.size c) aD k i iy aP av V (by rw[<-Rl.out];exact hV);rw[<-Rl.out] at this;exact this)
    have Wr:Hid (Sub.pass (bU.wrong rs W) (pre++[(k,i)]) f=if bU.wrong rs W c k i then Sub.drop c k i else c):=hid (by rw[Sub.GX,d]);have BU:Hid (Sub.pM (bU.wrong rs W) (pre++[(k,i)]) f=(pb||bU.wrong rs W c k i)):=hid (by rw[Sub.DP,d,G]);have bE:=Sub.size_drop av;have aA:=u.out.size;have aS:Hid (aY (fun b o=>(((m<=b/\b<M)\/b=bt)/\¬book o)\/cD z.heap.size b o) m z Y2):=hid ((F.alloc aD _).trans (aa.mono (fun b o h=>.inr h)));have OC:=aI Nn.out;have aT:=aI ap.out;have aU:=aI aq.out;have c1:=(one_cell ap.out).1;obtain⟨⟨a0,a1⟩, -⟩:=pV Nn.out;have bF:Sub.size c<=N:=aD
    clear F uX Ca d G af au ox aQ ag av aR bl ax bk aa an;gi_wp2_with fail;refine⟨trivial,rfl,jF.2 (bm.out.mono ?_)⟩;rintro e Y3 ⟨rfl,I⟩;have P:=hid I;have vW:=I.size;clear c1 a0 a1 I;generalize bU.wrong rs W c k i=bw at*;cases bw with
    |false=>
     have HQ:Hid (QS (fun b o=>((m<=b/\b<M)\/b=bt)/\¬book o) m (fun pre Y=>aY (fun b o=>(((m<=b/\b<M)\/b=bt)/\¬book o)\/cD z.heap.size b o) m z Y/\DN H m C M (N-Sub.size (Sub.pass (bU.wrong rs W) pre f)) rs W (Sub.pass (bU.wrong rs W) pre f) Y/\
       Y.heap[bt]?=some (.cells #[.bool (Sub.pM (bU.wrong rs W) pre f)] 4 (0,0))) (fun(_:List (Nat×Nat)) _=>False) (pre++[(k,i)]) Y2 .normal {tmps:=#[],defers:=[]} Y3):=hid (by
      refine⟨aY.bg P.out aD,aS.out.trans (aY.bg P.out aD),?_,?_⟩
      ·rw[Wr.out]
       exact ao.out.zb (fun b E q=>P.out.block b q)
      ·rw[BU.out,Bool.or_false]
       exact(P.out.block _ aU).trans aq.out)
     clear Wr BU
     gi_wp2
     exact HQ.out
    |true=>
     have aV:DN H m C M (N-Sub.size c) rs W c Y3:=ao.out.zb (fun b E q=>P.out.block b q)
     have bo:=hid (bn.out Y3 aV)
     have c1:=(one_cell ((P.out.block _ aT).trans ap.out)).1
     obtain⟨⟨a0,a1⟩, -⟩:=pV ((P.out.block _ OC).trans Nn.out)
     clear aV
     gi_wp2_with fail
     refine⟨trivial,rfl,jF.2 (bo.out.mono ?_)⟩
     rintro e Y4 ⟨⟨v4,rfl⟩,aW,tT⟩
     have DM:Hid (Y4.heap[bt]?=some (.cells #[.bool pb] 4 (0,0))):=hid (tT.2 _ _ ((P.out.block _ aU).trans aq.out) (fun h=>by have:=h.1;omega))
     have bG:=(one_cell DM.out).1
     have bI:=(one_cell DM.out).2
     have HQ:Hid (QS (fun b o=>((m<=b/\b<M)\/b=bt)/\¬book o) m (fun pre Y=>aY (fun b o=>(((m<=b/\b<M)\/b=bt)/\¬book o)\/cD z.heap.size b o) m z Y/\DN H m C M (N-Sub.size (Sub.pass (bU.wrong rs W) pre f)) rs W (Sub.pass (bU.wrong rs W) pre f) Y/\
       Y.heap[bt]?=some (.cells #[.bool (Sub.pM (bU.wrong rs W) pre f)] 4 (0,0))) (fun(_:List (Nat×Nat)) _=>False) (pre++[(k,i)]) Y2 .normal {tmps:=#[],defers:=[]} (Y4.setCell ⟨bt,0,none⟩ (.bool true))):=hid (by
      have aX:aY (fun b o=>((m<=b/\b<M)\/b=bt)/\¬book o) m Y2 (Y4.setCell ⟨bt,0,none⟩ (.bool true)):=
       aY.setCell (p:=⟨bt,0,none⟩) ((aY.bg P.out aD).trans (tT.mono (fun b o h=>⟨.inl h.1,h.2⟩))) DM.out ⟨.inr rfl,WV⟩ (by show m<=bt;omega) _
      refine⟨aX,aS.out.trans (aX.mono (fun b o h=>.inl h)),?_,?_⟩
      ·rw[Wr.out]
       simp only[if_true];exact(aW.mono aD).zb (fun b (E:b<M) q=>mO _ _ _ _ (show b≠bt by omega))
      ·rw[BU.out,Bool.or_true]
       exact one_set _ DM.out)
     clear Wr BU aW tT c1 a0 a1
     gi_wp2
     exact HQ.out
   case hdone=>
    rintro D xs Y hD rfl hI hk;obtain⟨F,uX,Ca⟩:=hI;have bj:=F.1.size;obtain⟨c,d⟩:=bJ (Sub.pass (bU.wrong rs W) (Sub.kept f) f);obtain⟨pb,G⟩:=bJ (Sub.pM (bU.wrong rs W) (Sub.kept f) f);rw[<-d] at uX;rw[<-G] at Ca;have aZ:∀x∈Sub.kept f,Sub.keeps f x.1 x.2=true:=fun x hx=>by obtain⟨a,b⟩:=x;exact Sub.nA.1 hx
    have ab:=Sub.Oc (W:=bU.wrong rs W) u.out.fit;rw[<-d] at ab;have bp:Sub.size c<=Sub.size f:=by rw[d];exact Sub.size_le (Sub.rY _ _)
    have a2:pb=true->c≠f:=fun h=>by rw[d];exact Sub.GY aZ (G.symm.trans h)
    have a3:pb=false->c=f:=fun h=>by rw[d];exact Sub.LL (G.symm.trans h)
    have ad:pb=true->Sub.size c<Sub.size f:=fun h=>by
     have:=a2 h;rw[d] at this ⊢;exact Sub.Ae u.out.fit this
    have a4:Sub.great (bU.wrong rs W) c=Sub.great (bU.wrong rs W) f:=by
     by_cases e:c=f
     ·rw[e]
     ·rw[ab,if_neg e]
    obtain⟨Y1,ay⟩:=bJ (Y.alloc (.cells #[.bool pb] 4));have L:BL Y Y1:=by rw[ay];exact aG.alloc aL _
    have az:Y.heap[w.heap.size]?=some (.cells #[.pointer (some ⟨C+1,0,none⟩)] 118 (0,0)):=F.2 _ _ (rV.out _ _ Um.out) (by
     rintro (h|h)
     ·rcases h.1 with h|h<;>omega
     ·exact h.2)
    have EM:Marks w.heap.size z.heap.size ds z:=by
     have h1:Marks w.heap.size X.heap.size ds U:=Marks.turn (A:=fun b o=>b=bt/\¬book o) u.out.marks wI.out (fun b o _ h=>h.2);have h2:Marks w.heap.size X.heap.size ds z:=Marks.turn (A:=fun _ _=>False) h1 (n1:=m) ⟨P.out.mono aD,fun b o E _=>rV.out b o E⟩ (fun _ _ _ h=>h.elim);exact h2.mono (by have:=wI.out.1.size;omega)
    have a5:Marks w.heap.size z.heap.size ds Y:=Marks.turn EM F (fun b o E h bq=>by
     rcases h with h|h
     ·exact h.2 bq
     ·have:=h.1;omega)
    have a6:=Marks.push a5 hD aD hk
    have HN:Hid (GrI H m C M N w.heap.size Y.heap.size rs W s c pb ({target:=.collected D,args:=#[]}::ds) w Y1):=hid {
     lt:=aD
     fit:=by rw[d];exact Sub.qR _ u.out.fit
     size:=zxb bp u.out.size
     same:=a4.trans u.out.same
     done:=fun h=>by
      have:=a3 h;rw[this] at ab ⊢;simpa using ab
     st:=uX.zb (fun b E q=>L.block b q)
     ptr:=(L.block _ (aI az)).trans az
     again:=by rw[ay];exact bD _ _ rfl
     below:=u.out.below.trans (wI.out.1.trans ((P.out.mono aD).trans (F.1.trans (L.mono aD))))
     marks:=(Marks.turn (A:=fun _ _=>False) a6 (n1:=m) ⟨L.mono aD,fun b o E _=>(L.block b (aI E)).trans E⟩ (fun _ _ _ h=>h.elim)).mono L.size}
    have c3:=(one_cell Ca).1;have Ni:=hid ad;have br:=hid ay;clear F uX Ca hk aZ ab a2 a3 a4 az EM a5 a6 L ad d G;dsimp only;go_wp2;rw[<-br.out];refine Handed.intro (if pb=true then Sub.size c+1 else 0) ?_ (HJ.out _ _ _ ⟨rfl,rfl,Y.heap.size,pb,c,rfl,rfl,HN.out⟩);rw[ba];simp only[if_true];cases pb with
    |false=>simp
    |true=>
     have:=Ni.out rfl
     simp
     omega
   case hstop=>
    rintro D xs Y hD h;exact h.elim
structure tu(tb:Nat)(x:aC.cE)(W:aC.dw)(v u:Value)(B:Nat)(w:World):Prop where
 xk:dO (·<B) w v x
 ze:bK (·<B) w u W
 laid:LaidW w
 tab:TabC tb w
 tbB:tb<B
 size:5<=B
 le:B<=w.heap.size
theorem tu.keep{tb:Nat}{x:aC.cE}{W:aC.dw}{v u:Value}{B:Nat}{w w':World}(h:tu tb x W v u B w)(a:Below B w w'):tu tb x W v u B w' where
 xk:=h.xk.keep (aH.bg a (fun _ h=>h))
 ze:=h.ze.keep (aH.bg a (fun _ h=>h))
 laid:=h.laid.below a h.size
 tab:=h.tab.below a h.tbB (by have:=h.size;omega)
 tbB:=h.tbB
 size:=h.size
 le:=zxb h.le a.size
theorem tu.next{tb:Nat}{x:aC.cE}{W:aC.dw}{v u:Value}{B:Nat}{w w':World}(h:tu tb x W v u B w)(a:BL w w'):tu tb x W v u B w':=h.keep (a.mono h.le)
theorem LM{x:aC.cE}{W:aC.dw}{s:Sub.S}(hc:bU.Ag x W s=0):bU.jE x W/\Sub.Fit (bU.shape W) s:=by
 have a:aC.okB x=true/\bU.sV x W=true/\bU.sj W s=true:=by
  exact aeD
 exact⟨bU.YL a.1 a.2.1,bU.Og a.2.2⟩
theorem FH(x:aC.cE)(W:aC.dw)(s:Sub.S)(H:bU.Ag x W s=0)(v u t:Value)(U:Nat->Prop)(tb B:Nat)(w:World)(d:tu tb x W v u B w)(n:nU U w t s):
  CP 26 #[v,u,t] w fun e I=>∃g,e=.returned (.tuple #[.slice (some ⟨g,0,none⟩) W.length W.length,.int .i64 0])/\pu (w.heap.size<=·) I (.slice (some ⟨g,0,none⟩) W.length W.length) (Sub.great (bU.wrong (bU.fS x) W) s)/\BL w I:=by
 obtain⟨h,a⟩:=LM H;obtain⟨K,L,N,O,P,Q,rfl, -⟩:=d.xk.form;obtain⟨w1,c⟩:=bJ (bSx w x K N P L O Q);have J:=yL c;have HX:=IQ c;delta bSx fJ at c;have o:=hid c;clear c;have R:=hid (fun X (f:BL w X)=>Ja x W s H _ u t _ _ U tb X (d.next f).xk (d.next f).ze (n.keep (aH.below f)) (d.next f).laid (d.next f).tab);have p:=hid (fun X (f:BL w X)=>Ug x W s h (bU.Ry a).symm _ u t _ _ U X (d.next f).xk (d.next f).ze (n.keep (aH.below f)));have q:=hid (fun(X:World) (r y z M:Nat)=>Jf x W s h a r y z M 512 aD X);obtain⟨aw,cw,rfl, -, -, -⟩:=d.ze.form;obtain⟨sx,cs,rfl, -, -, -⟩:=n.form;clear n d h a;obtain⟨A,C,D,E⟩:=b4z (HX.out w1 aG);go_enter func26,ntmps26;go_upto_region 1 with fail;rw[<-o.out];go_wp2_with fail;refine(R.out w1 J.out).mono ?_;rintro e w2 ⟨rfl,j⟩;have T:Hid (BL w1 w2):=hid j;have F:=aR J j;clear j A C D E;obtain⟨A,C,D,E⟩:=b4z (HX.out w2 T.out);go_wp2_with fail;refine(p.out w2 F.out).mono ?_;rintro e w3 ⟨r,y,z,rfl,i,V,k⟩;have Y:=aR F k;have Z:=hid (q.out w3 r y z w3.heap.size aL i.toD);have aa:=i.Ua;have ab:=F.out.size;clear k i A C D E;go_wp2_with fail;refine Z.out.mono ?_;rintro e w4 ⟨g,rfl,l,m⟩;have gX:Hid (BL w w4):=hid (Y.out.trans (m.mono aD));have G:=hid (gB.mono (S':=(w.heap.size<=·)) l (fun b _ j=>by have:=j.1;show w.heap.size<=b;omega));clear m l;go_wp2;go_ret2;exact⟨g,rfl,G.out,gX.out⟩
theorem FI(x:aC.cE)(W:aC.dw)(f:aC.okB x=true)(v u t:Value)(s:Sub.S)(U:Nat->Prop)(tb B:Nat)(w:World)(b:tu tb x W v u B w)(g:nU U w t s)
  (d:∀X,BL w X->CB 104 #[v,u] X (.bool false)):
  CB 26 #[v,u,t] w (.tuple #[.slice none 0 0,.int .i64 2]):=by
 obtain⟨k,l,m,n,o,p,rfl, -⟩:=b.xk.form;obtain⟨w1,a⟩:=bJ (bSx w x k m o l n p);have i:=yL a;have HX:=IQ a;delta bSx fJ at a;have h:=hid a;clear a;have q:=hid (fun X (c:BL w X)=>Jb x W f _ u t s _ _ U tb X (b.next c).xk (b.next c).ze (g.keep (aH.below c)) (b.next c).laid (b.next c).tab (fun Y r=>d Y (bO c r)));obtain⟨E,F,rfl, -, -, -⟩:=b.ze.form;obtain⟨G,cs,rfl, -, -, -⟩:=g.form;clear g b d;obtain⟨y,z,A,C⟩:=b4z (HX.out w1 aG);go_enter func26,ntmps26;go_upto_region 1 with fail;rw[<-h.out];go_wp2_with fail;refine(q.out w1 i.out).mono ?_;rintro e w2 ⟨rfl,j⟩;have D:=aR i j;clear j y z A C;go_wp2;go_ret2;exact⟨rfl,D.out⟩
attribute [local go_sem] Oper.semAt_some
section
variable {P:Program} {lp n':Nat}
theorem zh{id:Nat}{Q:Exit->Act->World->Prop}{a:Act}{w:World}{l:List Oper}(n:Nat)(s:iq)(k:World->Prop)(p:P.follows .mixedOrders=true)(hB:Region.qJ .any l.toArray n s=true)(q:Region.OZ l.toArray=true)(r:k (w.drewN 1))
  (h:∀K:Act->World->Prop,(∀b c,Q .normal b c->K b c)->dS P l.toArray (fun b c=>wpList P l.toArray (QN K) (l.drop n) b c) l s k a (w.drewN 1)):(Code.region id l.toArray true).wpIn (Fence.wide.inRound lp) n' P Q a w:=by
 have h:=h (fun b c=>Q .normal b c) (fun _ _ h=>h);simp only[Region.qJ,pR,oW] at hB;obtain⟨⟨⟨⟨d,u⟩,v⟩,x⟩,e⟩:=hB
 have f:HeadInv .any l.toArray n (Array.replicate l.toArray.size false):=
  ⟨bH,fun j z _ m=>(by rw[getD_replicate_false] at m;cases m),fun t _ y=>getD_in (by simpa using y) (getD_replicate_false _ _)⟩
 have H:=V7 (md:=.any) (Lq:=fun b c=>wpList P l.toArray (QN fun b c=>Q .normal b c) (l.drop n) b c) d v x u n s k _ a _ r f e Fa;refine wpIn_region_any p (Zz (K2:=fun a w=>Q .normal a w) (Region.O1 q) (fun _ _ h=>h) _ _ _ _ ?_);have i:(l.drop n).length=l.toArray.size-n:=bH
 have:=lQ (Q':=QN fun b c=>Q .normal b c) (g:=l.toArray.size-n) (fun listed b c o=>by
  have:=wpAny_of_seq (md:=.any) (Q':=QN fun b c=>Q .normal b c) (l.drop n) n listed b c (fun j=>by simp[List.getElem?_drop]) (by rw[i];exact o.1) o.2;rwa [i] at this) _ _ _ _ H
 exact amu
end
attribute [local go_sem] Oper.semAt_some
end Go.Proofs.YtohddpbgflgiaaaGreatDoor
namespace Go.Proofs.YtohddpbgflgiaaaGreatDoor.Dr
open Go.RowKit
structure Below(B:Nat)(w w':World):Prop where
 toB:Go.RowKit.Below B w w'
 drawn:w.drawn<=w'.drawn
attribute [local go_sem] Oper.semAt_some
end Go.Proofs.YtohddpbgflgiaaaGreatDoor.Dr
namespace Go.Proofs.YtohddpbgflgiaaaGreatDoor
open Go.RowKit
theorem own:ownKnob prog.godebug=none:=by kernel_rfl
theorem laidOut:laidOutB prog=true:=by kernel_rfl
def laidL:List (String×DataW Unit):=[("math/bits.deBruijn32tab",Rows.laid_math_bits_deBruijn32tab),("math/bits.deBruijn64tab",Rows.laid_math_bits_deBruijn64tab),("internal/strconv.uint64pow10",Rows.laid_internal_strconv_uint64pow10),("diorama/schema.words",Rows.laid_diorama_schema_words),("diorama/typing.checks",Rows.laid_diorama_typing_checks)]
theorem DR{W:World}(h:laidMetH prog laidL W)(n:String)(d:DataW Unit)(b:(laidL.filter fun x=>x.1==n)=[(n,d)])(c:d.handleName?.isNone=true):laidMet prog [(n,d)] W:=by
 have a:=h.filter (fun x=>x.1==n);rw[b,Go.MakeChecks.laidMetH_plain _ _ _ (by simp[c])] at a;exact a
theorem DS{a:Nat}{t e:TypeId}{n:Nat}{cs:List Value}{ss:List (List UInt8)}{p:List MemPlace}{H:Type}{d:TypeId×Value->H}{P:Program}{w:World}{base:Nat}{o:Nat->Bool}{held:Bool}
  (q:P.underlying t=some (.array n e))(r:P.underlying e=some .string)(f:P.cellsOf e=1)(g:P.cellsOf t=n)
  (h:DataW.trod d P w base o held a t cs=some (.agg (ss.map fun s=>.lit (.string s)),p)):∀(i:Nat) (s:List UInt8),ss[i]?=some s->cs[i]?=some (.string ⟨s.toArray⟩):=by
 cases a with
 |zero=>simp[DataW.trod] at h
 |succ a=>
  simp only[DataW.trod,q,f,g,Nat.mul_one] at h
  split at h
  ·rename_i D
   obtain⟨j,l,hx⟩:=Option.map_eq_some_iff.1 h
   have c:j.map (·.1)=ss.map fun s=>(DataW.lit (.string s):DataW H):=by
    have:=congrArg Prod.fst hx;simpa using this
   have u:j.length=n:=by simpa using Lib.mapM_length l
   have v:ss.length=n:=by
    have:=congrArg List.length c;simp at this;omega
   intro i s m
   have x:i<n:=by
    have:=(zxu.1 m).1;omega
   obtain⟨b,y,A⟩:=Lib.mapM_at l i i (by simp[x]);obtain⟨z,B,rfl,_⟩:=DataW.trod_string r A
   have C:cs[i]?=some (.string z):=by
    have:=congrArg (·[0]?) B;simpa [zxz,List.getElem?_drop] using this
   have k:(j.map (·.1))[i]?=some (DataW.lit (.string z.data.toList):DataW H):=by simp[y]
   rw[c,alY,m] at k;simp only[Option.map_some,Option.some.injEq,DataW.lit.injEq,Lit.string.injEq] at k;rw[C,k]
  ·cases h
theorem ZT{W:World}(h:laidMetH prog laidL W):LaidW W where
 pow:=by
  have c:=DR h "internal/strconv.uint64pow10" Rows.laid_internal_strconv_uint64pow10 zK zK;exact Lib.tabIs_of_head (zs:=Lib.pow10Tab) (rest:=[]) aef (by kernel_rfl:(prog.globals[2]?).map (·.type)=some 294) (by kernel_rfl:prog.underlying 294=some (.array 20 230)) (by kernel_rfl:prog.underlying 230=some (.int .u64)) zK zK c
 cV k hk:=by
  have c:=DR h "diorama/schema.words" Rows.laid_diorama_schema_words zK zK;obtain⟨j,⟨l,m,cs,d,p,q,b,f,a,hd,_,_⟩,_⟩:=c;obtain rfl:=oO ((show prog.globalNamed "diorama/schema.words" =some 1 by kernel_rfl).symm.trans b);obtain rfl:=oO ((show (prog.globals[1]?).map (·.type)=some 248 by kernel_rfl).symm.trans f);have i:=World.var?_cell b a k;rw[i,<-Array.getElem?_toList];refine DS (n:=9) (e:=9) (ss:=[[107,101,121],[114,101,102],[110,117,109],[112,105,99,107],[100,97,121],[115,116,101,112],[115,117,109],[115,104,97,114,101],[99,111,112,121]]) zK zK zK zK hd k _ ?_;have:k=0\/k=1\/k=2\/k=3\/k=4\/k=5\/k=6\/k=7\/k=8:=aD
  rcases this with rfl|rfl|rfl|rfl|rfl|rfl|rfl|rfl|rfl<;>rfl
 size:=by
  have c:=DR h "math/bits.deBruijn64tab" Rows.laid_math_bits_deBruijn64tab zK zK;obtain⟨j,⟨l,m,cs,d,p,q,b,f,a,hd,_,_⟩,_⟩:=c;obtain rfl:=oO ((show prog.globalNamed "math/bits.deBruijn64tab" =some 4 by kernel_rfl).symm.trans b);have i:=World.var?_cell b a 0
  have:4<W.heap.size:=by
   unfold World.var? at a;rw[b] at a;refine Nat.lt_of_not_le fun g=>?_;simp[Array.getElem?_eq_none g] at a
  omega
theorem acw{P:Program}{t f:TypeId}{fs:Array Field}(o:P.underlying t=some (.struct fs))(u:fs.size=1)(e:(fs[0]?).map (fun x=>(x.type,x.offset))=some (f,0))(z:P.cellsOf t=1)(A:P.cellsOf f=1){H:Type}{a:TypeId×Value->H}{w:World}{base:Nat}{p:Nat->Bool}{held:Bool}{n:Nat}{v:Value}{d:DataW H}{ps:List MemPlace}
  (r:v.formed P t=true)(h:DataW.trod a P w base p held n t v.cells.toList=some (.agg [d],ps)):∃c m q,v=.agg #[c]/\DataW.trod a P w base p held m f [c]=some (d,q):=by
 obtain⟨B,m,rfl,hx,G,C,b⟩:=DataW.trod_struct o h
 have g:∃cs,v=.agg cs/\cs.size=1:=by
  cases v<;>simp[Value.formed,o,z] at r;exact⟨_,rfl,r⟩
 obtain⟨cs,rfl,D⟩:=g;obtain⟨c,rfl⟩:∃c,cs=#[c]:=Array.size_eq_one_iff.1 D;obtain⟨fd,E,i⟩:=Option.map_eq_some_iff.1 e;obtain⟨j,k⟩:=Prod.mk.inj i;have l:=b 0 fd E;rw[j,k] at l;obtain⟨y,F⟩:∃y,B=[y]:=List.length_eq_one_iff.1 aD;subst F;simp[A,Value.cells] at l;have s:=congrArg Prod.fst hx;simp at s;exact⟨c,m,y.2,rfl,by rw[l,s]⟩
def LN(f:TypeId):TypeDesc->Bool
 | .struct fs=>decide (fs.size=1)&&decide ((fs[0]?).map (fun x=>(x.type,x.offset))=some (f,0))
 |_=>false
theorem Un:∃fs,prog.underlying 112=some (.struct fs)/\fs.size=1/\(fs[0]?).map (fun x=>(x.type,x.offset))=some (111,0):=by
 have h:(prog.underlying 112).map (LN 111)=some true:=by kernel_rfl
 obtain⟨d,hd,a⟩:=Option.map_eq_some_iff.1 h;cases d<;>simp[LN] at a;exact⟨_,hd,a.1,by simpa using a.2⟩
theorem aeO{p:Prop}(h:p:=by
  rw[hv] at hrun
  exact hrun):p:=h
theorem amm{p:Prop}(h:p:=by
  exfalso
  have g1:=hat .nil
  have g2:=hat (.lit (.bool true))
  rw[<-g1] at g2
  cases g2):p:=h
theorem acy{W:World}(h:laidMetH prog laidL W):∃b,TabC b W:=by
 obtain⟨g,t,cs,w,p,x,C,hv,hd⟩:=h.funcs (n:= "diorama/typing.checks") (List.Mem.tail _ (List.Mem.tail _ (List.Mem.tail _ (List.Mem.tail _ (List.Mem.head _)))));obtain rfl:=oO ((show prog.globalNamed "diorama/typing.checks" =some 0 by kernel_rfl).symm.trans x);obtain rfl:=oO ((show (prog.globals[0]?).map (·.type)=some 114 by kernel_rfl).symm.trans C);have z:prog.underlying 114=some (.map 3 112):=by kernel_rfl
 rcases Go.WideElems.open_map z hd with⟨-,e⟩|⟨b,N,clock,n,rfl,j,A, -,F,e⟩
 ·cases congrArg Prod.fst e
 have l:=congrArg Prod.fst e;simp only at l;refine⟨b,?_,(zxd.1 A).1,fun B D k O P=>?_⟩
 ·have:=World.var?_cell x hv 0
  rw[Array.eq_one_of_toList j] at this;simpa using this
 ·have E:(zeroValue 112).run prog B=.ok (.agg #[.nilFunc]) B:=by kernel_rfl
  have d:keyOf prog 3 (.int .i64 k)=some (.int .i64 k):=by
   have:k=0\/k=1\/k=2\/k=3\/k=4\/k=5\/k=6\/k=7\/k=8:=aD
   rcases this with rfl|rfl|rfl|rfl|rfl|rfl|rfl|rfl|rfl<;>first
    |exact(by kernel_rfl:keyOf prog 3 (.int .i64 0)=some (.int .i64 0))
    |exact(by kernel_rfl:keyOf prog 3 (.int .i64 1)=some (.int .i64 1))
    |exact(by kernel_rfl:keyOf prog 3 (.int .i64 2)=some (.int .i64 2))
    |exact(by kernel_rfl:keyOf prog 3 (.int .i64 3)=some (.int .i64 3))
    |exact(by kernel_rfl:keyOf prog 3 (.int .i64 4)=some (.int .i64 4))
    |exact(by kernel_rfl:keyOf prog 3 (.int .i64 5)=some (.int .i64 5))
    |exact(by kernel_rfl:keyOf prog 3 (.int .i64 6)=some (.int .i64 6))
    |exact(by kernel_rfl:keyOf prog 3 (.int .i64 7)=some (.int .i64 7))
    |exact(by kernel_rfl:keyOf prog 3 (.int .i64 8)=some (.int .i64 8))
  have G:Maps.Keyed prog 3:=Maps.int_keyed (by kernel_rfl:prog.underlying 3=some (.int .i64));have H:prog.underlying 111=some (.func #[116] #[34] false):=by kernel_rfl
  rcases Maps.fit_look true G z E (D.trans A) F d with⟨hrun,_,hat⟩|⟨I,y,_,_,hrun,a,hat,_⟩
  ·rw[<-l] at hat
   have no:BX k=none:=by
    have:=hat .nil;have:k=0\/k=1\/k=2\/k=3\/k=4\/k=5\/k=6\/k=7\/k=8:=aD
    rcases this with rfl|rfl|rfl|rfl|rfl|rfl|rfl|rfl|rfl<;>first|rfl|(exfalso;cases hat .nil)
   rw[no];unfold TI;rw[no];exact hrun
  ·rw[<-l] at hat
   unfold Go.WideElems.elemAt at a;split at a
   ·rename_i o
    obtain⟨fs,s,J,K⟩:=Un
    have at_:∀(u:UInt8) (r:List UInt8) (v:Nat),y.1=.agg [.held (u::r)]->((List.range prog.funcs.size).filter fun f=>(prog.funcs[f]?).any (·.name.toUTF8.data.toList==u::r))=[v]->I.val=.agg #[.func (.func v) #[] #[]]:=fun u r v L i=>by
     obtain⟨c,m,q,hv,M⟩:=acw s J K zK zK o (a.trans (by rw[<-L]));rw[hv,func_of_trod H i M]
    have:k=0\/k=1\/k=2\/k=3\/k=4\/k=5\/k=6\/k=7\/k=8:=aD
    rcases this with rfl|rfl|rfl|rfl|rfl|rfl|rfl|rfl|rfl
    ·have hv:=at_ 100 [105,111,114,97,109,97,47,116,121,112,105,110,103,46,99,104,101,99,107,115,36,49] 262 (hat .nil).symm zK
     exact aeO
    ·have hv:=at_ 100 [105,111,114,97,109,97,47,116,121,112,105,110,103,46,99,104,101,99,107,115,36,50] 263 (hat .nil).symm zK
     exact aeO
    ·exact amm
    ·exact amm
    ·have hv:=at_ 100 [105,111,114,97,109,97,47,116,121,112,105,110,103,46,99,104,101,99,107,115,36,51] 264 (hat .nil).symm zK
     exact aeO
    ·have hv:=at_ 100 [105,111,114,97,109,97,47,116,121,112,105,110,103,46,99,104,101,99,107,115,36,52] 265 (hat .nil).symm zK
     exact aeO
    ·have hv:=at_ 100 [105,111,114,97,109,97,47,116,121,112,105,110,103,46,99,104,101,99,107,115,36,53] 267 (hat .nil).symm zK
     exact aeO
    ·have hv:=at_ 100 [105,111,114,97,109,97,47,116,121,112,105,110,103,46,99,104,101,99,107,115,36,54] 269 (hat .nil).symm zK
     exact aeO
    ·have hv:=at_ 100 [105,111,114,97,109,97,47,116,121,112,105,110,103,46,99,104,101,99,107,115,36,55] 271 (hat .nil).symm zK
     exact aeO
   ·cases a
theorem laidT_of{W:World}(h:laidMetH prog laidL W):LaidW W/\∃b,TabC b W:=⟨ZT h,acy h⟩
noncomputable def laidWorld (a:Os):World:=World.doorLaid prog 76 a
theorem wf_bounds{n:Int}(h:(Lit.int .i64 n).wf=true): -9223372036854775808<=n/\n<=9223372036854775807:=by
 simp[Lit.wf,IntKind.min,IntKind.max,IntKind.signed,IntKind.bits] at h;omega
theorem ZU{α:Type}{l:List α}{i:Nat}{d:α}(h:i<l.length):l.getD i d=l[i]:=by
 rw[iY,lN h,zOg]
theorem row_ints{w:World}{a:Option Addr}{len cap:Nat}{zs:List Int}
  (h:(a=none/\len=0/\cap=0/\zs=[])\/∃x,a=some x/\len<=cap/\cap<=maxLen/\zs.length=cap/\(∀i,i<zs.length->w.cell? (x.add i)=some (.int .i64 (zs.getD i 0)))/\∀n∈zs,(Lit.int .i64 n).wf=true):
  bB dr w (.slice a len cap) (zs.take len)/\Fit (zs.take len):=by
 rcases h with⟨rfl,rfl,rfl,rfl⟩|⟨x,rfl,m,d,p,c,f⟩
 ·exact⟨eA.nil _ _ _,fun x hx=>by simp at hx⟩
 ·have g:(zs.take len).length=len:=by rw[VQ];omega
  refine⟨⟨some x,cap,by rw[g],fun q=>?_,aD,d,fun _=>trivial,fun j r=>?_⟩,fun n k=>?_⟩
  ·obtain⟨b,o,e,_⟩:=ints_at c aD
   exact⟨b,o,ah4⟩
  ·obtain⟨b,o,e,l⟩:=ints_at c aD
   subst e;refine⟨_,l j aD,?_⟩;rw[List.getElem_take,ZU aD]
  ·exact wf_bounds (f n (List.mem_of_mem_take k))
def jg(F a:Nat->Prop)(w w':World):Prop:=(∀b,F b->a b)/\∀b,a b->F b\/(w.heap.size<=b/\b<w'.heap.size)
theorem jg.refl(F:Nat->Prop)(w w':World):jg F F w w':=⟨fun _ h=>h,fun _ h=>.inl h⟩
def GZ{α:Type}(P:Program)(n0 h gf:Nat)(i:Array Value)(a:α->Array Value)(G:List α->α->World->Prop)(j:Nat->Obj->Prop)(S:List α->World->Prop)(w:World):Prop:=
 ∀(l:Nat) (J:(Nat->Prop)->List α->World->Prop) (W:World),BL w W->
  (∀F f pre A B,J F pre A->jg F f A B->aY (fun b _=>F b) n0 A B->J f pre B)->
  (∀F pre x d,J F pre d->G pre x d->YieldAt Fence.wide 0 P l (a x) d fun e c=>
   aY (fun b o=>(j b o\/cD h b o)/\¬F b) n0 d c/\e=.returned (.bool true)/\J F (pre++[x]) c)->
  J (fun _=>False) [] W->Calls P gf (#[.func (.yield l) #[] #[]]++i) W fun e c=>(∃v,e=.returned v)/\∃F g,S g c/\J F g c
def QG1{α:Type}(a:Nat->Obj->Prop)(n0:Nat)(F:Nat->Prop)(I:(Nat->Prop)->List α->World->Prop)(xs:List α)(W:World):Exit->Act->World->Prop
 | .normal,_,W3=>aY (fun b o=>a b o/\¬F b) n0 W W3/\I F xs W3
 |_,_,_=>False
theorem Bo{P:Program}{α:Type}{n0 T:Nat}{ps:Array Tmp}{assign body:Code}{U:FuncId}{a:Array Value}{Ub l gf:Nat}{lb:Array Value}{w c:World}
  {d:α->Array Value}(ag:∀x,(d x).size=ps.size){G:List α->α->World->Prop}{bA:Nat->Obj->Prop}{S:List α->World->Prop}(V:GZ P n0 T gf lb d G bA S w)
  (ah:BL w c)(C:c.heap[l]?=some (.loop (l7 U a ps assign body Ub .ready none)))(Uc:T<=l)(hn:n0<=T)
  (F0:Nat->Prop)(E:F0 l)(I:(Nat->Prop)->List α->World->Prop)(hI:∀F F' pre A B,I F pre A->jg F F' A B->aY (fun b _=>F b) n0 A B->I F' pre B)
  (hS:∀H A B,S H A->aY (cD T) n0 A B->S H B)
  (D:Nat)(ai:∀b,F0 b->b=l\/b=D)(hD:F0 D->∃o,book o/\c.heap[D]?=some o)(h0:I F0 [] c)
  (jB:∀F pre x W,W.heap[l]?=some (.loop (l7 U a ps assign body Ub .ready none))->F l->I F pre W->G pre x W->assign.wpIn (Fence.wide.inRound l) 0 P (Exit.then (fun Z c=>aY (fun b o=>bA b o/\¬F b) n0 W c/\∀g,aY (fun b _=>b=l) n0 c g->g.heap.size=c.heap.size->(∃r,g.heap[l]?=some (.loop r))->
    body.wpIn (Fence.wide.inRound l) 0 P (QG1 bA n0 F I (pre++[x]) g) Z g) (fun _ _ _=>False))
   {tmps:=(ps.zip (d x)).foldl (fun t (p,v)=>t.setIfInBounds p v) a,defers:=[]} W):
  Calls P gf (#[.func (.yield l) #[] #[]]++lb) c fun e g=>(∃v,e=.returned v)/\∃W4,(Instr.endLoop l).run P g=.ok none W4/\(F0 D->∀o,c.heap[D]?=some o->D≠l->W4.heap[D]?=some o)/\
   ∃F H,(∀b,F0 b->F b)/\S H W4/\I F H W4:=by
 obtain⟨rec,hrec⟩:∃rec:LoopState->Option Code->Loop,rec=l7 U a ps assign body Ub:=⟨_,rfl⟩;rw[<-hrec] at C;have Yo:l<c.heap.size:=(zxd.1 C).1;have aa:F0 D->D<c.heap.size:=fun h=>by obtain⟨o, -,u⟩:=hD h;exact(zxd.1 u).1
 obtain⟨J,i⟩:∃J:World->Prop,J=fun X=>F0 D->∀o,c.heap[D]?=some o->D≠l->X.heap[D]?=some o:=⟨_,rfl⟩
 have K:∀{A:Nat->Obj->Prop} {X Y:World},(∀b o,F0 b->book o->¬A b o)->aY A n0 X Y->J X->J Y:=by
  intro A X Y hA Q h;rw[i] at h ⊢;intro hd o u j;refine Q.2 _ _ (h hd o u j) (hA _ _ hd ?_);obtain⟨y,R,ab⟩:=hD hd;rw[u] at ab;cases ab;exact R
 have L:∀{X:World} (o:Obj),J X->J (X.putObj l o):=by
  intro X o h;rw[i] at h ⊢;intro hd y u j;exact(World.putObj_heap_other j).trans (h hd y u j)
 refine(V l (fun F pre W=>(∀b,F b->¬F0 b)/\I (fun b=>F b\/F0 b) pre W/\W.heap[l]?=some (.loop (rec .ready none))/\J W/\c.heap.size<=W.heap.size) c ah ?_ ?_ ⟨fun _ h=>h.elim,?_,C,?_,aL⟩).mono ?_
 ·rintro F F' pre A B ⟨M,hi,k,hd,hs⟩ hg Q
  have aj:∀b,F' b->¬F0 b:=fun b R N=>by
   rcases hg.2 b R with h|h
   ·exact M b h N
   ·rcases ai b N with rfl|rfl
    ·omega
    ·have:=aa N;omega
  exact⟨aj,hI _ _ _ _ _ hi ⟨fun b h=>h.imp (hg.1 b) id,fun b h=>h.elim (fun h=>(hg.2 b h).imp .inl id) (fun h=>.inl (.inr h))⟩ (Q.mono fun b o h=>.inl h),Q.2 _ _ k (fun h=>M _ h E),K (fun b o h0 R h=>M _ h h0) Q hd,zxb hs Q.1.size⟩
 ·rintro F pre x W ⟨M,hi,k,hd,hs⟩ hG
  have hy:=run_yield (P:=P) (args:=d x) k (by rw[hrec];exact ag x);rw[hrec] at hy;refine⟨U,_,assign,body,hy,roundIn_of_wpIn trivial (wpIn_mono (jB _ pre x W (by rw[k,hrec]) (.inr E) hi hG) ?_)⟩;rintro e a1 g hp;cases e with
  |normal=>
   obtain⟨m,O⟩:=hp
   have hl2:=m.2 _ _ k (fun h=>h.2 (.inr E))
   have ak:=K (fun b o h0 _ h=>h.2 (.inr h0)) m hd
   have ad:l<g.heap.size:=(zxd.1 hl2).1
   have O2:∀{X:World} {o:Obj} (y:Obj),X.heap[l]?=some o->aY (fun b _=>b=l) n0 X (X.putObj l y):=fun y h=>aY.putObj _ h rfl aD
   have z:=O2 (.loop (rec .busy none)) hl2
   have al:(Instr.beginRound l).run P g=.ok () (g.putObj l (.loop (rec .busy none))):=by
    exact amG
   have ae:(g.putObj l (.loop (rec .busy none))).heap[l]?=some (.loop (rec .busy none)):=World.putObj_heap_same ad
   refine⟨_,al,wpIn_mono (O _ z bH ⟨_,ae⟩) ?_⟩
   rintro e a3 W3 hq
   cases e with
   |normal=>
    obtain⟨n,am⟩:=hq
    have s:=n.2 _ _ ae (fun h=>h.2 (.inr E))
    have f:(Instr.endRound l none).run P W3=.ok (.bool true) (W3.putObj l (.loop (rec .ready none))):=by
     have:=run_endRound (P:=P) none s;rw[hrec] at this ⊢;exact this
    have Yr:l<W3.heap.size:=(zxd.1 s).1
    have LH:=O2 (.loop (rec .ready none)) s
    have af:∀{X:World} {o:Obj} (y:Obj),X.heap[l]?=some o->book o->aY (fun b o=>(bA b o\/cD T b o)/\¬F b) n0 X (X.putObj l y):=fun y h R=>aY.putObj _ h ⟨.inr ⟨Uc,R⟩,fun h=>M _ h E⟩ aD
    refine⟨_,_,f,?_,rfl,M,hI _ _ _ _ _ am (jg.refl _ _ _) (LH.mono fun b o h=>.inr (h▸E)),World.putObj_heap_same Yr,L _ (K (fun b o h0 _ h=>h.2 (.inr h0)) n (L _ ak)),?_⟩
    ·exact(((m.mono fun b o h=>⟨.inl h.1,fun q=>h.2 (.inl q)⟩).trans (af _ hl2 trivial)).trans (n.mono fun b o h=>⟨.inl h.1,fun q=>h.2 (.inl q)⟩)).trans (af _ s trivial)
    ·have:=m.1.size;have:=n.1.size;have:=z.1.size;have:=LH.1.size;omega
   |_=>exact hq.elim
  |_=>exact hp.elim
 ·exact hI _ _ _ _ _ h0 ⟨fun b h=>.inr h,fun b h=>h.elim (fun h=>h.elim) .inl⟩ (aY.refl _ _ _)
 ·rw[i];exact fun _ o u _=>u
 ·rintro e g ⟨hv,F,H,Wk,M,hi,k,hd,hs⟩
  have f:=run_endLoop (P:=P) k (by rw[hrec];simp);rw[hrec] at f;refine⟨hv,_,f,?_,_,H,fun b h=>.inr h,hS _ _ _ Wk (aY.putObj _ k ⟨Uc,trivial⟩ aD),hI _ _ _ _ _ hi (jg.refl _ _ _) (aY.putObj _ k (.inr E) aD)⟩;have:=L (.loop (l7 U a ps assign body Ub .exhausted none)) hd;rw[i] at this;exact this
theorem Bp{P:Program}{α:Type}{n n0:Nat}{g:Operand}{ps:Array Tmp}{assign body:Code}{Q:Exit->Act->World->Prop}{a:Act}{w:World}
  {gf:Nat}{s:Array Value}(hg:a.eval g=.func (.func gf) #[] s)(K:∀args w,(callFunc gf args).run P w=.ok (.enter gf args) w)
  {d:α->Array Value}(u:∀x,(d x).size=ps.size){G:List α->α->World->Prop}{y:Nat->Obj->Prop}{S:List α->World->Prop}(j:GZ P n0 w.heap.size gf s d G y S w)
  (hn0:n0<=w.heap.size)
  (I:(Nat->Prop)->List α->World->Prop)(hI:∀F J pre A B,I F pre A->jg F J A B->aY (fun b _=>F b) n0 A B->I J pre B)
  (L:∀f A B,S f A->aY (cD w.heap.size) n0 A B->S f B)(h0:I (fun _=>False) [] w)
  (jB:∀l F pre x W,(∃r,W.heap[l]?=some (.loop r))->w.heap.size<=l->F l->I F pre W->G pre x W->assign.wpIn (Fence.wide.inRound l) 0 P (Exit.then (fun k c=>aY (fun b o=>y b o/\¬F b) n0 W c/\∀i,aY (fun b _=>b=l) n0 c i->i.heap.size=c.heap.size->(∃r,i.heap[l]?=some (.loop r))->
    body.wpIn (Fence.wide.inRound l) 0 P (QG1 y n0 F I (pre++[x]) i) k i) (fun _ _ _=>False))
   {tmps:=(ps.zip (d x)).foldl (fun t (p,v)=>t.setIfInBounds p v) a.tmps,defers:=[]} W)
  (hdone:∀D F f W,w.heap.size<=D->F D->S f W->I F f W->W.heap[D]?=some (.deferred (some []))->Q .normal {a with defers:={target:=.collected D,args:=#[]}::a.defers} W):
  (Code.rangeFunc g ps assign body).wpIn Fence.wide n P Q a w:=by
 refine wpIn_rangeFunc ?_;intro fn M;obtain⟨c,hW1⟩:∃c,(w.alloc (.deferred (some []))).alloc (.loop (l7 fn a.tmps ps assign body w.heap.size .ready none))=c:=⟨_,rfl⟩
 have z:c.heap[w.heap.size+1]?=some (.loop (l7 fn a.tmps ps assign body w.heap.size .ready none)):=by
  exact Z7
 have m:c.heap[w.heap.size]?=some (.deferred (some [])):=by
  exact anb
 have C:BL w c:=Qz
 have E:I (fun b=>b=w.heap.size+1\/b=w.heap.size) [] c:=hI _ _ _ _ _ h0 ⟨fun _ h=>h.elim,fun b h=>.inr ⟨aD,by rw[<-hW1];simp;omega⟩⟩ afs
 refine⟨w.heap.size+1,[{target:=.collected w.heap.size,args:=#[]}],c,{target:=.fn (.func gf) s,args:=#[.func (.yield (w.heap.size+1)) #[] #[]]},c,gf,
  #[.func (.yield (w.heap.size+1)) #[] #[]]++s,c,?_,?_,fun _ _=>trivial,?_,fun h=>by simp[Fence.wide] at h,?_⟩
 ·rw[<-hW1];exact run_enterLoop_outer _ _ _ _ _
 ·exact am6
 ·simp[invoke,go_sem,K]
 ·rw[callsIn_wide]
  refine(Bo (l:=w.heap.size+1) u j C z aD hn0 (fun b=>b=w.heap.size+1\/b=w.heap.size) (.inl rfl) I hI L w.heap.size (fun b h=>h) (fun _=>⟨_,by exact trivial,m⟩) E
   (fun F pre x W N H=>jB (w.heap.size+1) F pre x W ⟨_,N⟩ aD H)).mono ?_
  rintro e i ⟨⟨v,rfl⟩,O,q,R,F,f,H,T,U⟩;exact⟨none,O,q,hdone _ F f _ aL (H _ (.inr rfl)) T U (R (.inr rfl) _ m aD)⟩
theorem Jg{P:Program}{α:Type}{n n0 l0:Nat}{g:Operand}{ps:Array Tmp}{assign body:Code}{Q:Exit->Act->World->Prop}{a:Act}{w:World}(z:∃r,w.heap[l0]?=some (.loop r))
  {gf:Nat}{y:Array Value}(hg:a.eval g=.func (.func gf) #[] y)(M:∀args w,(callFunc gf args).run P w=.ok (.enter gf args) w)
  {d:α->Array Value}(C:∀x,(d x).size=ps.size){G:List α->α->World->Prop}{D:Nat->Obj->Prop}{S:List α->World->Prop}(k:GZ P n0 w.heap.size gf y d G D S w)
  (m:n0<=w.heap.size)
  (I:(Nat->Prop)->List α->World->Prop)(hI:∀F J pre A B,I F pre A->jg F J A B->aY (fun b _=>F b) n0 A B->I J pre B)
  (N:∀i A B,S i A->aY (cD w.heap.size) n0 A B->S i B)(h0:I (fun _=>False) [] w)
  (jB:∀l F pre x W,(∃r,W.heap[l]?=some (.loop r))->w.heap.size<=l->F l->I F pre W->G pre x W->assign.wpIn (Fence.wide.inRound l) 0 P (Exit.then (fun q c=>aY (fun b o=>D b o/\¬F b) n0 W c/\∀j,aY (fun b _=>b=l) n0 c j->j.heap.size=c.heap.size->(∃r,j.heap[l]?=some (.loop r))->
    body.wpIn (Fence.wide.inRound l) 0 P (QG1 D n0 F I (pre++[x]) j) q j) (fun _ _ _=>False))
   {tmps:=(ps.zip (d x)).foldl (fun t (p,v)=>t.setIfInBounds p v) a.tmps,defers:=[]} W)
  (hdone:∀F i W,S i W->I F i W->Q .normal a W):
  (Code.rangeFunc g ps assign body).wpIn (Fence.wide.inRound l0) n P Q a w:=by
 refine wpIn_rangeFunc ?_;intro K O;obtain⟨L,hr0⟩:=z;obtain⟨c,f⟩:∃c,w.alloc (.loop (l7 K a.tmps ps assign body L.defers .ready none))=c:=⟨_,rfl⟩;have s:c.heap[w.heap.size]?=some (.loop (l7 K a.tmps ps assign body L.defers .ready none)):=by rw[<-f];exact zAn _ _
 have E:BL w c:=by rw[<-f];exact(Below.refl _ w).alloc aL _
 have H:I (fun b=>b=w.heap.size) [] c:=hI _ _ _ _ _ h0 ⟨fun _ h=>h.elim,fun b h=>.inr ⟨aD,by rw[<-f];simp;omega⟩⟩ (by rw[<-f];exact(aY.refl _ n0 w).alloc m _)
 refine⟨w.heap.size,[],c,{target:=.fn (.func gf) y,args:=#[.func (.yield w.heap.size) #[] #[]]},c,gf,
  #[.func (.yield w.heap.size) #[] #[]]++y,c,?_,?_,fun _ _=>trivial,?_,fun h=>by simp[Fence.wide,Fence.inRound] at h,?_⟩
 ·rw[<-f];exact run_enterLoop_inner hr0 _ _ _ _ _
 ·exact am6
 ·simp[invoke,go_sem,M]
 ·rw[jF]
  refine(Bo (l:=w.heap.size) C k E s aL m (fun b=>b=w.heap.size) rfl I hI N w.heap.size (fun b h=>.inl h) (fun _=>⟨_,by exact trivial,s⟩) H
   (fun F pre x W R T=>jB w.heap.size F pre x W ⟨_,R⟩ aL T)).mono ?_
  rintro e j ⟨⟨v,rfl⟩,U,u, -,F,i, -,V,X⟩;exact⟨none,U,u,hdone F i _ V X⟩
end Go.Proofs.YtohddpbgflgiaaaGreatDoor
