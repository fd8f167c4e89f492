/- Part 9 of the walks and plain laws that the proof needs (packed). -/
import Derived.Laws.EntriesVeiled
import Derived.Test.YtobgljfnfpolkaaGreatDoorQ5
import Derived.Test.YtobgljfnfpolkaaGreatDoorQ7
import Derived.Test.YtobgljfnfpolkaaGreatDoorQ8
set_option linter.all false
set_option maxRecDepth 100000
set_option maxHeartbeats 8000000
namespace Go.Proofs.YtobgljfnfpolkaaGreatDoor
open Go.RowKit
def jk(ver:Int)(ak:Option Addr)(nk ck:Nat)(al:Option Addr)(nl cl:Nat)(ar:Option Addr)(nr cr:Nat)(i j:Int)(f:ah.cA)(uw ug:Value):List Value:=
 [.int .i64 ver,.slice ak nk ck,.slice al nl cl,.slice ar nr cr,.int .i64 i,.int .i64 j,.string f.name,.string f.of,.string f.up,.int .i64 f.kind,.int .i64 f.lo,.int .i64 f.hi,uw,ug]
theorem eE{w:World}{F:Nat}{x0 x1 x2 x3 x4 x5 x6 x7 x8 x9 x10 x11 x12 x13:Value}{t:TypeId}(h:w.heap[F]?=some (.cells #[x0,x1,x2,x3,x4,x5,x6,x7,x8,x9,x10,x11,x12,x13] t (0,0))):
  (w.cell? ⟨F,0,none⟩=some x0/\w.cell? ⟨F,1,none⟩=some x1/\w.cell? ⟨F,2,none⟩=some x2/\w.cell? ⟨F,3,none⟩=some x3/\w.cell? ⟨F,4,none⟩=some x4/\w.cell? ⟨F,5,none⟩=some x5/\w.cell? ⟨F,6,none⟩=some x6/\w.cell? ⟨F,7,none⟩=some x7/\w.cell? ⟨F,8,none⟩=some x8/\w.cell? ⟨F,9,none⟩=some x9/\w.cell? ⟨F,10,none⟩=some x10/\w.cell? ⟨F,11,none⟩=some x11/\w.cell? ⟨F,12,none⟩=some x12/\w.cell? ⟨F,13,none⟩=some x13)/\∀i,w.frozen? ⟨F,i,none⟩=false:=
 ⟨⟨aI h 0,aI h 1,aI h 2,aI h 3,aI h 4,aI h 5,aI h 6,aI h 7,aI h 8,aI h 9,aI h 10,aI h 11,aI h 12,aI h 13⟩,bh h⟩
theorem zT(x:ah.bD)(i j:Int)(f:ah.cA)(ak al ar:Option Addr)(ck cl cr:Nat)(uw ug:Value)(S:Nat->Prop)(w:World)(hv:eU S w (.agg #[.int .i64 x.af6,.slice ak x.af3.length ck,.slice al x.af7.length cl,.slice ar x.af8.length cr]) x):
  Calls Tryz.prog 273 #[.agg (jk x.af6 ak x.af3.length ck al x.af7.length cl ar x.af8.length cr i j f uw ug).toArray] w fun e w'=>e=.returned (.bool (decide (ah.dB x i j<0)))/\BL w w':=by
 have HV:=hid (fun(W:World) (hW:BL w W)=>hv.keep (aA.below hW));clear hv;obtain⟨fn,fo,fu,fk,fl,fh,Gj,Gl⟩:=f;simp only[jk];obtain⟨w1,hw1⟩:=nmE (w.alloc (.cells #[.int .i64 x.af6,.slice ak x.af3.length ck,.slice al x.af7.length cl,.slice ar x.af8.length cr,.int .i64 i,.int .i64 j,.string fn,.string fo,.string fu,.int .i64 fk,.int .i64 fl,.int .i64 fh,uw,ug] 242));have aW:Hid (Below w.heap.size w w1):=hid (by rw[hw1];exact aj.alloc aB _);have HX:Hid (∀W,BL w1 W->W.heap[w.heap.size]?=some (.cells #[.int .i64 x.af6,.slice ak x.af3.length ck,.slice al x.af7.length cl,.slice ar x.af8.length cr,.int .i64 i,.int .i64 j,.string fn,.string fo,.string fu,.int .i64 fk,.int .i64 fl,.int .i64 fh,uw,ug] 242 (0,0))):=hid (fun W hW=>(hW.block _ (by rw[hw1];simp)).trans (by rw[hw1];exact aD w _ rfl));have HW:=hid hw1;clear hw1;have HU:=hid (DP x i j _ S w1 (HV.out w1 aW.out));generalize ah.dB x i j=uz at*;obtain⟨⟨y0,y1,y2,y3,y4,y5,y6,y7,y8,y9,Fs,Ft,Fu,Fv⟩, -⟩:=eE (HX.out w1 aj);go_enter Tryz.func273,Tryz.ntmps273;go_upto_region 1 with fail;rw[<-HW.out];go_wp2_with fail;refine HU.out.mono ?_;rintro e w2 ⟨rfl,hb2⟩;have bB:=bq aW hb2;clear hb2;go_wp2;go_ret;exact⟨rfl,bB.out⟩
theorem PY{w:World}{g:Nat}{x0 x1 x2 x3 x4 x5 x6 x7 bd:Value}{tmps:Array Value}(h:w.heap[g]?=some (.cells #[x0,x1,x2,x3,x4,x5,x6,x7] 117 (0,0)))(hp:tmps[2]?=some (.pointer (some ⟨g,0,none⟩)))(hq:tmps[3]?=some bd):
  (results Tryz.f283 tmps).run Tryz.prog w=.ok (.tuple #[.agg #[x0,x1,x2,x3,x4,x5,x6,x7],bd]) w:=by
 obtain⟨⟨h0,h1,h2,h3,h4,h5,h6,h7⟩, -⟩:=dn h;simp[results,Tryz.results283,go_sem,hp,hq,h0,h1,h2,h3,h4,h5,h6,h7]
def jH(x:ah.bD)(i j:Int)(f:ah.cA):Int:=ah.aX (ah.kd x (ah.dB x i j)) f.of
def LL(x:ah.bD)(i j:Int)(f:ah.cA)(w:World)(e:Ending)(w':World):Prop:=
 ∃a1 n1 c1 a2 n2 c2,e=.returned (.tuple #[.agg (bX (jr x (ah.dB x i j) (jH x i j f)) (.slice a1 n1 c1) (.slice a2 n2 c2)).toArray,.bool (ah.hasB x (ah.dB x i j) (jH x i j f))])/\BL w w'
theorem Kz(x:ah.bD)(i j:Int)(f:ah.cA)(ak al ar:Option Addr)(ck cl cr:Nat)(uw ug:Value)(S:Nat->Prop)(w:World)(hv:eU S w (.agg #[.int .i64 x.af6,.slice ak x.af3.length ck,.slice al x.af7.length cl,.slice ar x.af8.length cr]) x)(hi:0<=i/\i<x.af3.length)(hup:0<=ah.dB x i j):
  Calls Tryz.prog 283 #[.agg (jk x.af6 ak x.af3.length ck al x.af7.length cl ar x.af8.length cr i j f uw ug).toArray] w (LL x i j f w):=by
 refine Calls.mono (R:=fun e w'=>Hid (LL x i j f w e w')) ?_ (fun _ _ h=>h.out);have HV:=hid (fun(W:World) (hW:BL w W)=>hv.keep (aA.below hW));have hlt:=ah.vo x i j hi.1;obtain⟨o,ho⟩:∃o:Nat,ah.dB x i j=(o:Int):=⟨(ah.dB x i j).toNat,by omega⟩;have hok:o<x.af3.length:=by omega
 have HTP:Hid (∀e w' a1 n1 c1 a2 n2 c2,e=.returned (.tuple #[.agg (bX (jr x o (ah.aX (ah.kd x o) f.of)) (.slice a1 n1 c1) (.slice a2 n2 c2)).toArray,.bool (ah.hasB x o (ah.aX (ah.kd x o) f.of))])->BL w w'->LL x i j f w e w'):=hid (fun e w' a1 n1 c1 a2 n2 c2 he hb=>⟨a1,n1,c1,a2,n2,c2,by unfold jH;rw[ho];exact he,hb⟩);generalize LL x i j f w=TP at*;obtain⟨ak',Yc,al',LM,ar',cr',hvf,hk, -, -,hsk, -, -⟩:=hv.form
 obtain⟨-,e1, -, -⟩:x.af6=x.af6/\ak=ak'/\True/\True:=by
  simp only[Value.agg.injEq,Array.mk.injEq,List.cons.injEq,Value.slice.injEq] at hvf;exact⟨rfl,hvf.2.1.1,trivial,trivial⟩
 subst e1
 have e2:ck=Yc:=by
  simp only[Value.agg.injEq,Array.mk.injEq,List.cons.injEq,Value.slice.injEq] at hvf;exact hvf.2.1.2.2
 subst e2;clear hvf hv;obtain⟨lU, -,k0,k1,k2,uf,k3,nU⟩:=hk.at hok;obtain⟨af,cf,rfl, -, -, -⟩:=nU.form;have Iu:=hid (fun(s:ByteArray) (W:World) (hW:BL w W)=>jX x.af3[o] s _ S W (nU.keep (aA.below hW)));have KZ:Hid (ah.kd x o=x.af3[o]):=hid (fM hok)
 have sS:Hid (∀W,BL w W->W.cell? ⟨aY ak,bC ak+o*4,none⟩=some (.string x.af3[o].name)/\W.cell? ⟨aY ak,bC ak+o*4+1,none⟩=some (.int .i64 x.af3[o].lo)/\W.cell? ⟨aY ak,bC ak+o*4+2,none⟩=some (.int .i64 x.af3[o].hi)/\W.cell? ⟨aY ak,bC ak+o*4+3,none⟩=some (.slice af x.af3[o].af4.length cf)):=hid (fun W hW=>
   ⟨(hW.cell (p:=⟨aY ak,bC ak+o*4,none⟩) lU).trans k0,(hW.cell (p:=⟨aY ak,bC ak+o*4+1,none⟩) lU).trans k1,(hW.cell (p:=⟨aY ak,bC ak+o*4+2,none⟩) lU).trans k2,(hW.cell (p:=⟨aY ak,bC ak+o*4+3,none⟩) lU).trans k3⟩)
 rw[KZ.out] at HTP;clear k0 k1 k2 k3 nU hk KZ;generalize x.af3[o]=kd at*;obtain⟨kn,CU,CV,Bt⟩:=kd;obtain⟨fn,fo,fu,fk,fl,fh,Gj,Gl⟩:=f;simp only[kC] at Iu;simp only at HTP sS;simp only[jk];have HFo:=hid (Iu.out fo);generalize ah.aX ⟨kn,CU,CV,Bt⟩ fo=tz at*;generalize Bt.length=nf at*;clear Iu;obtain⟨w1,hw1⟩:=nmE ((w.alloc (.cells #[.int .i64 x.af6,.slice ak x.af3.length ck,.slice al x.af7.length cl,.slice ar x.af8.length cr,.int .i64 i,.int .i64 j,.string fn,.string fo,.string fu,.int .i64 fk,.int .i64 fl,.int .i64 fh,uw,ug] 242)).alloc (.cells #[.string {data:=#[]},.string {data:=#[]},.string {data:=#[]},.int .i64 0,.int .i64 0,.int .i64 0,.slice none 0 0,.slice none 0 0] 117));have aW:Hid (Below w.heap.size w w1):=hid (by rw[hw1];exact(aj.alloc aB _).alloc (by simp) _);have HX:Hid (∀W,BL w1 W->W.heap[w.heap.size]?=some (.cells #[.int .i64 x.af6,.slice ak x.af3.length ck,.slice al x.af7.length cl,.slice ar x.af8.length cr,.int .i64 i,.int .i64 j,.string fn,.string fo,.string fu,.int .i64 fk,.int .i64 fl,.int .i64 fh,uw,ug] 242 (0,0))):=hid (fun W hW=>(hW.block _ (by rw[hw1];simp;omega)).trans (by rw[hw1];exact aG _ (aD w _ rfl)));have HG:Hid (∀W,BL w1 W->W.heap[w.heap.size+1]?=some (.cells #[.string {data:=#[]},.string {data:=#[]},.string {data:=#[]},.int .i64 0,.int .i64 0,.int .i64 0,.slice none 0 0,.slice none 0 0] 117 (0,0))):=hid (fun W hW=>(hW.block _ (by rw[hw1];simp)).trans (by rw[hw1];exact aD _ _ (by simp)));have HW:=hid hw1;clear hw1;have HU:=hid (DP x i j _ S w1 (HV.out w1 aW.out));rw[ho] at HU;have hz1:w.heap.size<w1.heap.size:=ay (HX.out w1 aj);have Vu:(0:Int)<=o:=by omega
 have Tf:(o:Int)<x.af3.length:=by omega
 have hon:¬(o:Int)<0:=by omega
 have pT:=hid (fun(W:World) (hW:BL w W)=>lg x (o:Int) tz _ S W (HV.out W hW));have HTP2:Hid (∀e w' a1 n1 c1 a2 n2 c2,e=.returned (.tuple #[.agg (bX (jr x o tz) (.slice a1 n1 c1) (.slice a2 n2 c2)).toArray,.bool (ah.hasB x o tz)])->BL w w'->TP e w'):=HTP;clear HTP hup hlt;clear ho;obtain⟨⟨y0,y1,y2,y3,y4,y5,y6,y7,y8,y9,Fs,Ft,Fu,Fv⟩, -⟩:=eE (HX.out w1 aj);go_enter Tryz.func283,Tryz.ntmps283;go_upto_region 1 with fail;rw[<-HW.out];go_wp2_with fail;refine HU.out.mono ?_;rintro e w2 ⟨rfl,hb2⟩;have cU:Hid (BL w1 w2):=hid hb2;have bB:=bq aW hb2;clear hb2 y0 y1 y2 y3 y4 y5 y6 y7 y8 y9 Fs Ft Fu Fv HU;go_upto_region 4 with fail;have Bj:=hqC w2 ⟨w.heap.size,0,none⟩ (.int .i64 x.af6) fun xh=>(eE (HX.out xh.1 (tnB cU.out xh.2))).1.1;have hq1:=hqC w2 ⟨w.heap.size,1,none⟩ (.slice ak x.af3.length ck) fun xh=>(eE (HX.out xh.1 (tnB cU.out xh.2))).1.2.1;have xY:=hqC w2 ⟨w.heap.size,2,none⟩ (.slice al x.af7.length cl) fun xh=>(eE (HX.out xh.1 (tnB cU.out xh.2))).1.2.2.1;have Px:=hqC w2 ⟨w.heap.size,3,none⟩ (.slice ar x.af8.length cr) fun xh=>(eE (HX.out xh.1 (tnB cU.out xh.2))).1.2.2.2.1;have hq7:=hqC w2 ⟨w.heap.size,7,none⟩ (.string fo) fun xh=>(eE (HX.out xh.1 (tnB cU.out xh.2))).1.2.2.2.2.2.2.2.1;have Bu:=hqC w2 ⟨aY ak,bC ak+o*4,none⟩ (.string kn) fun xh=>(sS.out xh.1 (tnB bB.out xh.2)).1;have Iz:=hqC w2 ⟨aY ak,bC ak+o*4+1,none⟩ (.int .i64 CU) fun xh=>(sS.out xh.1 (tnB bB.out xh.2)).2.1;have IA:=hqC w2 ⟨aY ak,bC ak+o*4+2,none⟩ (.int .i64 CV) fun xh=>(sS.out xh.1 (tnB bB.out xh.2)).2.2.1;have Bv:=hqC w2 ⟨aY ak,bC ak+o*4+3,none⟩ (.slice af nf cf) fun xh=>(sS.out xh.1 (tnB bB.out xh.2)).2.2.2;refine cH 16 (.quiet 0 (.quiet 1 (.quiet 2 (.quiet 3 (.quiet 4 (.quiet 5 (.quiet 6 (.quiet 7 (.quiet 8 (.quiet 9 (.quiet 10 (.quiet 11 (.one 12 (.one 13 (.quiet 14 (.quiet 15 .done)))))))))))))))) (BL w2) mxT (by kernel_rfl) (af5 aj 1) ?_;have PZ:=hid (af5 (Below.refl w2.heap.size w2) 1);generalize w2.drewN 1=w3 at*
 iterate 12
  refine ai rfl ?_
  intro hne
  go_big_quiet_step (fail)
  refine zWq ?_
  clear hne
 refine aH rfl ?_;go_wp2_with fail;refine(HFo.out w3 (tnB bB.out PZ.out)).mono ?_;rintro e w4 ⟨rfl,hb4⟩;have Eg:=bq PZ hb4;clear hb4;go_wp2_with fail;refine aC (BL w2) (fun _ h=>h) Eg.out ?_;refine aH rfl ?_;go_wp2_with fail;refine(pT.out w4 (tnB bB.out Eg.out)).mono ?_;rintro e w5 ⟨a1,n1,c1,a2,n2,c2,rfl, -,gL⟩;have KA:=bq Eg gL;clear gL;have xZ:Hid (∀w',BL w w'->TP (.returned (.tuple #[.agg (bX (jr x o tz) (.slice a1 n1 c1) (.slice a2 n2 c2)).toArray,.bool (ah.hasB x o tz)])) w'):=hid (fun w' hb=>HTP2.out _ _ a1 n1 c1 a2 n2 c2 rfl hb);generalize ah.hasB x o tz=hb at*;generalize jr x o tz=g at*;obtain⟨gn,go,gu,gk,gl,gh,Gn,ggs⟩:=g;simp only[bX] at xZ ⊢;go_wp2_with fail;refine aC (BL w2) (fun _ h=>h) KA.out ?_
 iterate 2
  refine ai rfl ?_
  intro hne
  go_big_quiet_step (fail)
  refine zWq ?_
  clear hne
 refine aL ?_;try simp only[zDs,zDz]
 clear Bj hq1 xY Px hq7 Bu Iz IA Bv;have fS:=bq cU KA.out;have dP:=bq aW fS.out;obtain⟨⟨g0,g1,g2,g3,g4,g5,g6,g7⟩,gf⟩:=dn (HG.out w5 fS.out);have HS:=hid (Gz (HG.out w5 fS.out) (.string gn) (.string go) (.string gu) (.int .i64 gk) (.int .i64 gl) (.int .i64 gh) (.slice a1 n1 c1) (.slice a2 n2 c2));go_wp2;exact bodyPost_ret (PY HS.out.1 rfl rfl) rfl (hid (xZ.out _ (dP.out.trans (Turns.below HS.out.2 dP.out.size (fun b hb=>by omega)))))
theorem jg(b0:Bool)(c0:Int)(g cap:Nat)(w:World){t:TypeId}(h0:b0=false)(h:w.heap[g]?=some (.cells #[.bool b0,.int .i64 c0] t (0,0))):
  Calls Tryz.prog 133 #[.slice (some ⟨g,0,none⟩) 1 cap] w fun e w'=>e=.returned (.int .i64 0)/\BL w w':=by
 subst h0;refine vG 1 (fun _=>c0) g cap w (by omega) (ay h) (fun i hi=>?_);obtain rfl:i=0:=by omega
 exact⟨aI h 0,aI h 1⟩
theorem lV(b0 b1:Bool)(c0 c1:Int)(g cap:Nat)(w:World){t:TypeId}(h0:b0=false)(h1:b1=false)(h:w.heap[g]?=some (.cells #[.bool b0,.int .i64 c0,.bool b1,.int .i64 c1] t (0,0))):
  Calls Tryz.prog 133 #[.slice (some ⟨g,0,none⟩) 2 cap] w fun e w'=>e=.returned (.int .i64 0)/\BL w w':=by
 subst h0 h1;refine vG 2 (fun i=>if i=0 then c0 else c1) g cap w (by omega) (ay h) (fun i hi=>?_);match i,hi with
 |0,_=>exact⟨aI h 0,aI h 1⟩
 |1,_=>exact⟨aI h 2,aI h 3⟩
theorem IB(b0 b1 b2 b3:Bool)(c0 c1 c2 c3:Int)(g cap:Nat)(w:World){t:TypeId}(h0:b0=false)(h1:b1=false)(h2:b2=false)(h3:b3=false)(h:w.heap[g]?=some (.cells #[.bool b0,.int .i64 c0,.bool b1,.int .i64 c1,.bool b2,.int .i64 c2,.bool b3,.int .i64 c3] t (0,0))):
  Calls Tryz.prog 133 #[.slice (some ⟨g,0,none⟩) 4 cap] w fun e w'=>e=.returned (.int .i64 0)/\BL w w':=by
 subst h0 h1 h2 h3;refine vG 4 (fun i=>if i=0 then c0 else if i=1 then c1 else if i=2 then c2 else c3) g cap w (by omega) (ay h) (fun i hi=>?_);match i,hi with
 |0,_=>exact⟨aI h 0,aI h 1⟩
 |1,_=>exact⟨aI h 2,aI h 3⟩
 |2,_=>exact⟨aI h 4,aI h 5⟩
 |3,_=>exact⟨aI h 6,aI h 7⟩
theorem IC(x:ah.bD)(i j:Int)(f:ah.cA)(ak al ar:Option Addr)(ck cl cr:Nat)(uw ug:Value)(S:Nat->Prop)(w:World)(hv:eU S w (.agg #[.int .i64 x.af6,.slice ak x.af3.length ck,.slice al x.af7.length cl,.slice ar x.af8.length cr]) x)(hj:j=0):
  Calls Tryz.prog 276 #[.agg (jk x.af6 ak x.af3.length ck al x.af7.length cl ar x.af8.length cr i j f uw ug).toArray] w fun e w'=>e=.returned (.int .i64 0)/\BL w w':=by
 have HV:=hid (fun(W:World) (hW:BL w W)=>hv.keep (aA.below hW));subst hj;clear HV;clear hv;obtain⟨fn,fo,fu,fk,fl,fh,Gj,Gl⟩:=f;simp only[jk] at*;obtain⟨w1,hw1⟩:=nmE (w.alloc (.cells #[.int .i64 x.af6,.slice ak x.af3.length ck,.slice al x.af7.length cl,.slice ar x.af8.length cr,.int .i64 i,.int .i64 0,.string fn,.string fo,.string fu,.int .i64 fk,.int .i64 fl,.int .i64 fh,uw,ug] 242));have aW:Hid (Below w.heap.size w w1):=hid (by rw[hw1];exact aj.alloc aB _);have HX:Hid (∀W,BL w1 W->W.heap[w.heap.size]?=some (.cells #[.int .i64 x.af6,.slice ak x.af3.length ck,.slice al x.af7.length cl,.slice ar x.af8.length cr,.int .i64 i,.int .i64 0,.string fn,.string fo,.string fu,.int .i64 fk,.int .i64 fl,.int .i64 fh,uw,ug] 242 (0,0))):=hid (fun W hW=>(hW.block _ (by rw[hw1];simp)).trans (by rw[hw1];exact aD w _ rfl));have HW:=hid hw1;clear hw1;obtain⟨⟨y0,y1,y2,y3,y4,y5,y6,y7,y8,y9,Fs,Ft,Fu,Fv⟩, -⟩:=eE (HX.out w1 aj);go_enter Tryz.func276,Tryz.ntmps276;go_upto_region 1 with fail;rw[<-HW.out];go_wp2_with fail;refine(jg _ _ _ _ (World.alloc _ _) (by rfl) (aD _ _ rfl)).mono ?_;rintro e wz ⟨rfl,hbz⟩;have su:Hid (BL w wz):=hid ((aW.out.alloc aW.out.size _).trans (hbz.mono (by have:=aW.out.size;simp;omega)));clear hbz;go_wp2;go_ret;exact⟨rfl,su.out⟩
theorem IE(x:ah.bD)(i j:Int)(f:ah.cA)(ak al ar:Option Addr)(ck cl cr:Nat)(uw ug:Value)(S:Nat->Prop)(w:World)(hv:eU S w (.agg #[.int .i64 x.af6,.slice ak x.af3.length ck,.slice al x.af7.length cl,.slice ar x.af8.length cr]) x)(hup:0<=ah.dB x i j):
  Calls Tryz.prog 277 #[.agg (jk x.af6 ak x.af3.length ck al x.af7.length cl ar x.af8.length cr i j f uw ug).toArray] w fun e w'=>e=.returned (.int .i64 0)/\BL w w':=by
 have HV:=hid (fun(W:World) (hW:BL w W)=>hv.keep (aA.below hW));have LD:=hid (fun(W:World) (hW:BL w W)=>zT x i j f ak al ar ck cl cr uw ug S W (HV.out W hW));rw[decide_eq_false (show ¬ah.dB x i j<0 by omega)] at LD;clear hv;obtain⟨fn,fo,fu,fk,fl,fh,Gj,Gl⟩:=f;simp only[jk] at*;obtain⟨w1,hw1⟩:=nmE (w.alloc (.cells #[.int .i64 x.af6,.slice ak x.af3.length ck,.slice al x.af7.length cl,.slice ar x.af8.length cr,.int .i64 i,.int .i64 j,.string fn,.string fo,.string fu,.int .i64 fk,.int .i64 fl,.int .i64 fh,uw,ug] 242));have aW:Hid (Below w.heap.size w w1):=hid (by rw[hw1];exact aj.alloc aB _);have HX:Hid (∀W,BL w1 W->W.heap[w.heap.size]?=some (.cells #[.int .i64 x.af6,.slice ak x.af3.length ck,.slice al x.af7.length cl,.slice ar x.af8.length cr,.int .i64 i,.int .i64 j,.string fn,.string fo,.string fu,.int .i64 fk,.int .i64 fl,.int .i64 fh,uw,ug] 242 (0,0))):=hid (fun W hW=>(hW.block _ (by rw[hw1];simp)).trans (by rw[hw1];exact aD w _ rfl));have HW:=hid hw1;clear hw1;obtain⟨⟨y0,y1,y2,y3,y4,y5,y6,y7,y8,y9,Fs,Ft,Fu,Fv⟩, -⟩:=eE (HX.out w1 aj);go_enter Tryz.func277,Tryz.ntmps277;go_upto_region 1 with fail;rw[<-HW.out];go_wp2_with fail;refine(LD.out w1 aW.out).mono ?_;rintro e w2 ⟨rfl,hb2⟩;have cU:Hid (BL w1 w2):=hid ((Below.refl w1.heap.size w1).trans (hb2.mono (Below.refl w1.heap.size w1).size));have bB:=bq aW hb2;clear hb2;go_wp2_with fail;refine(jg _ _ _ _ (World.alloc _ _) rfl (aD _ _ rfl)).mono ?_;rintro e wz ⟨rfl,hbz⟩;have su:Hid (BL w wz):=hid ((bB.out.alloc bB.out.size _).trans (hbz.mono (by have:=bB.out.size;simp;omega)));clear hbz;go_wp2;go_ret;exact⟨rfl,su.out⟩
theorem Fw(nm s:ByteArray)(u1 u2:Value)(b:Nat)(w:World)(hb:w.cell? ⟨b,7,none⟩=some (.string s)):
  Calls Tryz.prog 280 #[.agg #[.string nm,u1,u2],.pointer (some ⟨b,0,none⟩)] w fun e w'=>e=.returned (.bool (decide (nm=s)))/\BL w w':=by
 have hz:b<w.heap.size:=zBl w ⟨b,7,none⟩ hb;have HD:Hid ((nm.toList==s.toList)=decide (nm=s)):=hid GD;go_enter Tryz.func280,Tryz.ntmps280;go_wp2;go_ret;exact⟨by rw[<-HD.out];rfl,aj.alloc aB _⟩
theorem IG(x:ah.bD)(i j:Int)(f:ah.cA)(ak al ar:Option Addr)(ck cl cr:Nat)(uw ug:Value)(S:Nat->Prop)(w:World)(hv:eU S w (.agg #[.int .i64 x.af6,.slice ak x.af3.length ck,.slice al x.af7.length cl,.slice ar x.af8.length cr]) x)(hl:ah.JR x f.of=true):
  Calls Tryz.prog 279 #[.agg (jk x.af6 ak x.af3.length ck al x.af7.length cl ar x.af8.length cr i j f uw ug).toArray] w fun e w'=>e=.returned (.int .i64 0)/\BL w w':=by
 have HV:=hid (fun(W:World) (hW:BL w W)=>hv.keep (aA.below hW));obtain⟨ak',Yc,al',LM,ar',cr',hvf, -,hls, -, -, -, -⟩:=hv.form
 have e1:al=al':=by
  simp only[Value.agg.injEq,Array.mk.injEq,List.cons.injEq,Value.slice.injEq] at hvf;exact hvf.2.2.1.1
 subst e1
 have e2:cl=LM:=by
  simp only[Value.agg.injEq,Array.mk.injEq,List.cons.injEq,Value.slice.injEq] at hvf;exact hvf.2.2.1.2.2
 subst e2;clear hvf;have HLv:=hid (fun(W:World) (hW:BL w W)=>dA.keep cE hls (aA.below hW));have HLI:Hid (x.af7.any (fun l=>decide (l.name=f.of))=true):=hid hl;clear hls hl;clear hv;obtain⟨fn,fo,fu,fk,fl,fh,Gj,Gl⟩:=f;simp only[jk] at*;obtain⟨w1,hw1⟩:=nmE (w.alloc (.cells #[.int .i64 x.af6,.slice ak x.af3.length ck,.slice al x.af7.length cl,.slice ar x.af8.length cr,.int .i64 i,.int .i64 j,.string fn,.string fo,.string fu,.int .i64 fk,.int .i64 fl,.int .i64 fh,uw,ug] 242));have aW:Hid (Below w.heap.size w w1):=hid (by rw[hw1];exact aj.alloc aB _);have HX:Hid (∀W,BL w1 W->W.heap[w.heap.size]?=some (.cells #[.int .i64 x.af6,.slice ak x.af3.length ck,.slice al x.af7.length cl,.slice ar x.af8.length cr,.int .i64 i,.int .i64 j,.string fn,.string fo,.string fu,.int .i64 fk,.int .i64 fl,.int .i64 fh,uw,ug] 242 (0,0))):=hid (fun W hW=>(hW.block _ (by rw[hw1];simp)).trans (by rw[hw1];exact aD w _ rfl));have HW:=hid hw1;clear hw1;obtain⟨⟨y0,y1,y2,y3,y4,y5,y6,y7,y8,y9,Fs,Ft,Fu,Fv⟩, -⟩:=eE (HX.out w1 aj);have hz1:w.heap.size<w1.heap.size:=ay (HX.out w1 aj)
 have Gp:=hid (DH cE x.af7 (fun l:ah.Eb=>decide (l.name=fo)) _ S w1 (HLv.out w1 aW.out) 280 #[.pointer (some ⟨w.heap.size,0,none⟩)] (aZ Tryz.func280 (by kernel_rfl) rfl) (fun X hX j hj us _ hu=>by
  obtain⟨u1,u2,rfl, -, -⟩:=hu;exact Fw _ fo u1 u2 _ X ((hX.cell (p:=⟨w.heap.size,7,none⟩) hz1).trans (eE (HX.out w1 aj)).1.2.2.2.2.2.2.2.1)))
 rw[HLI.out] at Gp;go_enter Tryz.func279,Tryz.ntmps279;go_upto_region 1 with fail;rw[<-HW.out];go_wp2_with fail;refine Gp.out.mono ?_;rintro e w2 ⟨rfl,hb2⟩;have cU:Hid (BL w1 w2):=hid ((Below.refl w1.heap.size w1).trans (hb2.mono (Below.refl w1.heap.size w1).size));have bB:=bq aW hb2;clear hb2;go_wp2_with fail;refine(jg _ _ _ _ (World.alloc _ _) rfl (aD _ _ rfl)).mono ?_;rintro e wz ⟨rfl,hbz⟩;have su:Hid (BL w wz):=hid ((bB.out.alloc bB.out.size _).trans (hbz.mono (by have:=bB.out.size;simp;omega)));clear hbz;go_wp2;go_ret;exact⟨rfl,su.out⟩
theorem II(x:ah.bD)(i j:Int)(f:ah.cA)(ak al ar:Option Addr)(ck cl cr:Nat)(uw ug:Value)(S:Nat->Prop)(w:World)(hv:eU S w (.agg #[.int .i64 x.af6,.slice ak x.af3.length ck,.slice al x.af7.length cl,.slice ar x.af8.length cr]) x)(hi:0<=i)(ho:0<=ah.eY x i f)(hs:(ah.eZ x i f).length=1)(h6:x.af3.length<=1000)(h10:∀k∈x.af3,k.af4.length<=1000):
  Calls Tryz.prog 281 #[.agg (jk x.af6 ak x.af3.length ck al x.af7.length cl ar x.af8.length cr i j f uw ug).toArray] w fun e w'=>e=.returned (.int .i64 0)/\BL w w':=by
 have HV:=hid (fun(W:World) (hW:BL w W)=>hv.keep (aA.below hW));have Iw:=hid (fun(W:World) (hW:BL w W)=>zR x i hi f _ uw ug S W (HV.out W hW) h6 h10);unfold qN at Iw;rw[hs] at Iw;have HO:=hid ho;generalize ah.eY x i f=oi at*;generalize ah.eZ x i f=sl at*;clear hs ho h6 h10;clear hv;obtain⟨fn,fo,fu,fk,fl,fh,Gj,Gl⟩:=f;simp only[jk,bX] at*;obtain⟨w1,hw1⟩:=nmE (w.alloc (.cells #[.int .i64 x.af6,.slice ak x.af3.length ck,.slice al x.af7.length cl,.slice ar x.af8.length cr,.int .i64 i,.int .i64 j,.string fn,.string fo,.string fu,.int .i64 fk,.int .i64 fl,.int .i64 fh,uw,ug] 242));have aW:Hid (Below w.heap.size w w1):=hid (by rw[hw1];exact aj.alloc aB _);have HX:Hid (∀W,BL w1 W->W.heap[w.heap.size]?=some (.cells #[.int .i64 x.af6,.slice ak x.af3.length ck,.slice al x.af7.length cl,.slice ar x.af8.length cr,.int .i64 i,.int .i64 j,.string fn,.string fo,.string fu,.int .i64 fk,.int .i64 fl,.int .i64 fh,uw,ug] 242 (0,0))):=hid (fun W hW=>(hW.block _ (by rw[hw1];simp)).trans (by rw[hw1];exact aD w _ rfl));have HW:=hid hw1;clear hw1;obtain⟨⟨y0,y1,y2,y3,y4,y5,y6,y7,y8,y9,Fs,Ft,Fu,Fv⟩, -⟩:=eE (HX.out w1 aj);go_enter Tryz.func281,Tryz.ntmps281;go_upto_region 1 with fail;rw[<-HW.out];go_wp2_with fail;refine(Iw.out w1 aW.out).mono ?_;rintro e w2 ⟨a,c,rfl, -,hb2⟩;have cU:Hid (BL w1 w2):=hid ((Below.refl w1.heap.size w1).trans (hb2.mono (Below.refl w1.heap.size w1).size));have bB:=bq aW hb2;clear hb2;go_wp2_with fail;refine(lV _ _ _ _ _ _ (World.alloc _ _) (decide_eq_false (by have:=HO.out;omega)) (by rfl) (aD _ _ rfl)).mono ?_;rintro e wz ⟨rfl,hbz⟩;have su:Hid (BL w wz):=hid ((bB.out.alloc bB.out.size _).trans (hbz.mono (by have:=bB.out.size;simp;omega)));clear hbz;go_wp2;go_ret;exact⟨rfl,su.out⟩
theorem IJ(x:ah.bD)(i j:Int)(f:ah.cA)(ak al ar:Option Addr)(ck cl cr:Nat)(uw ug:Value)(S:Nat->Prop)(w:World)(hv:eU S w (.agg #[.int .i64 x.af6,.slice ak x.af3.length ck,.slice al x.af7.length cl,.slice ar x.af8.length cr]) x)(hi:0<=i/\i<x.af3.length)(hd:f.of=ah.nil\/(0<=ah.aX (ah.kd x i) f.of/\ah.aX (ah.kd x i) f.of<j/\(jr x i (ah.aX (ah.kd x i) f.of)).kind=4)):
  Calls Tryz.prog 278 #[.agg (jk x.af6 ak x.af3.length ck al x.af7.length cl ar x.af8.length cr i j f uw ug).toArray] w fun e w'=>e=.returned (.int .i64 0)/\BL w w':=by
 have HV:=hid (fun(W:World) (hW:BL w W)=>hv.keep (aA.below hW));obtain⟨ak',Yc,al',LM,ar',cr',hvf,hk, -, -,hsk, -, -⟩:=hv.form
 have e1:ak=ak':=by
  simp only[Value.agg.injEq,Array.mk.injEq,List.cons.injEq,Value.slice.injEq] at hvf;exact hvf.2.1.1
 subst e1
 have e2:ck=Yc:=by
  simp only[Value.agg.injEq,Array.mk.injEq,List.cons.injEq,Value.slice.injEq] at hvf;exact hvf.2.1.2.2
 subst e2;clear hvf;obtain⟨o,rfl⟩:∃o:Nat,i=(o:Int):=⟨i.toNat,by omega⟩;have hok:o<x.af3.length:=by omega
 obtain⟨lU, -,k0,k1,k2,uf,k3,nU⟩:=hk.at hok;obtain⟨af,cf,rfl, -, -, -⟩:=nU.form;have Iu:=hid (fun(s:ByteArray) (W:World) (hW:BL w W)=>jX x.af3[o] s _ S W (nU.keep (aA.below hW)))
 have sS:Hid (∀W,BL w W->W.cell? ⟨aY ak,bC ak+o*4,none⟩=some (.string x.af3[o].name)/\W.cell? ⟨aY ak,bC ak+o*4+1,none⟩=some (.int .i64 x.af3[o].lo)/\W.cell? ⟨aY ak,bC ak+o*4+2,none⟩=some (.int .i64 x.af3[o].hi)/\W.cell? ⟨aY ak,bC ak+o*4+3,none⟩=some (.slice af x.af3[o].af4.length cf)):=hid (fun W hW=>
   ⟨(hW.cell (p:=⟨aY ak,bC ak+o*4,none⟩) lU).trans k0,(hW.cell (p:=⟨aY ak,bC ak+o*4+1,none⟩) lU).trans k1,(hW.cell (p:=⟨aY ak,bC ak+o*4+2,none⟩) lU).trans k2,(hW.cell (p:=⟨aY ak,bC ak+o*4+3,none⟩) lU).trans k3⟩)
 have pT:=hid (fun(u:Int) (W:World) (hW:BL w W)=>lg x (o:Int) u _ S W (HV.out W hW));rw[fM hok] at hd;clear k0 k1 k2 k3 nU hk;generalize x.af3[o]=kd at*;obtain⟨kn,CU,CV,Bt⟩:=kd;simp only[kC] at Iu;simp only at sS;have HFo:=hid (Iu.out f.of);clear Iu;generalize ah.aX ⟨kn,CU,CV,Bt⟩ f.of=tz at*;generalize Bt.length=nf at*;have HD:=hid hd;clear hd;have hsk2:=hsk;clear hv;obtain⟨fn,fo,fu,fk,fl,fh,Gj,Gl⟩:=f;simp only[jk] at*;have Vu:(0:Int)<=o:=by omega
 have Tf:(o:Int)<x.af3.length:=by omega
 obtain⟨w1,hw1⟩:=nmE (w.alloc (.cells #[.int .i64 x.af6,.slice ak x.af3.length ck,.slice al x.af7.length cl,.slice ar x.af8.length cr,.int .i64 o,.int .i64 j,.string fn,.string fo,.string fu,.int .i64 fk,.int .i64 fl,.int .i64 fh,uw,ug] 242));have aW:Hid (Below w.heap.size w w1):=hid (by rw[hw1];exact aj.alloc aB _);have HX:Hid (∀W,BL w1 W->W.heap[w.heap.size]?=some (.cells #[.int .i64 x.af6,.slice ak x.af3.length ck,.slice al x.af7.length cl,.slice ar x.af8.length cr,.int .i64 o,.int .i64 j,.string fn,.string fo,.string fu,.int .i64 fk,.int .i64 fl,.int .i64 fh,uw,ug] 242 (0,0))):=hid (fun W hW=>(hW.block _ (by rw[hw1];simp)).trans (by rw[hw1];exact aD w _ rfl));have HW:=hid hw1;clear hw1;obtain⟨⟨y0,y1,y2,y3,y4,y5,y6,y7,y8,y9,Fs,Ft,Fu,Fv⟩, -⟩:=eE (HX.out w1 aj);go_enter Tryz.func278,Tryz.ntmps278;go_upto_region 1 with fail;rw[<-HW.out];obtain⟨Tq,Tr,Ts,Tt⟩:=sS.out w1 aW.out;have hzk1:aY ak<w1.heap.size:=by have:=aW.out.size;omega
 refine iq 10 mxT (by kernel_rfl) ?_;simp only[List.take_succ_cons,List.take_zero,zDs,zDz];repeat (go_big_quiet_step (fail))
 refine zWq ?_;have cU:=hid (af5 (Below.refl w1.heap.size w1) 1);have bB:=bq aW cU.out;generalize w1.drewN 1=w2 at*;go_wp2_with fail;refine(HFo.out w2 bB.out).mono ?_;rintro e w3 ⟨rfl,hb3⟩;have dD:=bq cU hb3;have bG:=bq bB hb3;clear hb3;clear Tq Tr Ts Tt y0 y1 y2 y3 y4 y5 y6 y7 y8 y9 Fs Ft Fu Fv;obtain⟨⟨y0,y1,y2,y3,y4,y5,y6,y7,y8,y9,Fs,Ft,Fu,Fv⟩, -⟩:=eE (HX.out w3 dD.out);go_wp2_with fail;refine(pT.out tz w3 bG.out).mono ?_;rintro e w4 ⟨a1,n1,c1,a2,n2,c2,rfl, -,hb4⟩;have iQ:=bq dD hb4;have dO:=bq bG hb4;clear hb4;generalize ah.hasB x (o:Int) tz=hasb at*;generalize jr x (o:Int) tz=g at*;obtain⟨gn,go,gu,gk,gl,gh,Gn,ggs⟩:=g;simp only[bX];simp only at HD;obtain⟨w5,jO⟩:=nmE (w4.alloc (.cells #[.string gn,.string go,.string gu,.int .i64 gk,.int .i64 gl,.int .i64 gh,.slice a1 n1 c1,.slice a2 n2 c2] 117));have fS:Hid (Below w1.heap.size w1 w5):=hid (by rw[jO];exact iQ.out.alloc iQ.out.size _);have dP:Hid (Below w.heap.size w w5):=hid (by rw[jO];exact dO.out.alloc dO.out.size _);have oV:Hid (w5.heap[w4.heap.size]?=some (.cells #[.string gn,.string go,.string gu,.int .i64 gk,.int .i64 gl,.int .i64 gh,.slice a1 n1 c1,.slice a2 n2 c2] 117 (0,0))):=hid (by rw[jO];exact aD w4 _ rfl);have yI:=hid jO;clear jO;go_upto_region 3 with fail;rw[<-yI.out];clear y0 y1 y2 y3 y4 y5 y6 y7 y8 y9 Fs Ft Fu Fv;obtain⟨⟨y0,y1,y2,y3,y4,y5,y6,y7,y8,y9,Fs,Ft,Fu,Fv⟩, -⟩:=eE (HX.out w5 fS.out);obtain⟨⟨u0,u1,u2,u3,u4,u5,u6,u7⟩, -⟩:=dn oV.out;by_cases Nf:fo=ah.nil
 ·subst Nf
  clear HD;unfold ah.nil at*;go_wp2_with fail;refine(jg _ _ _ _ (World.alloc _ _) (by first|rfl|simp) (aD _ _ rfl)).mono ?_;rintro e wz ⟨rfl,hbz⟩;have su:Hid (BL w wz):=hid ((dP.out.alloc dP.out.size _).trans (hbz.mono (by have:=dP.out.size;simp;omega)));clear hbz;go_wp2;go_ret;exact⟨rfl,su.out⟩
 ·have he:=qi Nf
  have Rt:=hid (HD.out.resolve_left Nf);clear HD Nf;obtain⟨d1,d2,d3⟩:=Rt.out;subst d3;clear Rt;have d4:¬tz<0:=by omega
  have d5:¬j<=tz:=by omega
  go_wp2_with fail;refine(jg _ _ _ _ (World.alloc _ _) (by first|rfl|simp) (aD _ _ rfl)).mono ?_;rintro e wz ⟨rfl,hbz⟩;have su:Hid (BL w wz):=hid ((dP.out.alloc dP.out.size _).trans (hbz.mono (by have:=dP.out.size;simp;omega)));clear hbz;go_wp2;go_ret;exact⟨rfl,su.out⟩
theorem IK(x:ah.bD)(i j:Int)(f:ah.cA)(ak al ar:Option Addr)(ck cl cr:Nat)(uw ug:Value)(S:Nat->Prop)(w:World)(hv:eU S w (.agg #[.int .i64 x.af6,.slice ak x.af3.length ck,.slice al x.af7.length cl,.slice ar x.af8.length cr]) x)(hi:0<=i/\i<x.af3.length)(hup:0<=ah.dB x i j)(hb:ah.hasB x (ah.dB x i j) (jH x i j f)=true)(Ng:(jr x (ah.dB x i j) (jH x i j f)).kind=6)(hki:ah.bZ x (jr x (ah.dB x i j) (jH x i j f)).of=i):
  Calls Tryz.prog 282 #[.agg (jk x.af6 ak x.af3.length ck al x.af7.length cl ar x.af8.length cr i j f uw ug).toArray] w fun e w'=>e=.returned (.int .i64 0)/\BL w w':=by
 have HV:=hid (fun(W:World) (hW:BL w W)=>hv.keep (aA.below hW));have LD:=hid (fun(W:World) (hW:BL w W)=>zT x i j f ak al ar ck cl cr uw ug S W (HV.out W hW));rw[decide_eq_false (show ¬ah.dB x i j<0 by omega)] at LD;have ud:=hid (fun(W:World) (hW:BL w W)=>Kz x i j f ak al ar ck cl cr uw ug S W (HV.out W hW) hi hup);unfold LL at ud;rw[hb] at ud;have yg:=hid (fun(s:ByteArray) (W:World) (hW:BL w W)=>nJ x s _ S W (HV.out W hW));have Gq:Hid ((jr x (ah.dB x i j) (jH x i j f)).kind=6/\ah.bZ x (jr x (ah.dB x i j) (jH x i j f)).of=i):=hid ⟨Ng,hki⟩;clear Ng hki hb hup;generalize jr x (ah.dB x i j) (jH x i j f)=g at*;clear hv;obtain⟨fn,fo,fu,fk,fl,fh,Gj,Gl⟩:=f;simp only[jk] at*;obtain⟨w1,hw1⟩:=nmE (w.alloc (.cells #[.int .i64 x.af6,.slice ak x.af3.length ck,.slice al x.af7.length cl,.slice ar x.af8.length cr,.int .i64 i,.int .i64 j,.string fn,.string fo,.string fu,.int .i64 fk,.int .i64 fl,.int .i64 fh,uw,ug] 242));have aW:Hid (Below w.heap.size w w1):=hid (by rw[hw1];exact aj.alloc aB _);have HX:Hid (∀W,BL w1 W->W.heap[w.heap.size]?=some (.cells #[.int .i64 x.af6,.slice ak x.af3.length ck,.slice al x.af7.length cl,.slice ar x.af8.length cr,.int .i64 i,.int .i64 j,.string fn,.string fo,.string fu,.int .i64 fk,.int .i64 fl,.int .i64 fh,uw,ug] 242 (0,0))):=hid (fun W hW=>(hW.block _ (by rw[hw1];simp)).trans (by rw[hw1];exact aD w _ rfl));have HW:=hid hw1;clear hw1;obtain⟨⟨y0,y1,y2,y3,y4,y5,y6,y7,y8,y9,Fs,Ft,Fu,Fv⟩, -⟩:=eE (HX.out w1 aj);go_enter Tryz.func282,Tryz.ntmps282;go_upto_region 1 with fail;rw[<-HW.out];go_wp2_with fail;refine(ud.out w1 aW.out).mono ?_;rintro e w2 ⟨a1,n1,c1,a2,n2,c2,rfl,hb2⟩;have cU:Hid (BL w1 w2):=hid ((Below.refl w1.heap.size w1).trans (hb2.mono (Below.refl w1.heap.size w1).size));have bB:=bq aW hb2;clear hb2;obtain⟨gn,go,gu,gk,gl,gh,Gn,ggs⟩:=g;simp only[bX] at Gq ⊢;obtain⟨w3,hw3⟩:=nmE (w2.alloc (.cells #[.string gn,.string go,.string gu,.int .i64 gk,.int .i64 gl,.int .i64 gh,.slice a1 n1 c1,.slice a2 n2 c2] 117));have dD:Hid (Below w1.heap.size w1 w3):=hid (by rw[hw3];exact cU.out.alloc cU.out.size _);have bG:Hid (Below w.heap.size w w3):=hid (by rw[hw3];exact bB.out.alloc bB.out.size _);have sP:Hid (∀W,BL w3 W->W.heap[w2.heap.size]?=some (.cells #[.string gn,.string go,.string gu,.int .i64 gk,.int .i64 gl,.int .i64 gh,.slice a1 n1 c1,.slice a2 n2 c2] 117 (0,0))):=hid (fun W hW=>(hW.block _ (by rw[hw3];simp)).trans (by rw[hw3];exact aD w2 _ rfl));have HW3:=hid hw3;clear hw3;go_upto_region 2 with fail;rw[<-HW3.out];clear y0 y1 y2 y3 y4 y5 y6 y7 y8 y9 Fs Ft Fu Fv;obtain⟨⟨y0,y1,y2,y3,y4,y5,y6,y7,y8,y9,Fs,Ft,Fu,Fv⟩, -⟩:=eE (HX.out w3 dD.out);obtain⟨⟨u0,u1,u2,u3,u4,u5,u6,u7⟩, -⟩:=dn (sP.out w3 aj);obtain⟨Ng,hki⟩:=Gq.out;subst Ng;have HKj:=hid (fun(W:World) (hW:BL w W)=>yg.out go W hW);rw[hki] at HKj;clear hki Gq yg;have Bw:=hqC w3 ⟨w.heap.size,0,none⟩ (.int .i64 x.af6) fun xh=>(eE (HX.out xh.1 (tnB dD.out xh.2))).1.1;have Bx:=hqC w3 ⟨w.heap.size,1,none⟩ (.slice ak x.af3.length ck) fun xh=>(eE (HX.out xh.1 (tnB dD.out xh.2))).1.2.1;have Bz:=hqC w3 ⟨w.heap.size,2,none⟩ (.slice al x.af7.length cl) fun xh=>(eE (HX.out xh.1 (tnB dD.out xh.2))).1.2.2.1;have BA:=hqC w3 ⟨w.heap.size,3,none⟩ (.slice ar x.af8.length cr) fun xh=>(eE (HX.out xh.1 (tnB dD.out xh.2))).1.2.2.2.1;have hqs4:=hqC w3 ⟨w.heap.size,4,none⟩ (.int .i64 i) fun xh=>(eE (HX.out xh.1 (tnB dD.out xh.2))).1.2.2.2.2.1;have hqs5:=hqC w3 ⟨w.heap.size,5,none⟩ (.int .i64 j) fun xh=>(eE (HX.out xh.1 (tnB dD.out xh.2))).1.2.2.2.2.2.1;have hqs6:=hqC w3 ⟨w.heap.size,6,none⟩ (.string fn) fun xh=>(eE (HX.out xh.1 (tnB dD.out xh.2))).1.2.2.2.2.2.2.1;have hqs7:=hqC w3 ⟨w.heap.size,7,none⟩ (.string fo) fun xh=>(eE (HX.out xh.1 (tnB dD.out xh.2))).1.2.2.2.2.2.2.2.1;have hqs8:=hqC w3 ⟨w.heap.size,8,none⟩ (.string fu) fun xh=>(eE (HX.out xh.1 (tnB dD.out xh.2))).1.2.2.2.2.2.2.2.2.1;have hqs9:=hqC w3 ⟨w.heap.size,9,none⟩ (.int .i64 fk) fun xh=>(eE (HX.out xh.1 (tnB dD.out xh.2))).1.2.2.2.2.2.2.2.2.2.1;have abw:=hqC w3 ⟨w.heap.size,10,none⟩ (.int .i64 fl) fun xh=>(eE (HX.out xh.1 (tnB dD.out xh.2))).1.2.2.2.2.2.2.2.2.2.2.1;have abx:=hqC w3 ⟨w.heap.size,11,none⟩ (.int .i64 fh) fun xh=>(eE (HX.out xh.1 (tnB dD.out xh.2))).1.2.2.2.2.2.2.2.2.2.2.2.1;have aby:=hqC w3 ⟨w.heap.size,12,none⟩ (uw) fun xh=>(eE (HX.out xh.1 (tnB dD.out xh.2))).1.2.2.2.2.2.2.2.2.2.2.2.2.1;have abz:=hqC w3 ⟨w.heap.size,13,none⟩ (ug) fun xh=>(eE (HX.out xh.1 (tnB dD.out xh.2))).1.2.2.2.2.2.2.2.2.2.2.2.2.2;have hqg1:=hqC w3 ⟨w2.heap.size,1,none⟩ (.string go) fun xh=>(dn (sP.out xh.1 xh.2)).1.2.1;have hqg3:=hqC w3 ⟨w2.heap.size,3,none⟩ (.int .i64 6) fun xh=>(dn (sP.out xh.1 xh.2)).1.2.2.2.1;refine cH 21 (.quiet 0 (.quiet 3 (.quiet 4 (.one 1 (.quiet 2 (.quiet 5 (.quiet 6 (.quiet 7 (.quiet 8 (.quiet 9 (.quiet 10 (.quiet 11 (.quiet 12 (.quiet 13 (.quiet 14 (.quiet 16 (.quiet 17 (.one 15 (.quiet 18 (.quiet 19 (.quiet 20 .done))))))))))))))))))))) (BL w3) mxT (by kernel_rfl) (af5 aj 1) ?_;have Eg:=hid (af5 (Below.refl w3.heap.size w3) 1);generalize w3.drewN 1=w4 at*
 iterate 3
  refine ai rfl ?_
  intro hne
  go_big_quiet_step (fail)
  refine zWq ?_
  clear hne
 refine aH rfl ?_;go_wp2_with fail;refine(LD.out w4 (tnB bG.out Eg.out)).mono ?_;rintro e w5 ⟨rfl,gL⟩;have KA:=bq Eg gL;clear gL;go_wp2_with fail;refine aC (BL w3) (fun _ h=>h) KA.out ?_
 iterate 13
  refine ai rfl ?_
  intro hne
  go_big_quiet_step (fail)
  refine zWq ?_
  clear hne
 refine aH rfl ?_;go_wp2_with fail;refine(HKj.out w5 (tnB bG.out KA.out)).mono ?_;rintro e w6 ⟨rfl,lN⟩;have Fx:=bq KA lN;clear lN;go_wp2_with fail;refine aC (BL w3) (fun _ h=>h) Fx.out ?_
 iterate 3
  refine ai rfl ?_
  intro hne
  go_big_quiet_step (fail)
  refine zWq ?_
  clear hne
 refine aL ?_;try simp only[zDs,zDz]
 clear Bw Bx Bz BA hqs4 hqs5 hqs6 hqs7 hqs8 hqs9 abw abx aby abz hqg1 hqg3;have jC:=bq bG Fx.out;go_wp2_with fail;refine(lV _ _ _ _ _ _ (World.alloc _ _) (by rfl) (by first|rfl|simp) (aD _ _ rfl)).mono ?_;rintro e wz ⟨rfl,hbz⟩;have su:Hid (BL w wz):=hid ((jC.out.alloc jC.out.size _).trans (hbz.mono (by have:=jC.out.size;simp;omega)));clear hbz;go_wp2;go_ret;exact⟨rfl,su.out⟩
theorem IL(x:ah.bD)(i j:Int)(f:ah.cA)(ak al ar:Option Addr)(ck cl cr:Nat)(uw ug:Value)(S:Nat->Prop)(w:World)(hv:eU S w (.agg #[.int .i64 x.af6,.slice ak x.af3.length ck,.slice al x.af7.length cl,.slice ar x.af8.length cr]) x)(hi:0<=i/\i<x.af3.length)(hup:0<=ah.dB x i j)(hb:ah.hasB x (ah.dB x i j) (jH x i j f)=true)(Rk:(jr x (ah.dB x i j) (jH x i j f)).kind=2\/(jr x (ah.dB x i j) (jH x i j f)).kind=3\/(jr x (ah.dB x i j) (jH x i j f)).kind=4\/(jr x (ah.dB x i j) (jH x i j f)).kind=5\/(jr x (ah.dB x i j) (jH x i j f)).kind=8):
  Calls Tryz.prog 284 #[.agg (jk x.af6 ak x.af3.length ck al x.af7.length cl ar x.af8.length cr i j f uw ug).toArray] w fun e w'=>e=.returned (.int .i64 0)/\BL w w':=by
 have HV:=hid (fun(W:World) (hW:BL w W)=>hv.keep (aA.below hW));have LD:=hid (fun(W:World) (hW:BL w W)=>zT x i j f ak al ar ck cl cr uw ug S W (HV.out W hW));rw[decide_eq_false (show ¬ah.dB x i j<0 by omega)] at LD;have ud:=hid (fun(W:World) (hW:BL w W)=>Kz x i j f ak al ar ck cl cr uw ug S W (HV.out W hW) hi hup);unfold LL at ud;rw[hb] at ud;have Gq:=hid Rk;clear Rk hb hup;generalize jr x (ah.dB x i j) (jH x i j f)=g at*;clear hv;obtain⟨fn,fo,fu,fk,fl,fh,Gj,Gl⟩:=f;simp only[jk] at*;obtain⟨w1,hw1⟩:=nmE (w.alloc (.cells #[.int .i64 x.af6,.slice ak x.af3.length ck,.slice al x.af7.length cl,.slice ar x.af8.length cr,.int .i64 i,.int .i64 j,.string fn,.string fo,.string fu,.int .i64 fk,.int .i64 fl,.int .i64 fh,uw,ug] 242));have aW:Hid (Below w.heap.size w w1):=hid (by rw[hw1];exact aj.alloc aB _);have HX:Hid (∀W,BL w1 W->W.heap[w.heap.size]?=some (.cells #[.int .i64 x.af6,.slice ak x.af3.length ck,.slice al x.af7.length cl,.slice ar x.af8.length cr,.int .i64 i,.int .i64 j,.string fn,.string fo,.string fu,.int .i64 fk,.int .i64 fl,.int .i64 fh,uw,ug] 242 (0,0))):=hid (fun W hW=>(hW.block _ (by rw[hw1];simp)).trans (by rw[hw1];exact aD w _ rfl));have HW:=hid hw1;clear hw1;obtain⟨⟨y0,y1,y2,y3,y4,y5,y6,y7,y8,y9,Fs,Ft,Fu,Fv⟩, -⟩:=eE (HX.out w1 aj);go_enter Tryz.func284,Tryz.ntmps284;go_upto_region 1 with fail;rw[<-HW.out];go_wp2_with fail;refine(ud.out w1 aW.out).mono ?_;rintro e w2 ⟨a1,n1,c1,a2,n2,c2,rfl,hb2⟩;have cU:Hid (BL w1 w2):=hid ((Below.refl w1.heap.size w1).trans (hb2.mono (Below.refl w1.heap.size w1).size));have bB:=bq aW hb2;clear hb2;obtain⟨gn,go,gu,gk,gl,gh,Gn,ggs⟩:=g;simp only[bX] at Gq ⊢;obtain⟨w3,hw3⟩:=nmE (w2.alloc (.cells #[.string gn,.string go,.string gu,.int .i64 gk,.int .i64 gl,.int .i64 gh,.slice a1 n1 c1,.slice a2 n2 c2] 117));have dD:Hid (Below w1.heap.size w1 w3):=hid (by rw[hw3];exact cU.out.alloc cU.out.size _);have bG:Hid (Below w.heap.size w w3):=hid (by rw[hw3];exact bB.out.alloc bB.out.size _);have sP:Hid (∀W,BL w3 W->W.heap[w2.heap.size]?=some (.cells #[.string gn,.string go,.string gu,.int .i64 gk,.int .i64 gl,.int .i64 gh,.slice a1 n1 c1,.slice a2 n2 c2] 117 (0,0))):=hid (fun W hW=>(hW.block _ (by rw[hw3];simp)).trans (by rw[hw3];exact aD w2 _ rfl));have HW3:=hid hw3;clear hw3;go_upto_region 2 with fail;rw[<-HW3.out];clear y0 y1 y2 y3 y4 y5 y6 y7 y8 y9 Fs Ft Fu Fv;obtain⟨⟨y0,y1,y2,y3,y4,y5,y6,y7,y8,y9,Fs,Ft,Fu,Fv⟩, -⟩:=eE (HX.out w3 dD.out);obtain⟨⟨u0,u1,u2,u3,u4,u5,u6,u7⟩, -⟩:=dn (sP.out w3 aj);rcases Gq.out with e|e|e|e|e
 all_goals
  subst e
  clear Gq
  go_wp2_with fail
  refine(LD.out w3 bG.out).mono ?_
  rintro e w5 ⟨rfl,gL⟩
  have dP:=bq bG gL
  clear gL
  go_wp2_with fail
  refine(lV _ _ _ _ _ _ (World.alloc _ _) (by rfl) (by first|rfl|simp) (aD _ _ rfl)).mono ?_
  rintro e wz ⟨rfl,hbz⟩
  have su:Hid (BL w wz):=hid ((dP.out.alloc dP.out.size _).trans (hbz.mono (by have:=dP.out.size;simp;omega)))
  clear hbz
  go_wp2
  go_ret
  exact⟨rfl,su.out⟩
theorem IQ(x:ah.bD)(i:Nat)(v:Value)(S:Nat->Prop)(w:World)(hv:eU S w v x)(hi:i<x.af3.length)(h1:¬ah.bZ x (ah.kd x i).name<i)(h2:0<(ah.kd x i).af4.length)(h3:(ah.fd x i 0).kind=0):
  Calls Tryz.prog 134 #[v,.int .i64 i] w fun e w'=>e=.returned (.int .i64 0)/\BL w w':=by
 obtain⟨ak,ck,al,cl,ar,cr,rfl,hk,hl,hr,hsk,hsl,hsr⟩:=hv.form;have HV:=hid (fun(W:World) (hW:BL w W)=>hv.keep (aA.below hW));obtain⟨lU, -,k0,k1,k2,uf,k3,nU⟩:=hk.at hi;rw[fM hi] at h1 h2;have h2':0<x.af3[i].af4.length:=h2;rw[show ah.fd x i 0=x.af3[i].af4[0] from rI (j:=0) hi h2'] at h3;obtain⟨af,cf,rfl,hsf, -, -⟩:=nU.form;obtain⟨Gm, -, -, -, -,f3, -⟩:=dh.at nU h2';rw[h3] at f3;have yg:=hid (fun(W:World) (hW:BL w W)=>nJ x x.af3[i].name _ S W (HV.out W hW));have HN1:=hid h1;clear nU hk hl hr hv h3 h1 h2;generalize x.af3[i]=kd at*;obtain⟨kn,CU,CV,Bt⟩:=kd;simp only at*;generalize ah.bZ x kn=kz at*;generalize Bt.length=nf at*;have hi0:(0:Int)<=i:=by omega
 have hi1:(i:Int)<x.af3.length:=by omega
 have hkz:=decide_eq_false HN1.out;have hnf0:((nf:Int)==0)=false:=by simp;omega
 have hn0:(0:Int)<nf:=by omega
 obtain⟨w1,hw1⟩:=nmE (bE w x.af6 (.slice ak x.af3.length ck) (.slice al x.af7.length cl) (.slice ar x.af8.length cr));have aW:=afX hw1;have rM:Hid (w1.heap[w.heap.size]?=some (.cells #[.int .i64 x.af6,.slice ak x.af3.length ck,.slice al x.af7.length cl,.slice ar x.af8.length cr] 27 (0,0))):=hid (by rw[hw1];exact bf ..);unfold bE at hw1;have HW1:=hid hw1;clear hw1;obtain⟨w2,hw2⟩:=nmE (w1.alloc (.cells #[.string kn,.int .i64 CU,.int .i64 CV,.slice af nf cf] 102));have bB:Hid (Below w.heap.size w w2):=hid (by rw[hw2];exact aW.out.alloc aW.out.size _);have HX:Hid (∀W,BL w2 W->W.heap[w.heap.size]?=some (.cells #[.int .i64 x.af6,.slice ak x.af3.length ck,.slice al x.af7.length cl,.slice ar x.af8.length cr] 27 (0,0))):=hid (fun W hW=>(hW.block _ (by rw[hw2];have:=ay rM.out;simp;omega)).trans (by rw[hw2];exact aG _ rM.out));have HK:Hid (∀W,BL w2 W->W.heap[w1.heap.size]?=some (.cells #[.string kn,.int .i64 CU,.int .i64 CV,.slice af nf cf] 102 (0,0))):=hid (fun W hW=>(hW.block _ (by rw[hw2];simp)).trans (by rw[hw2];exact aD _ _ rfl));have HF:Hid (∀W,BL w2 W->W.cell? ⟨aY af,bC af+3,none⟩=some (.int .i64 0)):=hid (fun W hW=>((tnB bB.out hW).cell (p:=⟨aY af,bC af+3,none⟩) Gm).trans (by simpa using f3));have HW2:=hid hw2;clear hw2 f3;obtain⟨⟨y0,y1,y2,y3⟩, -⟩:=aO rM.out;have Tq:=(aW.out.cell (p:=⟨aY ak,bC ak+i*4,none⟩) lU).trans k0;have Tr:=(aW.out.cell (p:=⟨aY ak,bC ak+i*4+1,none⟩) lU).trans k1;have Ts:=(aW.out.cell (p:=⟨aY ak,bC ak+i*4+2,none⟩) lU).trans k2;have Tt:=(aW.out.cell (p:=⟨aY ak,bC ak+i*4+3,none⟩) lU).trans k3;clear k0 k1 k2 k3;go_enter Tryz.func134,Tryz.ntmps134;go_upto_region 1 with fail;rw[<-HW1.out];go_upto_region 2 with fail;rw[<-HW2.out];clear y0 y1 y2 y3 Tq Tr Ts Tt;obtain⟨Bw,Bx,Bz,BA⟩:=M9 HX.out;have Bu:=hqC w2 ⟨w1.heap.size,0,none⟩ (.string kn) fun xh=>(aO (HK.out xh.1 xh.2)).1.1;have Bv:=hqC w2 ⟨w1.heap.size,3,none⟩ (.slice af nf cf) fun xh=>(aO (HK.out xh.1 xh.2)).1.2.2.2;have abA:=hqC w2 ⟨aY af,bC af+3,none⟩ (.int .i64 0) fun xh=>HF.out xh.1 xh.2;refine cH 20 (.quiet 0 (.quiet 1 (.quiet 2 (.quiet 4 (.quiet 7 (.quiet 8 (.two 3 9 (.quiet 5 (.quiet 6 (.one 9 (.quiet 10 (.quiet 11 (.quiet 12 (.quiet 13 (.quiet 14 (.quiet 15 (.quiet 16 (.quiet 17 (.quiet 18 (.quiet 19 .done))))))))))))) (.quiet 10 (.one 3 (.quiet 5 (.quiet 6 (.quiet 11 (.quiet 12 (.quiet 13 (.quiet 14 (.quiet 15 (.quiet 16 (.quiet 17 (.quiet 18 (.quiet 19 .done)))))))))))))))))))) (BL w2) mxT (by kernel_rfl) (af5 aj 1) ?_;have PZ:=hid (af5 (Below.refl w2.heap.size w2) 1);generalize w2.drewN 1=w3 at*
 iterate 6
  refine ai rfl ?_
  intro hne
  go_big_quiet_step (fail)
  refine zWq ?_
  clear hne
 refine dU rfl rfl ?_ ?_
 ·go_wp2_with fail
  refine(yg.out w3 (tnB bB.out PZ.out)).mono ?_;rintro e w4 ⟨rfl,hb4⟩;have Eg:=bq PZ hb4;clear hb4;go_wp2_with fail;refine aC (BL w2) (fun _ h=>h) Eg.out ?_
  iterate 2
   refine ai rfl ?_
   intro hne
   go_big_quiet_step (fail)
   refine zWq ?_
   clear hne
  refine aH rfl ?_;go_wp2_with fail;refine aC (BL w2) (fun _ h=>h) Eg.out ?_
  iterate 10
   refine ai rfl ?_
   intro hne
   go_big_quiet_step (fail)
   refine zWq ?_
   clear hne
  refine aL ?_;try simp only[zDs,zDz]
  clear Bw Bx Bz BA Bu Bv abA;have dO:=bq bB Eg.out;go_wp2_with fail;refine(lV _ _ _ _ _ _ (World.alloc _ _) (by first|rfl|exact hkz) (by first|rfl|simp) (aD _ _ rfl)).mono ?_;rintro e wz ⟨rfl,hbz⟩;have su:Hid (BL w wz):=hid ((dO.out.alloc dO.out.size _).trans (hbz.mono (by have:=dO.out.size;simp;omega)));clear hbz;go_wp2;go_ret;exact⟨rfl,su.out⟩
 ·go_wp2_with fail
  refine aC (BL w2) (fun _ h=>h) PZ.out ?_;refine ai rfl ?_;intro hne;go_big_quiet_step (fail);refine zWq ?_;clear hne;refine aH rfl ?_;go_wp2_with fail;refine(yg.out w3 (tnB bB.out PZ.out)).mono ?_;rintro e w4 ⟨rfl,hb4⟩;have Eg:=bq PZ hb4;clear hb4;go_wp2_with fail;refine aC (BL w2) (fun _ h=>h) Eg.out ?_
  iterate 11
   refine ai rfl ?_
   intro hne
   go_big_quiet_step (fail)
   refine zWq ?_
   clear hne
  refine aL ?_;try simp only[zDs,zDz]
  clear Bw Bx Bz BA Bu Bv abA;have dO:=bq bB Eg.out;go_wp2_with fail;refine(lV _ _ _ _ _ _ (World.alloc _ _) (by first|rfl|exact hkz) (by first|rfl|simp) (aD _ _ rfl)).mono ?_;rintro e wz ⟨rfl,hbz⟩;have su:Hid (BL w wz):=hid ((dO.out.alloc dO.out.size _).trans (hbz.mono (by have:=dO.out.size;simp;omega)));clear hbz;go_wp2;go_ret;exact⟨rfl,su.out⟩
theorem dA.take{α:Type}{n:Nat}{R:World->List Value->α->Prop}{S:Nat->Prop}{w:World}{a:Option Addr}{m cap:Nat}{xs:List α}(h:dA n R S w (.slice a m cap) xs){k:Nat}(hk:k<=xs.length):dA n R S w (.slice a k cap) (xs.take k):=by
 obtain⟨a',cap',e,h1,h2,h3,h4,h5⟩:=h;cases e;have hl:(xs.take k).length=k:=by rw[zLt];omega
 refine⟨a,cap,by rw[hl],fun h0=>h1 (by rw[hl] at h0;omega),by rw[hl];omega,h3,fun h0=>h4 (by rw[hl] at h0;omega),fun j hj=>?_⟩;rw[hl] at hj;obtain⟨us,g1,g2,g3⟩:=h5 j (by omega);exact⟨us,g1,g2,by rw[List.getElem_take];exact g3⟩
theorem LN(r:ah.uY)(s:ByteArray)(b:Nat)(w:World)(hb:w.cell? ⟨b,0,none⟩=some (.string s)):
  Calls Tryz.prog 178 #[.agg #[.string r.name,.string r.kind,.string r.a,.string r.b,.int .i64 r.n],.pointer (some ⟨b,0,none⟩)] w fun e w'=>e=.returned (.bool (decide (r.name=s)))/\BL w w':=by
 have hz:b<w.heap.size:=zBl w ⟨b,0,none⟩ hb;have HD:Hid ((r.name.toList==s.toList)=decide (r.name=s)):=hid GD;obtain⟨rn,rk,ra,rb,rw⟩:=r;simp only at HD ⊢;go_enter Tryz.func178,Tryz.ntmps178;go_wp2;go_ret;exact⟨by rw[<-HD.out];rfl,aj.alloc aB _⟩
theorem IU(x:ah.bD)(i:Nat)(v:Value)(S:Nat->Prop)(w:World)(hv:eU S w v x)(hi:i<x.af8.length)(h1:(x.af8.take i).any (fun s=>decide (s.name=(ah.rl x i).name))=false)(h2:0<=ah.bZ x (ah.rl x i).kind)
  (h3:∀s,s=(ah.rl x i).a\/s=(ah.rl x i).b->s=ah.nil\/(ah.hasB x (ah.bZ x (ah.rl x i).kind) (ah.aX (ah.kd x (ah.bZ x (ah.rl x i).kind)) s)=true/\((jr x (ah.bZ x (ah.rl x i).kind) (ah.aX (ah.kd x (ah.bZ x (ah.rl x i).kind)) s)).kind=2\/(jr x (ah.bZ x (ah.rl x i).kind) (ah.aX (ah.kd x (ah.bZ x (ah.rl x i).kind)) s)).kind=4)))(h4:¬(ah.rl x i).a=(ah.rl x i).b):
  Calls Tryz.prog 135 #[v,.int .i64 i] w fun e w'=>e=.returned (.int .i64 0)/\BL w w':=by
 obtain⟨ak,ck,al,cl,ar,cr,rfl,hk,hl,hr,hsk,hsl,hsr⟩:=hv.form;have HV:=hid (fun(W:World) (hW:BL w W)=>hv.keep (aA.below hW));obtain⟨Hv, -,r0,r1,r2,r3,r4⟩:=tA.at hr hi;have hrl:ah.rl x i=x.af8[i]:=by unfold ah.rl;rw[zGd,zEg hi];rfl
 rw[hrl] at h1 h2 h3 h4;have hcr:x.af8.length<=cr/\cr<=9223372036854775807:=by obtain⟨_,_,e, -,g1,g2⟩:=hr.form;cases e;exact⟨g1,g2⟩
 have HRt:=hid (fun(W:World) (hW:BL w W)=>dA.take (dA.keep dS hr (aA.below hW)) (k:=i) (by omega));have HTw:=hid h1;have yg:=hid (fun(s:ByteArray) (W:World) (hW:BL w W)=>nJ x s _ S W (HV.out W hW));have htl:(x.af8.take i).length=i:=by rw[zLt];omega
 clear hv hl hr hrl h1;generalize x.af8[i]=r at*;obtain⟨rn,rk,ra,rb,rw⟩:=r;simp only at r0 r1 r2 r3 r4 h2 h3 h4 HTw;obtain⟨o,ho⟩:∃o:Nat,ah.bZ x rk=(o:Int):=⟨(ah.bZ x rk).toNat,by omega⟩
 have hok:o<x.af3.length:=by
  rcases jF (fun k:ah.dZ=>decide (k.name=rk)) x.af3 with h|h
  ·have:ah.bZ x rk<x.af3.length:=h
   omega
  ·have:ah.bZ x rk= -1:=h
   omega
 rw[ho] at h3;have Tw:=hid (yg.out rk);rw[ho] at Tw;clear ho h2;obtain⟨lU, -,k0,k1,k2,uf,k3,nU⟩:=hk.at hok;obtain⟨af,cf,rfl, -, -, -⟩:=nU.form;have Iu:=hid (fun(s:ByteArray) (W:World) (hW:BL w W)=>jX x.af3[o] s _ S W (nU.keep (aA.below hW)))
 have sS:Hid (∀W,BL w W->W.cell? ⟨aY ak,bC ak+o*4,none⟩=some (.string x.af3[o].name)/\W.cell? ⟨aY ak,bC ak+o*4+1,none⟩=some (.int .i64 x.af3[o].lo)/\W.cell? ⟨aY ak,bC ak+o*4+2,none⟩=some (.int .i64 x.af3[o].hi)/\W.cell? ⟨aY ak,bC ak+o*4+3,none⟩=some (.slice af x.af3[o].af4.length cf)):=hid (fun W hW=>
   ⟨(hW.cell (p:=⟨aY ak,bC ak+o*4,none⟩) lU).trans k0,(hW.cell (p:=⟨aY ak,bC ak+o*4+1,none⟩) lU).trans k1,(hW.cell (p:=⟨aY ak,bC ak+o*4+2,none⟩) lU).trans k2,(hW.cell (p:=⟨aY ak,bC ak+o*4+3,none⟩) lU).trans k3⟩)
 have pT:=hid (fun(u:Int) (W:World) (hW:BL w W)=>lg x (o:Int) u _ S W (HV.out W hW));rw[fM hok] at h3;obtain⟨Z6,hnm⟩:∃f:Nat->ByteArray,f=fun k=>if k=0 then ra else rb:=⟨_,rfl⟩
 have HG:Hid (∀k,k<2->Z6 k=ah.nil\/(ah.hasB x o (ah.aX x.af3[o] (Z6 k))=true/\((jr x o (ah.aX x.af3[o] (Z6 k))).kind=2\/(jr x o (ah.aX x.af3[o] (Z6 k))).kind=4))):=hid (fun k hk2=>by
  subst hnm;simp only;split
  ·exact h3 ra (.inl rfl)
  ·exact h3 rb (.inr rfl))
 clear k0 k1 k2 k3 nU hk h3;generalize x.af3[o]=kd at*;obtain⟨kn,CU,CV,Bt⟩:=kd;simp only[kC] at Iu;simp only at sS;obtain⟨nf,hnf⟩:=nmE Bt.length;rw[<-hnf] at sS Iu;clear hnf;have hes:(ra.toList==rb.toList)=false:=by rw[GD];simpa using h4
 clear h4;have hi0:(0:Int)<=i:=by omega
 have hi1:(i:Int)<x.af8.length:=by omega
 have Vu:(0:Int)<=o:=by omega
 have Tf:(o:Int)<x.af3.length:=by omega
 have hon:¬(o:Int)<0:=by omega
 obtain⟨w1,hw1⟩:=nmE (bE w x.af6 (.slice ak x.af3.length ck) (.slice al x.af7.length cl) (.slice ar x.af8.length cr));have aW:=afX hw1;have rM:Hid (w1.heap[w.heap.size]?=some (.cells #[.int .i64 x.af6,.slice ak x.af3.length ck,.slice al x.af7.length cl,.slice ar x.af8.length cr] 27 (0,0))):=hid (by rw[hw1];exact bf ..);unfold bE at hw1;have HW1:=hid hw1;clear hw1;obtain⟨w2,hw2⟩:=nmE (w1.alloc (.cells #[.string rn,.string rk,.string ra,.string rb,.int .i64 rw] 110));have bB:Hid (Below w.heap.size w w2):=hid (by rw[hw2];exact aW.out.alloc aW.out.size _);have HX:Hid (∀W,BL w2 W->W.heap[w.heap.size]?=some (.cells #[.int .i64 x.af6,.slice ak x.af3.length ck,.slice al x.af7.length cl,.slice ar x.af8.length cr] 27 (0,0))):=hid (fun W hW=>(hW.block _ (by rw[hw2];have:=ay rM.out;simp;omega)).trans (by rw[hw2];exact aG _ rM.out));have HR:Hid (∀W,BL w2 W->W.heap[w1.heap.size]?=some (.cells #[.string rn,.string rk,.string ra,.string rb,.int .i64 rw] 110 (0,0))):=hid (fun W hW=>(hW.block _ (by rw[hw2];simp)).trans (by rw[hw2];exact aD _ _ rfl));have HW2:=hid hw2;clear hw2
 have SN:=hid (Kt dS (x.af8.take i) (fun s:ah.uY=>decide (s.name=rn)) _ S w2 (HRt.out w2 bB.out) 178 #[.pointer (some ⟨w1.heap.size,0,none⟩)] (aZ Tryz.func178 (by kernel_rfl) rfl) (fun X hX j hj us _ hu=>by
  obtain rfl:=hu;exact LN _ rn _ X (mh (HR.out X hX)).1.1))
 rw[HTw.out] at SN;obtain⟨⟨y0,y1,y2,y3⟩, -⟩:=aO rM.out;have Tq:=(aW.out.cell (p:=⟨aY ar,bC ar+i*5,none⟩) Hv).trans r0;have Tr:=(aW.out.cell (p:=⟨aY ar,bC ar+i*5+1,none⟩) Hv).trans r1;have Ts:=(aW.out.cell (p:=⟨aY ar,bC ar+i*5+2,none⟩) Hv).trans r2;have Tt:=(aW.out.cell (p:=⟨aY ar,bC ar+i*5+3,none⟩) Hv).trans r3;have kc4:=(aW.out.cell (p:=⟨aY ar,bC ar+i*5+4,none⟩) Hv).trans r4;clear r0 r1 r2 r3 r4;go_enter Tryz.func135,Tryz.ntmps135;go_upto_region 1 with fail;rw[<-HW1.out];go_upto_region 2 with fail;rw[<-HW2.out];clear y0 y1 y2 y3 Tq Tr Ts Tt kc4;obtain⟨⟨y0,y1,y2,y3⟩, -⟩:=aO (HX.out w2 aj);have hle:(i:Int)<=cr:=by omega
 go_wp2_with fail;refine SN.out.mono ?_;rintro e w3 ⟨rfl,hb3⟩;have dD:Hid (BL w2 w3):=hid hb3;have bG:=bq bB hb3;clear hb3 y0 y1 y2 y3 SN;obtain⟨⟨y0,y1,y2,y3⟩, -⟩:=aO (HX.out w3 dD.out);obtain⟨⟨z0,z1,z2,z3,z4⟩, -⟩:=mh (HR.out w3 dD.out);go_wp2_with fail;refine(Tw.out w3 bG.out).mono ?_;rintro e w4 ⟨rfl,hb4⟩;have iQ:=bq dD hb4;have dO:=bq bG hb4;clear hb4 y0 y1 y2 y3 z0 z1 z2 z3 z4;obtain⟨⟨y0,y1,y2,y3⟩, -⟩:=aO (HX.out w4 iQ.out);obtain⟨⟨z0,z1,z2,z3,z4⟩, -⟩:=mh (HR.out w4 iQ.out);have hdo:decide ((o:Int)<0)=false:=decide_eq_false (by omega);obtain⟨w5,jO⟩:=nmE (w4.alloc (.cells #[.string ra,.string rb] 9));have fS:Hid (Below w2.heap.size w2 w5):=hid (by rw[jO];exact iQ.out.alloc iQ.out.size _);have dP:Hid (Below w.heap.size w w5):=hid (by rw[jO];exact dO.out.alloc dO.out.size _);have Tx:Hid (w5.heap[w4.heap.size]?=some (.cells #[.string ra,.string rb] 9 (0,0))):=hid (by rw[jO];exact aD _ _ rfl)
 have qY:Hid (∀W,BL w5 W->∀k,k<2->W.cell? ⟨w4.heap.size,k,none⟩=some (.string (Z6 k))):=hid (fun W hW k hk2=>by
  have h0:=(hW.cell (p:=⟨w4.heap.size,k,none⟩) (ay Tx.out));rw[h0,hnm];match k,hk2 with
  |0,_=>exact aI Tx.out 0
  |1,_=>exact aI Tx.out 1)
 have yI:=hid jO;clear jO hnm;have h45:w4.heap.size<w5.heap.size:=ay Tx.out;go_upto_region 5 with fail;go_upto_region 6 with fail;rw[<-yI.out];clear y0 y1 y2 y3 z0 z1 z2 z3 z4;go_loopw [8,9,37] (fun s8 s9 k wr=>∃k':Nat,k'<=2/\k=.int .i64 k'/\s8=.bool false/\s9=.bool false/\Hid (BL w5 wr)) (fun _ _ k _=>2-(intOf k).toNat);case atStart=>exact⟨0,by omega,rfl,rfl,rfl,hid aj⟩
 case round=>
  obtain⟨k,hk,rfl,rfl,rfl,hbr⟩:=hrel;have iO:=bq fS hbr.out;have iP:=bq dP hbr.out;by_cases hk2:k<2
  ·have hk0:(0:Int)<=(k:Int):=by omega
   have hk1:(k:Int)<2:=by omega
   have y0:=qY.out wr hbr.out k hk2;have Tz:=hid (HG.out k hk2);generalize Z6 k=s at*;by_cases hs:s=ah.nil
   ·subst hs
    clear Tz;unfold ah.nil at*;go_wp2;go_roundw;case rel=>exact⟨k+1,by omega,by go_num,rfl,rfl,hbr⟩
    simp[intOf];omega
   ·have he:=qi hs
    have HG2:=hid (Tz.out.resolve_left hs);clear Tz hs;have uU:=hid (fun(W:World) (hW:BL w W)=>Iu.out s W hW);generalize ah.aX ⟨kn,CU,CV,Bt⟩ s=tz at*;have A7:=hid (fun(W:World) (hW:BL w W)=>pT.out tz W hW);unfold AtP at A7;obtain⟨g1,g2⟩:=HG2.out;rw[g1] at A7;have HGK:=hid g2;clear g1 g2 HG2;generalize jr x (o:Int) tz=g at*;obtain⟨gn,go,gu,gk,gl,gh,Gn,ggs⟩:=g;simp only[bX] at A7 HGK;go_upto_region 9 with fail;have Bw:=hqC wr ⟨w.heap.size,0,none⟩ (.int .i64 x.af6) fun xh=>(aO (HX.out xh.1 (tnB iO.out xh.2))).1.1;have Bx:=hqC wr ⟨w.heap.size,1,none⟩ (.slice ak x.af3.length ck) fun xh=>(aO (HX.out xh.1 (tnB iO.out xh.2))).1.2.1;have Bz:=hqC wr ⟨w.heap.size,2,none⟩ (.slice al x.af7.length cl) fun xh=>(aO (HX.out xh.1 (tnB iO.out xh.2))).1.2.2.1;have BA:=hqC wr ⟨w.heap.size,3,none⟩ (.slice ar x.af8.length cr) fun xh=>(aO (HX.out xh.1 (tnB iO.out xh.2))).1.2.2.2;have Bu:=hqC wr ⟨aY ak,bC ak+o*4,none⟩ (.string kn) fun xh=>(sS.out xh.1 (tnB iP.out xh.2)).1;have Iz:=hqC wr ⟨aY ak,bC ak+o*4+1,none⟩ (.int .i64 CU) fun xh=>(sS.out xh.1 (tnB iP.out xh.2)).2.1;have IA:=hqC wr ⟨aY ak,bC ak+o*4+2,none⟩ (.int .i64 CV) fun xh=>(sS.out xh.1 (tnB iP.out xh.2)).2.2.1;have Bv:=hqC wr ⟨aY ak,bC ak+o*4+3,none⟩ (.slice af nf cf) fun xh=>(sS.out xh.1 (tnB iP.out xh.2)).2.2.2;refine cH 15 (.quiet 0 (.quiet 1 (.quiet 2 (.quiet 3 (.quiet 4 (.quiet 5 (.quiet 6 (.quiet 7 (.two 8 13 (.two 9 13 (.quiet 10 (.quiet 11 (.quiet 12 (.one 13 (.one 14 .done))))) (.one 9 (.quiet 10 (.quiet 11 (.quiet 12 (.one 14 .done)))))) (.one 8 (.one 9 (.quiet 10 (.quiet 11 (.quiet 12 (.one 14 .done))))))))))))))) (BL wr) mxT (by kernel_rfl) (af5 aj 1) ?_;have PZ:=hid (af5 (Below.refl wr.heap.size wr) 1);generalize wr.drewN 1=w6 at*;have Fx:=PZ;clear PZ pT Iu yg Tw
    iterate 8
     refine ai rfl ?_
     intro hne
     go_big_quiet_step (fail)
     refine zWq ?_
     clear hne
    refine dU rfl rfl ?_ ?_
    ·go_wp2_with fail
     refine(uU.out w6 (tnB iP.out Fx.out)).mono ?_;rintro e w7 ⟨rfl,hb⟩;have zU:=bq Fx hb;clear hb;go_wp2_with fail;refine aC (BL wr) (fun _ h=>h) zU.out ?_;refine dU rfl rfl ?_ ?_
     ·go_wp2_with fail
      refine(A7.out w7 (tnB iP.out zU.out)).mono ?_;rintro e w8 ⟨a1,n1,c1,a2,n2,c2,rfl, -,hb⟩;have rO:=bq zU hb;clear hb;go_wp2_with fail;refine aC (BL wr) (fun _ h=>h) rO.out ?_
      iterate 3
       refine ai rfl ?_
       intro hne
       go_big_quiet_step (fail)
       refine zWq ?_
       clear hne
      refine aH rfl ?_;go_wp2_with fail;obtain⟨gX,hw⟩:=nmE (w8.alloc (.cells #[.string {data:=#[]},.string {data:=#[]},.string {data:=#[]},.int .i64 0,.int .i64 0,.int .i64 0,.slice none 0 0,.slice none 0 0] 117));rw[<-hw];have rq:Hid (Below wr.heap.size wr gX):=hid (by rw[hw];exact rO.out.alloc rO.out.size _);have vH:Hid (gX.heap[w8.heap.size]?=some (.cells #[.string {data:=#[]},.string {data:=#[]},.string {data:=#[]},.int .i64 0,.int .i64 0,.int .i64 0,.slice none 0 0,.slice none 0 0] 117 (0,0))):=hid (by rw[hw];exact aD _ _ rfl);clear hw;refine aC (BL wr) (fun _ h=>h) rq.out ?_;obtain⟨⟨g0,g1,g2,g3,g4,g5,g6,g7⟩,gf⟩:=dn vH.out;have HS:=hid (Gz vH.out (.string gn) (.string go) (.string gu) (.int .i64 gk) (.int .i64 gl) (.int .i64 gh) (.slice a1 n1 c1) (.slice a2 n2 c2));have hBw:wr.heap.size<=w8.heap.size:=rO.out.size;refine aH rfl ?_;go_wp2_with fail;obtain⟨w9,hw⟩:=nmE (((((((((gX.setCell ⟨w8.heap.size,0,none⟩ (.string gn)).setCell ⟨w8.heap.size,1,none⟩ (.string go)).setCell ⟨w8.heap.size,2,none⟩ (.string gu)).setCell ⟨w8.heap.size,3,none⟩ (.int .i64 gk)).setCell ⟨w8.heap.size,4,none⟩ (.int .i64 gl)).setCell ⟨w8.heap.size,5,none⟩ (.int .i64 gh)).setCell ⟨w8.heap.size,6,none⟩ (.slice a1 n1 c1)).setCell ⟨w8.heap.size,7,none⟩ (.slice a2 n2 c2)));rw[<-hw];have Nh:Hid (Below wr.heap.size wr w9):=hid (by rw[hw];exact rq.out.trans (Turns.below HS.out.2 rq.out.size (fun b hb=>by omega)));have yD:Hid (w9.heap[w8.heap.size]?=some (.cells #[.string gn,.string go,.string gu,.int .i64 gk,.int .i64 gl,.int .i64 gh,.slice a1 n1 c1,.slice a2 n2 c2] 117 (0,0))):=hid (by rw[hw];exact HS.out.1);clear hw g0 g1 g2 g3 g4 g5 g6 g7 gf HS;refine aC (BL wr) (fun _ h=>h) Nh.out ?_;refine aL ?_;try simp only[zDs,zDz]
      clear Bw Bx Bz BA Bu Iz IA Bv;obtain⟨⟨u0,u1,u2,u3,u4,u5,u6,u7⟩, -⟩:=dn yD.out;have Dy:=bq hbr Nh.out;rcases HGK.out with e|e
      all_goals
       subst e
       go_wp2
       go_roundw
       case rel=>exact⟨k+1,by omega,by go_num,by first|rfl|trivial,by first|rfl|trivial,Dy⟩
       simp[intOf];omega
     ·go_wp2_with fail
      obtain⟨w8,hw⟩:=nmE (w7.alloc (.cells #[.string {data:=#[]},.string {data:=#[]},.string {data:=#[]},.int .i64 0,.int .i64 0,.int .i64 0,.slice none 0 0,.slice none 0 0] 117));rw[<-hw];have rO:Hid (Below wr.heap.size wr w8):=hid (by rw[hw];exact zU.out.alloc zU.out.size _);have HZ8:Hid (w8.heap[w7.heap.size]?=some (.cells #[.string {data:=#[]},.string {data:=#[]},.string {data:=#[]},.int .i64 0,.int .i64 0,.int .i64 0,.slice none 0 0,.slice none 0 0] 117 (0,0))):=hid (by rw[hw];exact aD _ _ rfl);clear hw;refine aC (BL wr) (fun _ h=>h) rO.out ?_;refine aH rfl ?_;go_wp2_with fail;refine(A7.out w8 (tnB iP.out rO.out)).mono ?_;rintro e gX ⟨a1,n1,c1,a2,n2,c2,rfl, -,hb⟩;have rq:=bq rO hb;have vH:Hid (gX.heap[w7.heap.size]?=some (.cells #[.string {data:=#[]},.string {data:=#[]},.string {data:=#[]},.int .i64 0,.int .i64 0,.int .i64 0,.slice none 0 0,.slice none 0 0] 117 (0,0))):=hid ((hb.block _ (ay HZ8.out)).trans HZ8.out);clear hb;go_wp2_with fail;refine aC (BL wr) (fun _ h=>h) rq.out ?_
      iterate 3
       refine ai rfl ?_
       intro hne
       go_big_quiet_step (fail)
       refine zWq ?_
       clear hne
      obtain⟨⟨g0,g1,g2,g3,g4,g5,g6,g7⟩,gf⟩:=dn vH.out;have HS:=hid (Gz vH.out (.string gn) (.string go) (.string gu) (.int .i64 gk) (.int .i64 gl) (.int .i64 gh) (.slice a1 n1 c1) (.slice a2 n2 c2));have hBw:wr.heap.size<=w7.heap.size:=zU.out.size;refine aH rfl ?_;go_wp2_with fail;obtain⟨w9,hw⟩:=nmE (((((((((gX.setCell ⟨w7.heap.size,0,none⟩ (.string gn)).setCell ⟨w7.heap.size,1,none⟩ (.string go)).setCell ⟨w7.heap.size,2,none⟩ (.string gu)).setCell ⟨w7.heap.size,3,none⟩ (.int .i64 gk)).setCell ⟨w7.heap.size,4,none⟩ (.int .i64 gl)).setCell ⟨w7.heap.size,5,none⟩ (.int .i64 gh)).setCell ⟨w7.heap.size,6,none⟩ (.slice a1 n1 c1)).setCell ⟨w7.heap.size,7,none⟩ (.slice a2 n2 c2)));rw[<-hw];have Nh:Hid (Below wr.heap.size wr w9):=hid (by rw[hw];exact rq.out.trans (Turns.below HS.out.2 rq.out.size (fun b hb=>by omega)));have yD:Hid (w9.heap[w7.heap.size]?=some (.cells #[.string gn,.string go,.string gu,.int .i64 gk,.int .i64 gl,.int .i64 gh,.slice a1 n1 c1,.slice a2 n2 c2] 117 (0,0))):=hid (by rw[hw];exact HS.out.1);clear hw g0 g1 g2 g3 g4 g5 g6 g7 gf HS;refine aC (BL wr) (fun _ h=>h) Nh.out ?_;refine aL ?_;try simp only[zDs,zDz]
      clear Bw Bx Bz BA Bu Iz IA Bv;obtain⟨⟨u0,u1,u2,u3,u4,u5,u6,u7⟩, -⟩:=dn yD.out;have Dy:=bq hbr Nh.out;rcases HGK.out with e|e
      all_goals
       subst e
       go_wp2
       go_roundw
       case rel=>exact⟨k+1,by omega,by go_num,by first|rfl|trivial,by first|rfl|trivial,Dy⟩
       simp[intOf];omega
    ·go_wp2_with fail
     obtain⟨w7,hw⟩:=nmE (w6.alloc (.cells #[.string {data:=#[]},.string {data:=#[]},.string {data:=#[]},.int .i64 0,.int .i64 0,.int .i64 0,.slice none 0 0,.slice none 0 0] 117));rw[<-hw];have zU:Hid (Below wr.heap.size wr w7):=hid (by rw[hw];exact Fx.out.alloc Fx.out.size _);have HZ7:Hid (w7.heap[w6.heap.size]?=some (.cells #[.string {data:=#[]},.string {data:=#[]},.string {data:=#[]},.int .i64 0,.int .i64 0,.int .i64 0,.slice none 0 0,.slice none 0 0] 117 (0,0))):=hid (by rw[hw];exact aD _ _ rfl);clear hw;refine aC (BL wr) (fun _ h=>h) zU.out ?_;refine aH rfl ?_;go_wp2_with fail;refine(uU.out w7 (tnB iP.out zU.out)).mono ?_;rintro e w8 ⟨rfl,hb⟩;have rO:=bq zU hb;have HZ8:Hid (w8.heap[w6.heap.size]?=some (.cells #[.string {data:=#[]},.string {data:=#[]},.string {data:=#[]},.int .i64 0,.int .i64 0,.int .i64 0,.slice none 0 0,.slice none 0 0] 117 (0,0))):=hid ((hb.block _ (ay HZ7.out)).trans HZ7.out);clear hb;go_wp2_with fail;refine aC (BL wr) (fun _ h=>h) rO.out ?_;refine aH rfl ?_;go_wp2_with fail;refine(A7.out w8 (tnB iP.out rO.out)).mono ?_;rintro e gX ⟨a1,n1,c1,a2,n2,c2,rfl, -,hb⟩;have rq:=bq rO hb;have vH:Hid (gX.heap[w6.heap.size]?=some (.cells #[.string {data:=#[]},.string {data:=#[]},.string {data:=#[]},.int .i64 0,.int .i64 0,.int .i64 0,.slice none 0 0,.slice none 0 0] 117 (0,0))):=hid ((hb.block _ (ay HZ8.out)).trans HZ8.out);clear hb;go_wp2_with fail;refine aC (BL wr) (fun _ h=>h) rq.out ?_
     iterate 3
      refine ai rfl ?_
      intro hne
      go_big_quiet_step (fail)
      refine zWq ?_
      clear hne
     obtain⟨⟨g0,g1,g2,g3,g4,g5,g6,g7⟩,gf⟩:=dn vH.out;have HS:=hid (Gz vH.out (.string gn) (.string go) (.string gu) (.int .i64 gk) (.int .i64 gl) (.int .i64 gh) (.slice a1 n1 c1) (.slice a2 n2 c2));have hBw:wr.heap.size<=w6.heap.size:=Fx.out.size;refine aH rfl ?_;go_wp2_with fail;obtain⟨w9,hw⟩:=nmE (((((((((gX.setCell ⟨w6.heap.size,0,none⟩ (.string gn)).setCell ⟨w6.heap.size,1,none⟩ (.string go)).setCell ⟨w6.heap.size,2,none⟩ (.string gu)).setCell ⟨w6.heap.size,3,none⟩ (.int .i64 gk)).setCell ⟨w6.heap.size,4,none⟩ (.int .i64 gl)).setCell ⟨w6.heap.size,5,none⟩ (.int .i64 gh)).setCell ⟨w6.heap.size,6,none⟩ (.slice a1 n1 c1)).setCell ⟨w6.heap.size,7,none⟩ (.slice a2 n2 c2)));rw[<-hw];have Nh:Hid (Below wr.heap.size wr w9):=hid (by rw[hw];exact rq.out.trans (Turns.below HS.out.2 rq.out.size (fun b hb=>by omega)));have yD:Hid (w9.heap[w6.heap.size]?=some (.cells #[.string gn,.string go,.string gu,.int .i64 gk,.int .i64 gl,.int .i64 gh,.slice a1 n1 c1,.slice a2 n2 c2] 117 (0,0))):=hid (by rw[hw];exact HS.out.1);clear hw g0 g1 g2 g3 g4 g5 g6 g7 gf HS;refine aC (BL wr) (fun _ h=>h) Nh.out ?_;refine aL ?_;try simp only[zDs,zDz]
     clear Bw Bx Bz BA Bu Iz IA Bv;obtain⟨⟨u0,u1,u2,u3,u4,u5,u6,u7⟩, -⟩:=dn yD.out;have Dy:=bq hbr Nh.out;rcases HGK.out with e|e
     all_goals
      subst e
      go_wp2
      go_roundw
      case rel=>exact⟨k+1,by omega,by go_num,by first|rfl|trivial,by first|rfl|trivial,Dy⟩
      simp[intOf];omega
  ·obtain rfl:k=2:=by omega
   obtain⟨⟨z0,z1,z2,z3,z4⟩, -⟩:=mh (HR.out wr iO.out);go_wp2_with fail;refine(IB _ _ _ _ _ _ _ _ _ _ (World.alloc _ _) rfl rfl rfl (by first|rfl|exact hes) (aD _ _ rfl)).mono ?_;rintro e wz ⟨rfl,hbz⟩;have su:Hid (BL w wz):=hid ((iP.out.alloc iP.out.size _).trans (hbz.mono (by have:=iP.out.size;simp;omega)));clear hbz;go_wp2;go_ret;exact⟨rfl,su.out⟩
def yo(k:Int):Option Nat:=
 if k=0 then some 276 else if k=1 then some 277 else if k=4 then some 278 else if k=5 then some 279 else if k=6 then some 281
 else if k=7 then some 282 else if k=8 then some 284 else none
def LO(k:Int):Value:=match yo k with
 |some fo=>.agg #[.func (.func fo) #[] #[]]
 |none=>.agg #[.nilFunc]
structure TabC(b:Nat)(w:World):Prop where
 glob:w.cell? ⟨0,0,none⟩=some (.map (some b))
 lt:b<w.heap.size
 look:∀(W:World),W.heap[b]?=w.heap[b]?->∀k:Int,0<=k->k<=8->(Instr.lookup 240 (.map (some b)) (.int .i64 k) true).run Tryz.prog W=.ok (.tuple #[LO k,.bool (yo k).isSome]) W
theorem TabC.below{b B:Nat}{w w':World}(h:TabC b w)(hb:Below B w w')(hB:b<B)(h0:0<B):TabC b w':=
 ⟨(hb.cell (p:=⟨0,0,none⟩) h0).trans h.glob,zLl h.lt hb.size,fun W hW=>h.look W (hW.trans (hb.block _ hB))⟩
theorem Fy{f:ah.cA}(h:ah.cN f=true):0<=f.kind/\f.kind<=8:=by
 unfold ah.cN at h;simp only[zBa] at h;have h2:=h.2;unfold ah.lM at h2;repeat' split at h2
 all_goals first|omega|simp at h2
theorem KC{x:ah.bD}{i j:Int}(h0:0<=i)(h1:i<x.af3.length)(h2:0<=j)(h3:j<(ah.kd x i).af4.length):ah.hasB x i j=true:=by
 unfold ah.hasB;rw[decide_eq_true h0,decide_eq_true h1,decide_eq_true h2,decide_eq_true h3];rfl
theorem CW{x:ah.bD}{i j:Int}{f:ah.cA}(hu:0<=ah.dB x i j)(h:¬ah.yU x i j f=none):ah.hasB x (ah.dB x i j) (jH x i j f)=true/\ah.mS x i j f=jr x (ah.dB x i j) (jH x i j f):=by
 unfold ah.mS;unfold ah.yU at h ⊢;rw[if_neg (by omega)] at h ⊢;by_cases hb:ah.hasB x (ah.dB x i j) (ah.aX (ah.kd x (ah.dB x i j)) f.of)=true
 ·refine⟨hb,?_⟩
  rw[if_pos hb];unfold jr jH;rw[if_pos hb];rfl
 ·rw[if_neg hb] at h
  exact absurd rfl h
theorem TA(x:ah.bD)(i j:Nat)(hi:i<x.af3.length)(hj:j<(ah.kd x i).af4.length)(h0:ah.wD x i j=0)(h6:x.af3.length<=1000)(h10:∀k∈x.af3,k.af4.length<=1000)(fo:Nat)(hf:yo (ah.fd x i j).kind=some fo)
  (ak al ar:Option Addr)(ck cl cr:Nat)(uw ug:Value)(S:Nat->Prop)(w:World)(hv:eU S w (.agg #[.int .i64 x.af6,.slice ak x.af3.length ck,.slice al x.af7.length cl,.slice ar x.af8.length cr]) x):
  Calls Tryz.prog fo #[.agg (jk x.af6 ak x.af3.length ck al x.af7.length cl ar x.af8.length cr i j (ah.fd x i j) uw ug).toArray] w fun e w'=>e=.returned (.int .i64 0)/\BL w w':=by
 have hi':(0:Int)<=i/\(i:Int)<x.af3.length:=⟨by omega,by omega⟩;unfold ah.wD at h0;simp only at h0;unfold yo at hf;by_cases k0:(ah.fd x i j).kind=0
 ·rw[if_pos k0] at hf h0
  cases hf
  exact IC x i j _ ak al ar ck cl cr uw ug S w hv (by
   by_cases hj0:(0:Int)<j
   ·rw[if_pos hj0] at h0;omega
   ·omega)
 rw[if_neg k0] at hf h0;by_cases k1:(ah.fd x i j).kind=1
 ·rw[if_pos k1] at hf h0
  cases hf
  exact IE x i j _ ak al ar ck cl cr uw ug S w hv (by
   by_cases hu:ah.dB x i j<0
   ·rw[if_pos hu] at h0;omega
   ·omega)
 rw[if_neg k1] at hf h0;by_cases k4:(ah.fd x i j).kind=4
 ·rw[if_pos k4] at hf h0
  cases hf;refine IJ x i j _ ak al ar ck cl cr uw ug S w hv hi' ?_;by_cases hn:(ah.fd x i j).of=ah.nil
  ·exact .inl hn
  ·right
   by_cases hc:ah.aX (ah.kd x i) (ah.fd x i j).of<0\/(j:Int)<=ah.aX (ah.kd x i) (ah.fd x i j).of\/¬(ah.fd x i (ah.aX (ah.kd x i) (ah.fd x i j).of)).kind=4
   ·rw[if_pos ⟨hn,hc⟩] at h0;omega
   ·have h1:0<=ah.aX (ah.kd x i) (ah.fd x i j).of:=by
     by_cases h:ah.aX (ah.kd x i) (ah.fd x i j).of<0
     ·exact absurd (.inl h) hc
     ·omega
    have h2:ah.aX (ah.kd x i) (ah.fd x i j).of<j:=by
     by_cases h:(j:Int)<=ah.aX (ah.kd x i) (ah.fd x i j).of
     ·exact absurd (.inr (.inl h)) hc
     ·omega
    refine⟨h1,h2,?_⟩;rw[tZ (KC hi'.1 hi'.2 h1 (by omega))];exact Classical.not_not.1 fun h=>hc (.inr (.inr h))
 rw[if_neg k4] at hf h0;by_cases k5:(ah.fd x i j).kind=5
 ·rw[if_pos k5] at hf h0
  cases hf
  exact IG x i j _ ak al ar ck cl cr uw ug S w hv (by
   by_cases hu:ah.JR x (ah.fd x i j).of=true
   ·exact hu
   ·rw[if_neg hu] at h0;omega)
 rw[if_neg k5] at hf h0;by_cases k6:(ah.fd x i j).kind=6
 ·rw[if_pos k6] at hf h0
  cases hf;by_cases ho:ah.eY x i (ah.fd x i j)<0
  ·rw[if_pos ho] at h0;omega
  rw[if_neg ho] at h0;by_cases hs:(ah.eZ x i (ah.fd x i j)).length≠1
  ·rw[if_pos hs] at h0;omega
  exact II x i j _ ak al ar ck cl cr uw ug S w hv hi'.1 (by omega) (by omega) h6 h10
 rw[if_neg k6] at hf h0;by_cases k7:(ah.fd x i j).kind=7
 ·rw[if_pos k7] at hf h0
  cases hf;by_cases hu:ah.dB x i j<0
  ·rw[if_pos hu] at h0;omega
  rw[if_neg hu] at h0;by_cases hc:ah.yU x i j (ah.fd x i j)=none\/(ah.mS x i j (ah.fd x i j)).kind≠6\/ah.bZ x (ah.mS x i j (ah.fd x i j)).of≠i
  ·rw[if_pos hc] at h0;omega
  obtain⟨t1,t2⟩:=CW (f:=ah.fd x i j) (by omega) (fun h=>hc (.inl h));exact IK x i j _ ak al ar ck cl cr uw ug S w hv hi' (by omega) t1 (by rw[<-t2];exact Classical.not_not.1 fun h=>hc (.inr (.inl h))) (by rw[<-t2];exact Classical.not_not.1 fun h=>hc (.inr (.inr h)))
 rw[if_neg k7] at hf h0;by_cases k8:(ah.fd x i j).kind=8
 ·rw[if_pos k8] at hf h0
  cases hf;by_cases hu:ah.dB x i j<0
  ·rw[if_pos hu] at h0;omega
  rw[if_neg hu] at h0;by_cases hc:ah.yU x i j (ah.fd x i j)=none\/¬((ah.mS x i j (ah.fd x i j)).kind=2\/(ah.mS x i j (ah.fd x i j)).kind=3\/(ah.mS x i j (ah.fd x i j)).kind=4\/(ah.mS x i j (ah.fd x i j)).kind=5\/(ah.mS x i j (ah.fd x i j)).kind=8)
  ·rw[if_pos hc] at h0;omega
  obtain⟨t1,t2⟩:=CW (f:=ah.fd x i j) (by omega) (fun h=>hc (.inl h));exact IL x i j _ ak al ar ck cl cr uw ug S w hv hi' (by omega) t1 (by rw[<-t2];exact Classical.not_not.1 fun h=>hc (.inr h))
 rw[if_neg k8] at hf;cases hf
theorem IV{k:Int}{fo:Nat}(h:yo k=some fo):∀args w,(callFunc fo args).run Tryz.prog w=.ok (.enter fo args) w:=by
 unfold yo at h;split at h
 ·cases h;exact aZ Tryz.func276 (by kernel_rfl) rfl
 split at h
 ·cases h;exact aZ Tryz.func277 (by kernel_rfl) rfl
 split at h
 ·cases h;exact aZ Tryz.func278 (by kernel_rfl) rfl
 split at h
 ·cases h;exact aZ Tryz.func279 (by kernel_rfl) rfl
 split at h
 ·cases h;exact aZ Tryz.func281 (by kernel_rfl) rfl
 split at h
 ·cases h;exact aZ Tryz.func282 (by kernel_rfl) rfl
 split at h
 ·cases h;exact aZ Tryz.func284 (by kernel_rfl) rfl
 ·cases h
theorem uh(a b c:Int)(g:Nat)(w:World):
  Calls Tryz.prog 130 #[.int .i64 a,.int .i64 b,.int .i64 c,.int .i64 0,.pointer (some ⟨g,0,none⟩)] w fun e w'=>e=.returned (.tuple #[])/\w=w':=by
 go_enter Tryz.func130,Tryz.ntmps130;go_wp2;go_end0;exact⟨rfl,rfl⟩
theorem LP(nm s:ByteArray)(u1 u2:Value)(b:Nat)(w:World)(hb:w.cell? ⟨b,0,none⟩=some (.string s)):
  Calls Tryz.prog 132 #[.agg #[.string nm,u1,u2],.pointer (some ⟨b,0,none⟩)] w fun e w'=>e=.returned (.bool (decide (nm=s)))/\BL w w':=by
 have hz:b<w.heap.size:=zBl w ⟨b,0,none⟩ hb;have HD:Hid ((nm.toList==s.toList)=decide (nm=s)):=hid GD;go_enter Tryz.func132,Tryz.ntmps132;go_wp2;go_ret;exact⟨by rw[<-HD.out];rfl,aj.alloc aB _⟩
theorem LQ{x:ah.bD}(h:ah.okB x=true){i:Nat}(hi:i<x.af7.length):(x.af7.take i).any (fun l=>decide (l.name=x.af7[i].name))=false:=by
 unfold ah.okB at h;simp only[zBa,zDt,List.all_eq_true,List.mem_range] at h;have h2:=h.1.1.2 i hi;unfold ah.Es at h2;rw[zEg hi] at h2;simp only[Option.map_some,Option.some.injEq] at h2;cases hc:(x.af7.take i).any (fun l=>decide (l.name=x.af7[i].name)) with
 |false=>rfl
 |true=>rw[hc] at h2;simp at h2
theorem LS{x:ah.bD}(h:ah.okB x=true){i:Nat}(hi:i<x.af8.length):ah.yX x i=0:=by
 unfold ah.okB at h;simp only[zBa,zDt,List.all_eq_true,List.mem_range] at h;exact h.2 i hi
theorem xD{x:ah.bD}{k:Int}{s:ah.Nm}(hk:0<=k)(h1:¬(ah.tr x k s).1=true)(h2:¬(ah.tr x k s).2=true):
  s=ah.nil\/(ah.hasB x k (ah.aX (ah.kd x k) s)=true/\((jr x k (ah.aX (ah.kd x k) s)).kind=2\/(jr x k (ah.aX (ah.kd x k) s)).kind=4)):=by
 by_cases hs:s=ah.nil
 ·exact .inl hs
 ·unfold ah.tr at h1 h2
  have hc:¬(s=ah.nil\/k<0):=fun h=>h.elim hs (by omega);rw[if_neg hc] at h1 h2;simp only at h1 h2
  have hb:ah.hasB x k (ah.aX (ah.kd x k) s)=true:=by
   cases hb:ah.hasB x k (ah.aX (ah.kd x k) s)
   ·rw[hb] at h1;exact absurd rfl h1
   ·rfl
  refine .inr ⟨hb,?_⟩;rw[tZ hb];rw[if_pos hb] at h2;simp only[zBa,zDt] at h2;by_cases h3:(ah.fd x k (ah.aX (ah.kd x k) s)).kind=2
  ·exact .inl h3
  ·exact .inr (Classical.not_not.1 fun h4=>h2 ⟨h3,h4⟩)
theorem IW{x:ah.bD}{i:Nat}(h:ah.yX x i=0):(x.af8.take i).any (fun s=>decide (s.name=(ah.rl x i).name))=false/\0<=ah.bZ x (ah.rl x i).kind/\
  (∀s,s=(ah.rl x i).a\/s=(ah.rl x i).b->s=ah.nil\/(ah.hasB x (ah.bZ x (ah.rl x i).kind) (ah.aX (ah.kd x (ah.bZ x (ah.rl x i).kind)) s)=true/\((jr x (ah.bZ x (ah.rl x i).kind) (ah.aX (ah.kd x (ah.bZ x (ah.rl x i).kind)) s)).kind=2\/(jr x (ah.bZ x (ah.rl x i).kind) (ah.aX (ah.kd x (ah.bZ x (ah.rl x i).kind)) s)).kind=4)))/\¬(ah.rl x i).a=(ah.rl x i).b:=by
 unfold ah.yX at h;simp only at h;split at h
 ·omega
 rename_i h1;split at h
 ·omega
 rename_i h2;split at h
 ·omega
 rename_i h3;split at h
 ·omega
 rename_i h4
 have hk:0<=ah.bZ x (ah.rl x i).kind:=by
  by_cases hk:ah.bZ x (ah.rl x i).kind<0
  ·exact absurd (.inl hk) h2
  ·omega
 refine⟨by simpa using h1,hk,fun s hs=>?_,h4⟩;rcases hs with rfl|rfl
 ·exact xD hk (fun e=>h2 (.inr (.inl e))) (fun e=>h3 (.inl e))
 ·exact xD hk (fun e=>h2 (.inr (.inr e))) (fun e=>h3 (.inr e))
theorem LU{k:Int}{fo:Nat}(h:yo k=some fo):LO k=.agg #[.func (.func fo) #[] #[]]:=by unfold LO;rw[h]
theorem LV{k:Int}(h:yo k=none):LO k=.agg #[.nilFunc]:=by unfold LO;rw[h]
theorem Fz{x:ah.bD}{i j:Int}(h:ah.mH x i j=0):¬ah.aX (ah.kd x i) (ah.fd x i j).name<j/\ah.wD x i j=0:=by
 unfold ah.mH at h;split at h
 ·omega
 ·rename_i h1;exact⟨h1,h⟩
theorem qj{x:ah.bD}{i:Nat}(h:ah.yV x i=0):¬ah.bZ x (ah.kd x i).name<i/\0<(ah.kd x i).af4.length/\(ah.fd x i 0).kind=0:=by
 unfold ah.yV at h;split at h
 ·omega
 rename_i h1;split at h
 ·omega
 rename_i h2;refine⟨h1,?_,Classical.not_not.1 fun h3=>h2 (.inr h3)⟩;by_cases h0:(ah.kd x i).af4.length=0
 ·exact absurd (.inl h0) h2
 ·omega
theorem IX(x:ah.bD)(hok:ah.okB x=true)(v:Value)(S:Nat->Prop)(tb:Nat)(w:World)(hv:eU S w v x)(Kw:LaidW w)(htb:TabC tb w):
  Calls Tryz.prog 103 #[v] w fun e w'=>e=.returned (.slice none 0 0)/\BL w w':=by
 obtain⟨hxv,hxk⟩:=aF.qL hok;obtain⟨v6,vl6,vr16,vK⟩:=aF.qd hxv;have h6:x.af3.length<=1000:=by omega
 have h10:∀k∈x.af3,k.af4.length<=1000:=fun k hk=>by have:=(aF.lS (vK k hk)).1;omega
 obtain⟨ak,ck,al,cl,ar,cr,rfl,hk,hl,hr,hsk,hsl,hsr⟩:=hv.form;have HV:=hid (fun(W:World) (hW:BL w W)=>hv.keep (aA.below hW));have Yd:=hid (fun(W:World) (hW:BL w W)=>htb.below hW htb.lt (by have:=Kw.size;omega));obtain⟨w1,hw1⟩:=nmE (bE w x.af6 (.slice ak x.af3.length ck) (.slice al x.af7.length cl) (.slice ar x.af8.length cr));have aW:=afX hw1;have HX:=afY hw1;unfold bE at hw1;have HW1:=hid hw1;clear hw1;have LW:=hid (yh x hxv _ S w1 (HV.out w1 aW.out) (Kw.next aW.out));have Ni:=hid hk;have HHL:=hid hl;have HHR:=hid hr;have HOK:=hid hok;have HXK:=hid hxk;have HVK:=hid vK;have hcl:x.af7.length<=cl/\cl<=9223372036854775807:=by obtain⟨_,_,e, -,g1,g2⟩:=hl.form;cases e;exact⟨g1,g2⟩
 clear hk hl hr hv Kw htb hok hxk vK;have lG:=aZ Tryz.func130 (by kernel_rfl) rfl;obtain⟨⟨y0,y1,y2,y3⟩, -⟩:=aO (HX.out w1 aj);go_enter Tryz.func103,Tryz.ntmps103;go_upto_region 1 with fail;rw[<-HW1.out];go_wp2_with fail;refine LW.out.mono ?_;rintro e w2 ⟨rfl,hb2⟩;have cU:Hid (BL w1 w2):=hid hb2;clear hb2 y0 y1 y2 y3 LW;obtain⟨w3,hw3⟩:=nmE (w2.alloc (.cells #[.slice none 0 0] 195));have dD:Hid (Below w1.heap.size w1 w3):=hid (by rw[hw3];exact cU.out.alloc cU.out.size _);have HO:Hid (∀W,BL w3 W->W.heap[w2.heap.size]?=some (.cells #[.slice none 0 0] 195 (0,0))):=hid (fun W hW=>(hW.block _ (by rw[hw3];simp)).trans (by rw[hw3];exact aD _ _ rfl));have bG:Hid (∀W,BL w3 W->BL w W):=hid (fun W hW=>tnB aW.out (tnB dD.out hW));have K5:Hid (∀W,BL w3 W->W.heap[w.heap.size]?=some (.cells #[.int .i64 x.af6,.slice ak x.af3.length ck,.slice al x.af7.length cl,.slice ar x.af8.length cr] 27 (0,0))):=hid (fun W hW=>HX.out W (tnB dD.out hW));have HW3:=hid hw3;clear hw3 HX aW cU dD;go_upto_region 5 with fail;rw[<-HW3.out];obtain⟨⟨y0,y1,y2,y3⟩, -⟩:=aO (K5.out w3 aj);go_wp2;clear y0 y1 y2 y3;go_loopw [28] (fun i wr=>∃k:Nat,k<=x.af7.length/\i=.int .i64 k/\Hid (BL w3 wr)) (fun i _=>x.af7.length-(intOf i).toNat);case atStart=>exact⟨0,Nat.zero_le _,rfl,hid aj⟩
 case round=>
  obtain⟨k,hk,rfl,iO⟩:=hrel;by_cases hlt:k<x.af7.length
  ·have hk0:(0:Int)<=(k:Int):=by omega
   have hk1:(k:Int)<(x.af7.length:Int):=by omega
   have hle:(k:Int)<=cl:=by omega
   obtain⟨hzl, -,l0,u1,u2,l1,l2,hu1,kL⟩:=rE.at (dA.keep cE HHL.out (aA.below (bG.out wr iO.out))) hlt;obtain⟨uj,cs,rfl, -, -, -⟩:=hu1.form;obtain⟨am,cm,rfl, -, -, -⟩:=kL.form;clear hu1 kL;have HA:=hid (LQ HOK.out hlt);have HLv:=hid (fun(W:World) (hW:BL w W)=>dA.take (dA.keep cE HHL.out (aA.below hW)) (k:=k) (by omega));generalize x.af7[k]=lf at*;obtain⟨ln,lss,lms⟩:=lf;simp only at l0 l1 l2 HA;generalize lss.length=n1 at*;generalize lms.length=n2 at*;have iO:=iO;obtain⟨w4,hw⟩:=nmE (wr.alloc (.cells #[.string ln,.slice uj n1 cs,.slice am n2 cm] 107));have iQ:Hid (Below w3.heap.size w3 w4):=hid (by rw[hw];exact iO.out.alloc iO.out.size _);have HN4:Hid (∀W,BL w4 W->W.heap[wr.heap.size]?=some (.cells #[.string ln,.slice uj n1 cs,.slice am n2 cm] 107 (0,0))):=hid (fun W hW=>(hW.block _ (by rw[hw];simp)).trans (by rw[hw];exact aD _ _ rfl));have zV:=hid hw;clear hw;have Na:wr.heap.size<w4.heap.size:=ay (HN4.out w4 aj)
   have Gp:=hid (DH cE (x.af7.take k) (fun l:ah.Eb=>decide (l.name=ln)) _ S w4 (HLv.out w4 (bG.out w4 iQ.out)) 132 #[.pointer (some ⟨wr.heap.size,0,none⟩)] (aZ Tryz.func132 (by kernel_rfl) rfl) (fun X hX j hj us _ hu=>by
    obtain⟨u1,u2,rfl, -, -⟩:=hu;exact LP _ ln u1 u2 _ X (aI (HN4.out X hX) 0)))
   rw[HA.out] at Gp;go_upto_region 9 with fail;rw[<-zV.out];clear l0 l1 l2;obtain⟨⟨y0,y1,y2,y3⟩, -⟩:=aO (K5.out w4 iQ.out);go_wp2_with fail;refine Gp.out.mono ?_;rintro e w5 ⟨rfl,hb⟩;have fS:=bq iQ hb;clear hb;clear y0 y1 y2 y3;go_wp2_with fail;refine(jg _ _ _ _ (World.alloc _ _) (by rfl) (aD _ _ rfl)).mono ?_;rintro e w6 ⟨rfl,hb⟩;have qJ:Hid (BL w3 w6):=hid ((fS.out.alloc fS.out.size _).trans (hb.mono (by have:=fS.out.size;simp;omega)));clear hb;go_wp2_with fail;refine(uh _ _ _ _ _).mono ?_;rintro e wy ⟨rfl,rfl⟩;go_wp2;go_roundw;case rel=>exact⟨k+1,by omega,by go_num,qJ⟩
   simp[intOf];omega
  ·obtain rfl:k=x.af7.length:=by omega
   have xB:=iO;obtain⟨⟨y0,y1,y2,y3⟩, -⟩:=aO (K5.out wr iO.out);go_wp2;clear y0 y1 y2 y3;generalize hW0:wr=W0 at*;go_loopw [50] (fun i wr=>∃k:Nat,k<=x.af3.length/\i=.int .i64 k/\Hid (BL w3 wr)) (fun i _=>x.af3.length-(intOf i).toNat);case atStart=>exact⟨0,Nat.zero_le _,rfl,iO⟩
   case round=>
    obtain⟨k,hk,rfl,iO⟩:=hrel;by_cases hlt:k<x.af3.length
    ·have hk0:(0:Int)<=(k:Int):=by omega
     have hk1:(k:Int)<(x.af3.length:Int):=by omega
     obtain⟨lU, -,k0,k1,k2,uf,k3,nU⟩:=fV.at (fV.keep Ni.out (aA.below (bG.out wr iO.out))) hlt;obtain⟨af,cf,rfl,hsf, -, -⟩:=nU.form;have Kl:Hid (∀W,BL wr W->dh S W (.slice af x.af3[k].af4.length cf) x.af3[k].af4):=hid (fun W hW=>nU.keep (aA.below hW));have HXk:=hid (HXK.out k hlt);have HKE:=hid (fun(W:World) (hW:BL w W)=>IQ x k _ S W (HV.out W hW) hlt (qj HXk.out.1).1 (qj HXk.out.1).2.1 (qj HXk.out.1).2.2);have Gq:Hid (ah.kd x k=x.af3[k]):=hid (fM hlt);have HFB:Hid (∀f∈x.af3[k].af4,ah.cN f=true):=hid (aF.lS (HVK.out _ (zGm hlt))).2;have uX:Hid (∀(j:Nat) (h:j<x.af3[k].af4.length),ah.fd x k j=x.af3[k].af4[j]):=hid (fun j h=>rI hlt h);have HFP:Hid (∀j:Nat,j<x.af3[k].af4.length->ah.mH x k j=0):=hid (fun j hj=>HXk.out.2 j (by rw[Gq.out];exact hj));clear nU HXk;have Iy:x.af3[k].af4.length<=1000:=h10 _ (zGm hlt);have IY:=hid (fun(j:Nat) (hj:j<(ah.kd x k).af4.length) (h0:ah.wD x k j=0) (fo:Nat) (hf:yo (ah.fd x k j).kind=some fo) (uw ug:Value) (W:World) (hW:BL w W)=>TA x k j hlt hj h0 h6 h10 fo hf ak al ar ck cl cr uw ug S W (HV.out W hW));rw[Gq.out] at IY;generalize LX:x.af3[k]=kq at*;obtain⟨kn,CU,CV,Bt⟩:=kq;have HKq2:=hid LX;clear LX;simp only at k0 k1 k2 k3 hsf Kl HFB HFP Iy;obtain⟨nf,hnf⟩:=nmE Bt.length;have VD:=hid hnf;rw[<-hnf] at k3 hsf Kl Iy;clear hnf;obtain⟨w4,hw⟩:=nmE (wr.alloc (.cells #[.string kn,.int .i64 CU,.int .i64 CV,.slice af nf cf] 102));have iQ:Hid (Below w3.heap.size w3 w4):=hid (by rw[hw];exact iO.out.alloc iO.out.size _);have HN4:Hid (∀W,BL w4 W->W.heap[wr.heap.size]?=some (.cells #[.string kn,.int .i64 CU,.int .i64 CV,.slice af nf cf] 102 (0,0))):=hid (fun W hW=>(hW.block _ (by rw[hw];simp)).trans (by rw[hw];exact aD _ _ rfl));have zV:=hid hw;clear hw;go_upto_region 15 with fail;rw[<-zV.out];clear k0 k1 k2 k3;obtain⟨⟨y0,y1,y2,y3⟩, -⟩:=aO (K5.out w4 iQ.out);go_wp2_with fail;refine(HKE.out w4 (bG.out w4 iQ.out)).mono ?_;rintro e w5 ⟨rfl,hb⟩;have NF:Hid (BL w4 w5):=hid hb;have fS:=bq iQ hb;clear hb;clear y0 y1 y2 y3;go_wp2_with fail;refine(uh _ _ _ _ _).mono ?_;rintro e wy ⟨rfl,rfl⟩;obtain⟨⟨c0,c1,c2,c3⟩, -⟩:=aO (HN4.out w5 NF.out);go_wp2;clear c0 c1 c2 c3;have HMr:Hid (BL wr w5):=hid ((by rw[zV.out];exact aj.alloc aB _:BL wr w4).trans (NF.out.mono (by rw[zV.out];simp)));have abB:Hid (∀W,BL w5 W->dh S W (.slice af nf cf) Bt):=hid (fun W hW=>Kl.out W (tnB HMr.out hW));have Tx:Hid (∀W,BL w5 W->W.heap[wr.heap.size]?=some (.cells #[.string kn,.int .i64 CU,.int .i64 CV,.slice af nf cf] 102 (0,0))):=hid (fun W hW=>HN4.out W (tnB NF.out hW));have zS:Hid (∀W,BL w5 W->BL w3 W):=hid (fun W hW=>tnB fS.out hW);generalize LY:wr=Wb at*;go_loopw [64] (fun i wr=>∃j:Nat,j<=nf/\i=.int .i64 j/\Hid (BL w5 wr)) (fun i _=>nf-(intOf i).toNat);case atStart=>exact⟨0,Nat.zero_le _,rfl,hid aj⟩
     case round=>
      obtain⟨j,hj,rfl,HJr⟩:=hrel;by_cases hjt:j<nf
      ·have hj0:(0:Int)<=(j:Int):=by omega
       have hj1:(j:Int)<(nf:Int):=by omega
       have Rw:j<Bt.length:=by rw[<-VD.out];exact hjt
       obtain⟨Gm, -,f0,f1,f2,f3,f4,f5,uw,ug,f6,f7,pq,hgs⟩:=dh.at (abB.out wr HJr.out) Rw;obtain⟨aw,cw,rfl, -, -, -⟩:=pq.form;obtain⟨ag,cg,rfl, -, -, -⟩:=hgs.form;clear pq hgs;have iO:Hid (BL w3 wr):=hid (zS.out wr HJr.out);have Z7:=Fz (HFP.out j Rw);rw[show ah.kd x k=⟨kn,CU,CV,Bt⟩ from Gq.out,uX.out j Rw] at Z7;have HFE:=hid Z7;have HC:=hid (fun(fo:Nat) (hf:yo (Bt[j]).kind=some fo) (uw ug:Value) (W:World) (hW:BL w W)=>by have:=IY.out j Rw Z7.2 fo (by rw[uX.out j Rw];exact hf) uw ug W hW;rw[uX.out j Rw] at this;exact this);have wO:=Fy (HFB.out _ (zGm Rw));have HFi:=hid (fun(s:ByteArray) (W:World) (hW:BL w5 W)=>jX ⟨kn,CU,CV,Bt⟩ s (.slice af nf cf) S W (abB.out W hW));simp only[kC] at HFi;clear Z7;generalize Bt[j]=g at*;obtain⟨gn,go,gu,gk,gl,gh,Gn,ggs⟩:=g;simp only at f0 f1 f2 f3 f4 f5 f6 f7 HFE wO HC;generalize Gn.length=nw at*;generalize ggs.length=ng at*;have HFn:=hid (HFi.out gn);obtain⟨hq1, -⟩:=HFE.out;generalize ah.aX ⟨kn,CU,CV,Bt⟩ gn=fz at*;have hdz:=decide_eq_false hq1;clear HFi;obtain⟨w6,hw⟩:=nmE (wr.alloc (.cells #[.string gn,.string go,.string gu,.int .i64 gk,.int .i64 gl,.int .i64 gh,.slice aw nw cw,.slice ag ng cg] 117));have qJ:Hid (Below w3.heap.size w3 w6):=hid (by rw[hw];exact iO.out.alloc iO.out.size _);have HN6:Hid (∀W,BL w6 W->W.heap[wr.heap.size]?=some (.cells #[.string gn,.string go,.string gu,.int .i64 gk,.int .i64 gl,.int .i64 gh,.slice aw nw cw,.slice ag ng cg] 117 (0,0))):=hid (fun W hW=>(hW.block _ (by rw[hw];simp)).trans (by rw[hw];exact aD _ _ rfl));have CT:=hid hw;clear hw;have Z9:Hid (Below w5.heap.size w5 w6):=hid (by rw[CT.out];exact HJr.out.alloc HJr.out.size _);go_upto_region 19 with fail;rw[<-CT.out];clear f0 f1 f2 f3 f4 f5 f6 f7;obtain⟨⟨f0,f1,f2,f3,f4,f5,f6,f7⟩, -⟩:=dn (HN6.out w6 aj);obtain⟨⟨c0,c1,c2,c3⟩, -⟩:=aO (Tx.out w6 Z9.out);go_wp2_with fail;refine(HFn.out w6 Z9.out).mono ?_;rintro e w7 ⟨rfl,hb⟩;have ZL:Hid (BL w6 w7):=hid hb;have zW:=bq qJ hb;clear hb;clear f0 f1 f2 f3 f4 f5 f6 f7 c0 c1 c2 c3;go_wp2_with fail;refine(jg _ _ _ _ (World.alloc _ _) (by first|rfl|exact hdz) (aD _ _ rfl)).mono ?_;rintro e w8 ⟨rfl,hb⟩;have xE:Hid (BL w3 w8):=hid ((zW.out.alloc zW.out.size _).trans (hb.mono (by have:=zW.out.size;simp;omega)));have Oo:Hid (BL w6 w8):=hid ((ZL.out.alloc ZL.out.size _).trans (hb.mono (by have:=ZL.out.size;simp;omega)));clear hb;obtain⟨⟨f0,f1,f2,f3,f4,f5,f6,f7⟩, -⟩:=dn (HN6.out w8 Oo.out);have TB:=hid (Yd.out w8 (bG.out w8 xE.out));have hgl:=TB.out.glob;have hlk:=TB.out.look w8 rfl gk wO.1 wO.2;go_upto_region 20 with fail;cases hcf:yo gk with
       |none=>
        rw[LV hcf,hcf] at hlk
        have HJn:Hid (∀o,BL w5 (w8.alloc o)):=hid (fun o=>tnB Z9.out (Oo.out.alloc Oo.out.size _))
        clear hcf HC
        simp only[Option.isSome_none] at hlk
        go_wp2_with fail
        refine(uh _ _ _ _ _).mono ?_
        rintro e wy ⟨rfl,rfl⟩
        go_wp2
        go_roundw
        case rel=>exact⟨j+1,by omega,by go_num,hid (HJn.out _)⟩
        simp[intOf];omega
       |some fo=>
        rw[LU hcf,hcf] at hlk
        have hfo:=IV hcf
        have Nj:=hid (HC.out fo hcf)
        clear hcf HC
        simp only[Option.isSome_some] at hlk
        obtain⟨w9,hw⟩:=nmE (w8.alloc (.cells #[.func (.func fo) #[] #[]] 238))
        have uo:Hid (Below w3.heap.size w3 w9):=hid (by rw[hw];exact xE.out.alloc xE.out.size _)
        have HN9:Hid (∀W,BL w9 W->W.heap[w8.heap.size]?=some (.cells #[.func (.func fo) #[] #[]] 238 (0,0))):=hid (fun W hW=>(hW.block _ (by rw[hw];simp)).trans (by rw[hw];exact aD _ _ rfl))
        have VA:=hid hw
        clear hw
        have UZ:Hid (Below w6.heap.size w6 w9):=hid (by rw[VA.out];exact Oo.out.alloc Oo.out.size _)
        go_upto_region 21 with fail
        rw[<-VA.out]
        clear hlk hgl f0 f1 f2 f3 f4 f5 f6 f7
        obtain⟨⟨f0,f1,f2,f3,f4,f5,f6,f7⟩, -⟩:=dn (HN6.out w9 UZ.out)
        obtain⟨⟨y0,y1,y2,y3⟩, -⟩:=aO (K5.out w9 uo.out)
        have d0:w9.cell? ⟨w8.heap.size,0,none⟩=some (.func (.func fo) #[] #[]):=aI (HN9.out w9 aj) 0
        have ZY:=hid (Nj.out (.slice aw nw cw) (.slice ag ng cg) w9 (bG.out w9 uo.out))
        simp only[jk] at ZY
        go_wp2_with fail
        refine ZY.out.mono ?_
        rintro e gX ⟨rfl,hb⟩
        have HJ10:Hid (BL w5 gX):=hid (tnB Z9.out (tnB UZ.out hb))
        clear hb y0 y1 y2 y3 d0 f0 f1 f2 f3 f4 f5 f6 f7
        go_wp2_with fail
        refine(uh _ _ _ _ _).mono ?_
        rintro e wy ⟨rfl,rfl⟩
        go_wp2
        go_roundw
        case rel=>exact⟨j+1,by omega,by go_num,HJ10⟩
        simp[intOf];omega
      ·obtain rfl:j=nf:=by omega
       go_wp2;go_roundw;case rel=>exact⟨k+1,by omega,by go_num,hid (zS.out wr HJr.out)⟩
       simp[intOf];omega
    ·obtain rfl:k=x.af3.length:=by omega
     have xB:=iO;obtain⟨⟨y0,y1,y2,y3⟩, -⟩:=aO (K5.out wr iO.out);go_wp2;clear y0 y1 y2 y3;generalize hW0:wr=W0 at*;go_loopw [108] (fun i wr=>∃k:Nat,k<=x.af8.length/\i=.int .i64 k/\Hid (BL w3 wr)) (fun i _=>x.af8.length-(intOf i).toNat);case atStart=>exact⟨0,Nat.zero_le _,rfl,iO⟩
     case round=>
      obtain⟨k,hk,rfl,iO⟩:=hrel;by_cases hlt:k<x.af8.length
      ·have hk0:(0:Int)<=(k:Int):=by omega
       have hk1:(k:Int)<(x.af8.length:Int):=by omega
       obtain⟨p1,p2,p3,p4⟩:=IW (LS HOK.out hlt);have HRE:=hid (IU x k _ S wr (HV.out wr (bG.out wr iO.out)) hlt p1 p2 p3 p4);clear p1 p2 p3 p4;obtain⟨⟨y0,y1,y2,y3⟩, -⟩:=aO (K5.out wr iO.out);go_wp2_with fail;refine HRE.out.mono ?_;rintro e w5 ⟨rfl,hb⟩;have fS:=bq iO hb;clear hb;clear y0 y1 y2 y3;go_wp2_with fail;refine(uh _ _ _ _ _).mono ?_;rintro e wy ⟨rfl,rfl⟩;go_wp2;go_roundw;case rel=>exact⟨k+1,by omega,by go_num,fS⟩
       simp[intOf];omega
      ·obtain rfl:k=x.af8.length:=by omega
       have o0:wr.cell? ⟨w2.heap.size,0,none⟩=some (.slice none 0 0):=aI (HO.out wr iO.out) 0;go_wp2;go_ret;exact⟨rfl,bG.out wr iO.out⟩
def LZ(_:Nat->Prop)(_:World)(us:List Value)(r:aF.Ref):Prop:=us=[.int .i64 (r.kind:Int),.int .i64 (r.field:Int),.int .i64 r.up,.int .i64 r.least]
theorem cQ:bV LZ:=⟨fun h _=>h,fun h _=>h⟩
abbrev rP(B:Nat):=cG 4 LZ (fun _=>True) B 159
abbrev CX(S:Nat->Prop):=dA 4 (LZ S) S
theorem TD{a b c d:Int}:∀u∈[Value.int .i64 a,.int .i64 b,.int .i64 c,.int .i64 d],u.oneCell'=true:=by
 intro u hu;simp only[zMc,zNn,or_false] at hu;rcases hu with rfl|rfl|rfl|rfl<;>rfl
theorem Tryz.Ye:jt Tryz.prog 156 159 4 32:=gA (z:=.agg #[.int .i64 0,.int .i64 0,.int .i64 0,.int .i64 0]) (by kernel_rfl) (by kernel_rfl) rfl (by omega) (by omega)
theorem cG.base{α:Type}{n:Nat}{RR:(Nat->Prop)->World->List Value->α->Prop}{S:Nat->Prop}{B B':Nat}{e:TypeId}{w:World}{v:Value}{xs:List α}(h:cG n RR S B e w v xs)(hB:B'<=B):cG n RR S B' e w v xs:=by
 obtain⟨jS,h1,h2,h3,h4⟩:=h;exact⟨jS,⟨h1.1,h1.2.imp id (fun⟨g,cap,cur,e1,e2,r⟩=>⟨g,cap,cur,e1,Nat.le_trans hB e2,r⟩)⟩,h2,h3,h4⟩
theorem zX(x:ah.bD)(h6:x.af3.length<=6)(h10:∀k∈x.af3,k.af4.length<=10)(v:Value)(S:Nat->Prop)(w:World)(hv:eU S w v x):
  Calls Tryz.prog 75 #[v] w fun e w'=>∃a c l,e=.returned (.slice a l.length c)/\l.length<=60/\l=aF.bT x/\rP w.heap.size w' (.slice a l.length c) l/\BL w w':=by
 obtain⟨ak,ck,al,cl,ar,cr,rfl,hk,hl,hr,hsk,hsl,hsr⟩:=hv.form;have HV:=hid (fun(W:World) (hW:BL w W)=>hv.keep (aA.below hW));have Ni:=hid hk;have PU:=hid (fun(i j:Nat) (W:World) (hW:BL w W)=>DP x i j _ S W (HV.out W hW));obtain⟨w1,hw1⟩:=nmE (bE w x.af6 (.slice ak x.af3.length ck) (.slice al x.af7.length cl) (.slice ar x.af8.length cr));have aW:=afX hw1;have HX:=afY hw1;unfold bE at hw1;have HW1:=hid hw1;clear hk hl hr hv hw1;obtain⟨⟨y0,y1,y2,y3⟩, -⟩:=aO (HX.out w1 aj);go_enter Tryz.func75,Tryz.ntmps75;go_upto_region 1 with fail;rw[<-HW1.out];go_wp2;clear y0 y1 y2 y3;go_loopw [3,11] (fun lv kk wr=>∃(k:Nat) (l:List aF.Ref) (a:Option Addr) (c:Nat),k<=x.af3.length/\kk=.int .i64 k/\lv=.slice a l.length c/\l.length<=10*k/\Hid (l=aF.oN x k)/\Hid (rP w1.heap.size wr (.slice a l.length c) l)/\Hid (BL w1 wr)) (fun _ kk _=>x.af3.length-(intOf kk).toNat);case atStart=>exact⟨0,[],none,0,Nat.zero_le _,rfl,rfl,aB,hid rfl,hid (cG.nil _ _ _ _ _ _),hid aj⟩
 case round=>
  obtain⟨k,l,a,c,hk,rfl,rfl,hll,Fq,HO,HL⟩:=hrel;by_cases hlt:k<x.af3.length
  ·have hk0:(0:Int)<=(k:Int):=by omega
   have hk1:(k:Int)<(x.af3.length:Int):=by omega
   have iP:=bq aW HL.out;obtain⟨lU, -,k0,k1,k2,uf,k3,nU⟩:=fV.at (fV.keep Ni.out (aA.below iP.out)) hlt;obtain⟨-, -, -, -, -,uf',k3',PV⟩:=fV.at Ni.out hlt;have hzk':aY ak<w.heap.size:=by obtain⟨h, -⟩:=fV.at Ni.out hlt;exact h
   have e:uf'=uf:=zSi (((iP.out.cell (p:=⟨aY ak,bC ak+k*4+3,none⟩) hzk').trans k3').symm.trans k3);subst e;obtain⟨af,cf,rfl,hsf, -, -⟩:=PV.form;have Kl:Hid (∀W,BL w W->dh S W (.slice af x.af3[k].af4.length cf) x.af3[k].af4):=hid (fun W hW=>PV.keep (aA.below hW));have Gq:Hid (ah.kd x k=x.af3[k]):=hid (fM hlt);have uX:Hid (∀(j:Nat) (h:j<x.af3[k].af4.length),ah.fd x k j=x.af3[k].af4[j]):=hid (fun j h=>rI hlt h);have Iy:x.af3[k].af4.length<=10:=h10 _ (zGm hlt);clear nU PV k3';generalize x.af3[k]=kq at*;obtain⟨kn,CU,CV,fs⟩:=kq;simp only at k0 k1 k2 k3 hsf Kl Iy uX;obtain⟨nf,hnf⟩:=nmE fs.length;have VD:=hid hnf;rw[<-hnf] at k3 hsf Kl Iy;clear hnf;obtain⟨w4,hw⟩:=nmE (wr.alloc (.cells #[.string kn,.int .i64 CU,.int .i64 CV,.slice af nf cf] 102));have iQ:Hid (Below w1.heap.size w1 w4):=hid (by rw[hw];exact HL.out.alloc HL.out.size _);have HO4:Hid (rP w1.heap.size w4 (.slice a l.length c) l):=hid (by rw[hw];exact cG.below cQ HO.out (aj.alloc aB _));have c3:w4.cell? ⟨wr.heap.size,3,none⟩=some (.slice af nf cf):=by rw[hw];exact aI (aD wr _ rfl) 3
   have zV:=hid hw;clear hw;go_upto_region 5 with fail;rw[<-zV.out];clear k0 k1 k2 k3;go_wp2;clear c3;generalize LY:wr=Wb at*;go_loopw [3,19] (fun lv jj wr=>∃(j:Nat) (l:List aF.Ref) (a:Option Addr) (c:Nat),j<=nf/\jj=.int .i64 j/\lv=.slice a l.length c/\l.length<=10*k+j/\Hid (l=aF.oN x k++aF.jN x k j)/\Hid (rP w1.heap.size wr (.slice a l.length c) l)/\Hid (BL w1 wr)) (fun _ jj _=>nf-(intOf jj).toNat);case atStart=>exact⟨0,l,a,c,Nat.zero_le _,rfl,rfl,by omega,hid (by rw[Fq.out,aF.Hl,List.append_nil]),HO4,iQ⟩
   case round=>
    obtain⟨j,l,a,c,hj,rfl,rfl,hll2,yj,zu,cU⟩:=hrel;by_cases hjt:j<nf
    ·have hj0:(0:Int)<=(j:Int):=by omega
     have hj1:(j:Int)<(nf:Int):=by omega
     have Rw:j<fs.length:=by rw[<-VD.out];exact hjt
     have iP:=bq aW cU.out;obtain⟨Gm, -,f0,f1,f2,f3,f4,f5,uw,ug,f6,f7,pq,hgs⟩:=dh.at (Kl.out wr iP.out) Rw;obtain⟨aw,cw,rfl, -, -, -⟩:=pq.form;obtain⟨ag,cg,rfl, -, -, -⟩:=hgs.form;clear pq hgs;have OP:ah.fd x k j=fs[j]:=uX.out j Rw;have Ks:Hid ((fs[j]).kind=1->aF.jN x k (j+1)=aF.jN x k j++[⟨k,j,ah.dB x k j,(fs[j]).lo⟩]):=hid (fun h=>by rw[aF.r8,aF.CD (by rw[OP];exact h),OP]);have Nc:Hid (¬(fs[j]).kind=1->aF.jN x k (j+1)=aF.jN x k j):=hid (fun h=>by rw[aF.r8,aF.O8 (by rw[OP];exact h),List.append_nil]);have HUj:=hid (PU.out k j);clear OP;generalize fs[j]=g at*;obtain⟨gn,go,gu,gk,gl,gh,Gn,ggs⟩:=g;simp only at f0 f1 f2 f3 f4 f5 f6 f7 Ks Nc;generalize Gn.length=nw at*;generalize ggs.length=ng at*;generalize ah.dB x k j=uz at*;obtain⟨w5,hw⟩:=nmE (wr.alloc (.cells #[.string gn,.string go,.string gu,.int .i64 gk,.int .i64 gl,.int .i64 gh,.slice aw nw cw,.slice ag ng cg] 117));have fS:Hid (Below w1.heap.size w1 w5):=hid (by rw[hw];exact cU.out.alloc cU.out.size _);have Yf:Hid (rP w1.heap.size w5 (.slice a l.length c) l):=hid (by rw[hw];exact cG.below cQ zu.out (aj.alloc aB _));have Tx:Hid (∀W,BL w5 W->W.heap[wr.heap.size]?=some (.cells #[.string gn,.string go,.string gu,.int .i64 gk,.int .i64 gl,.int .i64 gh,.slice aw nw cw,.slice ag ng cg] 117 (0,0))):=hid (fun W hW=>(hW.block _ (by rw[hw];simp)).trans (by rw[hw];exact aD _ _ rfl));have yI:=hid hw;clear hw;go_upto_region 8 with fail;rw[<-yI.out];clear f0 f1 f2 f3 f4 f5 f6 f7;obtain⟨⟨f0,f1,f2,f3,f4,f5,f6,f7⟩, -⟩:=dn (Tx.out w5 aj);by_cases h1:gk=1
     ·subst h1
      have L0:=hid (Ks.out rfl);clear Ks Nc;go_upto_region 9 with fail;have Bw:=hqC w5 ⟨w.heap.size,0,none⟩ (.int .i64 x.af6) fun xh=>(aO (HX.out xh.1 (tnB fS.out xh.2))).1.1;have Bx:=hqC w5 ⟨w.heap.size,1,none⟩ (.slice ak x.af3.length ck) fun xh=>(aO (HX.out xh.1 (tnB fS.out xh.2))).1.2.1;have Bz:=hqC w5 ⟨w.heap.size,2,none⟩ (.slice al x.af7.length cl) fun xh=>(aO (HX.out xh.1 (tnB fS.out xh.2))).1.2.2.1;have BA:=hqC w5 ⟨w.heap.size,3,none⟩ (.slice ar x.af8.length cr) fun xh=>(aO (HX.out xh.1 (tnB fS.out xh.2))).1.2.2.2;have hqf4:=hqC w5 ⟨wr.heap.size,4,none⟩ (.int .i64 gl) fun xh=>(dn (Tx.out xh.1 xh.2)).1.2.2.2.2.1;refine cH 11 (.quiet 0 (.quiet 1 (.quiet 2 (.quiet 3 (.quiet 4 (.quiet 5 (.quiet 7 (.quiet 8 (.one 6 (.quiet 9 (.one 10 .done))))))))))) (BL w5) mxT (by kernel_rfl) (af5 aj 1) ?_;have Fx:=hid (af5 (Below.refl w5.heap.size w5) 1);generalize w5.drewN 1=w6 at*
      iterate 8
       refine ai rfl ?_
       intro hne
       go_big_quiet_step (fail)
       refine zWq ?_
       clear hne
      refine aH rfl ?_;go_wp2_with fail;refine(HUj.out w6 (tnB aW.out (tnB fS.out Fx.out))).mono ?_;rintro e w7 ⟨rfl,hb⟩;have zU:=bq Fx hb;clear hb;go_wp2_with fail;refine aC (BL w5) (fun _ h=>h) zU.out ?_;refine ai rfl ?_;intro hne;go_big_quiet_step (fail);refine zWq ?_;clear hne;refine aH rfl ?_;go_wp2_with fail;refine aC (BL w5) (fun _ h=>h) (zU.out.alloc zU.out.size _) ?_;refine aL ?_;try simp only[zDs,zDz]
      clear Bw Bx Bz BA hqf4 f0 f1 f2 f3 f4 f5 f6 f7;have zW:=bq fS zU.out;have HO7:Hid (rP w1.heap.size w7 (.slice a l.length c) l):=hid (cG.below cQ Yf.out zU.out);go_wp2_with (at_builtin;go_must (refine cD cQ rfl _ _ rfl Tryz.Ye rfl HO7.out (us:=[.int .i64 (k:Int),.int .i64 (j:Int),.int .i64 uz,.int .i64 gl]) rfl rfl rfl (⟨k,j,uz,gl⟩:aF.Ref) rfl TD (by omega) zW.out.size ?_));intro v' w8 how ht hn;obtain⟨l2,hl2⟩:=nmE (l++[(⟨k,j,uz,gl⟩:aF.Ref)]);rw[<-hl2] at how;have hlen:l2.length=l.length+1:=by rw[hl2];simp
      obtain⟨a2,c2,rfl, -⟩:=how.form;have xE:Hid (BL w1 w8):=hid (zW.out.trans (ht.below zW.out.size (fun b hb=>by have:=(HO7.out.lt b hb.symm).1;omega)));have Bg:Hid (rP w1.heap.size w8 (.slice a2 l2.length c2) l2):=hid how;have uo:Hid (l2=aF.oN x k++aF.jN x k (j+1)):=hid (by rw[hl2,L0.out,yj.out,List.append_assoc]);clear how ht hn hl2;go_wp2;go_roundw;case rel=>exact⟨j+1,l2,a2,c2,by omega,by go_num,rfl,by omega,uo,Bg,xE⟩
      simp[intOf];omega
     ·have e1:(gk==1)=false:=by simpa using h1
      have L0:=hid (Nc.out h1);clear Ks Nc h1;go_wp2;go_roundw;case rel=>exact⟨j+1,l,a,c,by omega,by go_num,rfl,by omega,hid (by rw[L0.out];exact yj.out),Yf,fS⟩
      simp[intOf];omega
    ·obtain rfl:j=nf:=by omega
     have HE:Hid (l=aF.oN x (k+1)):=hid (by rw[yj.out,aF.zB,Gq.out,VD.out]);go_wp2;go_roundw;case rel=>exact⟨k+1,l,a,c,by omega,by go_num,rfl,by omega,HE,zu,cU⟩
     simp[intOf];omega
  ·obtain rfl:k=x.af3.length:=by omega
   go_wp2;go_ret;exact⟨a,c,l,rfl,by omega,Fq.out,cG.base HO.out aW.out.size,tnB aW.out HL.out⟩
end Go.Proofs.YtobgljfnfpolkaaGreatDoor
