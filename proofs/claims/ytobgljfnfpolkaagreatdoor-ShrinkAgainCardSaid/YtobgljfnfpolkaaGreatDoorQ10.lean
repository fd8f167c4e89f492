/- Part 10 of the walks and plain laws that the proof needs (packed). -/
import Derived.BigQuiet
import Derived.Maps.OwnSet
import Derived.Maps.Views
import Derived.DeepKeys4
import Derived.WideKeyEntry
import Derived.OrdersIn
import Derived.Laws.Bits64b
import Derived.Laws.CopyOwn
import Derived.Test.YtobgljfnfpolkaaGreatDoorQ1
import Derived.Test.YtobgljfnfpolkaaGreatDoorQ5
import Derived.Test.YtobgljfnfpolkaaGreatDoorQ9
set_option linter.all false
set_option maxRecDepth 100000
set_option maxHeartbeats 8000000
namespace Go.Proofs.YtobgljfnfpolkaaGreatDoor
open Go.RowKit
theorem L5(k nk nf ck cf c:Nat)(ak af a:Option Addr)(bS bI:Nat)(w:World)(h1:w.cell? ⟨bS,1,none⟩=some (.slice ak nk ck))(h2:w.cell? ⟨bI,0,none⟩=some (.int .i64 k))(hk:k<nk)(hsk:dG ak nk)(h3:w.cell? ⟨aY ak,bC ak+k*4+3,none⟩=some (.slice af nf cf)):
  Calls Tryz.prog 137 #[.slice a nf c,.pointer (some ⟨bS,0,none⟩),.pointer (some ⟨bI,0,none⟩)] w fun e w'=>e=.returned (.bool false)/\BL w w':=by
 have hk0:(0:Int)<=k:=by omega
 have hk1:(k:Int)<nk:=by omega
 have hz:bS<w.heap.size:=zBl w ⟨bS,1,none⟩ h1;go_enter Tryz.func137,Tryz.ntmps137;go_wp2;go_ret;exact⟨by simp,aj⟩
theorem L6(f u n nw nr c cw cr:Nat)(kd v ls:Int)(a aw ar:Option Addr)(bR bW:Nat)(w:World)(hR:w.heap[bR]?=some (.cells #[.int .i64 kd,.int .i64 f,.int .i64 u,.int .i64 ls] 159 (0,0)))(hW:w.cell? ⟨bW,0,none⟩=some (.slice aw nw cw))
  (hf:f<n)(hs:dG a n)(hc:w.cell? ⟨aY a,bC a+f,none⟩=some (.int .i64 v))(hu:u<nw)(hsw:dG aw nw)(hr:w.cell? ⟨aY aw,bC aw+u,none⟩=some (.slice ar nr cr))(h0:0<=v)(h1:v<nr):
  Calls Tryz.prog 138 #[.slice a n c,.pointer (some ⟨bR,0,none⟩),.pointer (some ⟨bW,0,none⟩)] w fun e w'=>e=.returned (.bool false)/\BL w w':=by
 obtain⟨⟨r0,r1,r2,r3⟩, -⟩:=aO hR;have hf0:(0:Int)<=f:=by omega
 have hf1:(f:Int)<n:=by omega
 have hu0:(0:Int)<=u:=by omega
 have hu1:(u:Int)<nw:=by omega
 have hv0:¬v<0:=by omega
 have hv1:¬(nr:Int)<=v:=by omega
 go_enter Tryz.func138,Tryz.ntmps138;go_wp2;go_quiet (fail);go_wp2;go_ret;exact⟨by simp;omega,af5 aj _⟩
theorem L7(x:ah.bD)(W:ah.bK)(hfw:aF.xo x W)(v u:Value)(S:Nat->Prop)(w:World)(hv:eU S w v x)(hW:dc S w u W):
  Calls Tryz.prog 104 #[v,u] w fun e w'=>e=.returned (.bool true)/\BL w w':=by
 obtain⟨ak,ck,al,cl,ar,cr,rfl,hk,hl,hr,hsk,hsl,hsr⟩:=hv.form;obtain⟨aw,cw,rfl,hsw, -, -⟩:=hW.form;have HV:=hid (fun(X:World) (hX:BL w X)=>hv.keep (aA.below hX));have Yg:=hid (fun(X:World) (hX:BL w X)=>hW.keep (aA.below hX));have Ni:=hid hk
 have Nk:=hid (fun(X:World) (hX:BL w X)=>zX x hfw.af3 (fun k hk=>by
  obtain⟨j,hj,rfl⟩:=List.getElem_of_mem hk;rw[<-fM hj];exact hfw.af4 j) _ S X (HV.out X hX))
 have h6:=hfw.af3;have hlen:=hfw.len;obtain⟨nk,hnk⟩:=nmE x.af3.length;have hnw:W.length=nk:=by rw[hnk];exact hlen
 rw[<-hnk] at hsk h6 Nk Ni HV ⊢;rw[hnw] at hsw Yg ⊢;have HNK:=hid hnk;have VE:=hid hnw;clear hk hl hr hv hW hlen hnk hnw;obtain⟨w1,hw1⟩:=nmE ((bE w x.af6 (.slice ak nk ck) (.slice al x.af7.length cl) (.slice ar x.af8.length cr)).alloc (.cells #[.slice aw nk cw] 30));have aW:Hid (Below w.heap.size w w1):=hid (by rw[hw1];exact(aQ ..).alloc (aQ ..).size _);have HX:Hid (∀X,BL w1 X->X.heap[w.heap.size]?=some (.cells #[.int .i64 x.af6,.slice ak nk ck,.slice al x.af7.length cl,.slice ar x.af8.length cr] 27 (0,0))):=hid (fun X hX=>(hX.block _ (by rw[hw1];simp[bE];omega)).trans (by rw[hw1];exact aG _ (bf ..)));have HWb:Hid (∀X,BL w1 X->X.cell? ⟨w.heap.size+1,0,none⟩=some (.slice aw nk cw)):=hid (fun X hX=>aI ((hX.block (w.heap.size+1) (by rw[hw1];simp[bE])).trans (by rw[hw1];exact aD _ _ (by simp[bE]))) 0);unfold bE at hw1;have HW1:=hid hw1;clear hw1;obtain⟨⟨y0,y1,y2,y3⟩, -⟩:=aO (HX.out w1 aj);have z0:=HWb.out w1 aj;have ht0:=hfw.tot;go_enter Tryz.func104,Tryz.ntmps104;go_upto_region 1 with fail;rw[<-HW1.out];go_wp2;clear y0 y1 y2 y3 z0;go_loopw [5,18] (fun s kk wr=>∃(k sz:Nat),k<=nk/\kk=.int .i64 k/\s=.int .i64 sz/\sz<=512/\Hid (sz=ah.total (W.take k))/\Hid (BL w1 wr)) (fun _ kk _=>nk-(intOf kk).toNat);case atStart=>exact⟨0,0,Nat.zero_le _,rfl,rfl,by omega,hid rfl,hid aj⟩
 case round=>
  obtain⟨k,sz,hk,rfl,rfl,hsz,TF,HL⟩:=hrel;by_cases hlt:k<nk
  ·have hk0:(0:Int)<=(k:Int):=by omega
   have hk1:(k:Int)<(nk:Int):=by omega
   have mg:k<W.length:=by rw[VE.out];exact hlt
   have hkx:k<x.af3.length:=by rw[<-HNK.out];exact hlt
   have iP:=bq aW HL.out;obtain⟨u,hu,hzw,hrow⟩:=eX.at (Yg.out wr iP.out) mg;obtain⟨ao,co,rfl, -, -, -⟩:=hrow.form;obtain⟨lU, -, -, -, -,uf,k3,nU⟩:=fV.at Ni.out hkx;obtain⟨af,cf,rfl, -, -, -⟩:=nU.form;have rH:Hid (∀X,BL w X->X.cell? ⟨aY ak,bC ak+k*4+3,none⟩=some (.slice af x.af3[k].af4.length cf)):=hid (fun X hX=>(hX.cell (p:=⟨aY ak,bC ak+k*4+3,none⟩) lU).trans k3);have HRL:Hid (∀r∈W[k],r.length=x.af3[k].af4.length):=hid (fun r hr=>by rw[hfw.jc k mg r hr,fM hkx])
   have HTs:Hid (ah.total (W.take (k+1))=ah.total (W.take k)+W[k].length):=hid (by
    rw[zTs mg]
    simp only[ah.total,List.map_append,List.sum_append,List.map_cons,List.map_nil,List.sum_cons,List.sum_nil]
    omega)
   have ht1:=rY W (k+1);have xW:=hfw.tot;rw[HTs.out] at ht1;have HTl:Hid (W[k].length+ah.total (W.take k)<=512):=hid (by omega);have htl:W[k].length+ah.total (W.take k)<=512:=by omega
   clear k3 nU ht1 xW;obtain⟨w4,hw⟩:=nmE (wr.alloc (.cells #[.int .i64 (k:Int)] 3));have iQ:Hid (Below w1.heap.size w1 w4):=hid (by rw[hw];exact HL.out.alloc HL.out.size _)
   have HI4:Hid (∀X,BL w4 X->X.cell? ⟨wr.heap.size,0,none⟩=some (.int .i64 (k:Int))):=hid (fun X hX=>by
    have:=hX.block wr.heap.size (by rw[hw];simp);exact aI (this.trans (by rw[hw];exact aD wr _ rfl)) 0)
   have hb4:BL wr w4:=by rw[hw];exact aj.alloc aB _
   have zV:=hid hw;clear hw;have dO:=bq aW iQ.out
   have Gp:=hid (Ku wA W[k] (fun _=>false) _ S w4 (hrow.keep (aA.below hb4)) (fun X u y h=>by obtain⟨a,c,e, -⟩:=h.form;exact⟨_,_,_,e⟩) 137 #[.pointer (some ⟨w.heap.size,0,none⟩),.pointer (some ⟨wr.heap.size,0,none⟩)] (aZ Tryz.func137 (by kernel_rfl) rfl) (fun X hX j hj u hu=>by
    obtain⟨a1,c1,rfl, -, -, -⟩:=hu.form;rw[HRL.out _ (zGm hj)];exact L5 k nk _ ck cf c1 ak af a1 w.heap.size wr.heap.size X (aO (HX.out X (tnB iQ.out hX))).1.2.1 (HI4.out X hX) hlt hsk (rH.out X (tnB dO.out hX))))
   rw[show W[k].any (fun _=>false)=false from by simp] at Gp;clear hrow hb4;obtain⟨nr,sx⟩:=nmE (W[k].length);rw[<-sx] at hu Gp HTs htl;clear sx;have mV:Hid (((sz:Nat):Int)+nr=(ah.total (W.take (k+1)):Nat)):=hid (by rw[HTs.out,TF.out];omega);rw[<-TF.out] at htl;go_upto_region 7 with fail;rw[<-zV.out];clear hu;go_wp2_with fail;refine Gp.out.mono ?_;rintro e w5 ⟨rfl,hb⟩;have fS:=bq iQ hb;clear hb;go_wp2;go_roundw;case rel=>exact⟨k+1,sz+nr,by omega,by go_num,by go_num,by omega,hid (by have:=mV.out;omega),fS⟩
   simp[intOf];omega
  ·obtain rfl:nk=k:=by omega
   clear TF;obtain⟨⟨y0,y1,y2,y3⟩, -⟩:=aO (HX.out wr HL.out);have Gf:=hid (Nk.out wr (tnB aW.out HL.out));go_wp2_with fail;refine Gf.out.mono ?_;rintro e w6 ⟨ax,cx,l,rfl,hl60,hlx,hrf,hb⟩;have HLx:=hid hlx;have hRV:=hrf.sl cQ (T:=fun _=>True) (fun b _ h=>trivial) (fun b hb=>trivial);have HRV:=hid (fun(X:World) (hX:BL w6 X)=>dA.keep cQ hRV (aA.below hX));have qJ:=bq HL hb;have hsx:dG ax l.length:=by obtain⟨_,_,e,g, -⟩:=hrf.form;cases e;exact g
   clear hlx hrf hb hRV y0 y1 y2 y3;obtain⟨nl,hnl⟩:=nmE l.length;have VF:=hid hnl;rw[<-hnl] at HRV hsx hl60 ⊢;clear hnl;go_wp2;generalize hW0:wr=W0 at*;go_loopw [34] (fun kk wr=>∃(r:Nat),r<=nl/\kk=.int .i64 r/\Hid (BL w6 wr)) (fun kk _=>nl-(intOf kk).toNat);case atStart=>exact⟨0,Nat.zero_le _,rfl,hid aj⟩
   case round=>
    obtain⟨r,hrn,rfl,cU⟩:=hrel;have HL:=bq qJ cU.out;by_cases hlt:r<nl
    ·have hr0:(0:Int)<=(r:Int):=by omega
     have hr1:(r:Int)<(nl:Int):=by omega
     have hrl:r<l.length:=by rw[<-VF.out];exact hlt
     have iP:=bq aW HL.out;obtain⟨-,us,Kk,hcs,TG⟩:=dA.at (HRV.out wr cU.out) hrl;obtain rfl:us=_:=TG;have y0:wr.cell? ⟨aY ax,bC ax+r*4,none⟩=some (.int .i64 (l[r].kind:Int)):=hcs 0 _ rfl;have y1:wr.cell? ⟨aY ax,bC ax+r*4+1,none⟩=some (.int .i64 (l[r].field:Int)):=hcs 1 _ rfl;have y2:wr.cell? ⟨aY ax,bC ax+r*4+2,none⟩=some (.int .i64 l[r].up):=hcs 2 _ rfl;have y3:wr.cell? ⟨aY ax,bC ax+r*4+3,none⟩=some (.int .i64 l[r].least):=hcs 3 _ rfl;have hmem:l[r]∈aF.bT x:=by rw[<-HLx.out];exact zGm hrl
     obtain⟨q1,q2,q3,q4,q5,q6,q7,q8⟩:=hfw.refs _ hmem;have xC:=hid (hfw.lead _ hmem);clear hcs Kk hmem;generalize l[r]=rf at*;obtain⟨rk,rj,ru,rl⟩:=rf;simp only at y0 y1 y2 y3 q1 q2 q3 q4 q5 q6 q7 q8 xC;clear q7 q8;obtain⟨m,rfl⟩:∃m:Nat,ru=(m:Int):=⟨ru.toNat,by omega⟩;have mg:rk<W.length:=by rw[VE.out,HNK.out];exact q1
     have Yh:m<W.length:=by omega
     have hrk:rk<nk:=by rw[HNK.out];exact q1
     have aa6:(0:Int)<=rk:=by omega
     have hrk1:(rk:Int)<nk:=by omega
     have hmk:m<nk:=by omega
     obtain⟨u,hu,hzw,hrow⟩:=eX.at (Yg.out wr iP.out) mg;obtain⟨ao,co,rfl, -, -, -⟩:=hrow.form;have HRL:Hid (∀y∈W[rk],rj<y.length):=hid (fun y hy=>by rw[hfw.jc rk mg y hy];exact q2);obtain⟨w4,hw⟩:=nmE (wr.alloc (.cells #[.int .i64 (rk:Int),.int .i64 (rj:Int),.int .i64 (m:Int),.int .i64 rl] 159));have iQ:Hid (Below w1.heap.size w1 w4):=hid (by rw[hw];exact HL.out.alloc HL.out.size _);have Rm:Hid (Below w6.heap.size w6 w4):=hid (by rw[hw];exact cU.out.alloc cU.out.size _);have HI4:Hid (∀X,BL w4 X->X.heap[wr.heap.size]?=some (.cells #[.int .i64 (rk:Int),.int .i64 (rj:Int),.int .i64 (m:Int),.int .i64 rl] 159 (0,0))):=hid (fun X hX=>(hX.block wr.heap.size (by rw[hw];simp)).trans (by rw[hw];exact aD wr _ rfl));have hb4:BL wr w4:=by rw[hw];exact aj.alloc aB _
     have zV:=hid hw;clear hw;have dO:=bq aW iQ.out
     have Gp:=hid (Ku wA W[rk] (fun _=>false) _ S w4 (hrow.keep (aA.below hb4)) (fun X u y h=>by obtain⟨a,c,e, -⟩:=h.form;exact⟨_,_,_,e⟩) 138 #[.pointer (some ⟨wr.heap.size,0,none⟩),.pointer (some ⟨w.heap.size+1,0,none⟩)] (aZ Tryz.func138 (by kernel_rfl) rfl) (fun X hX j hj u hu=>by
      obtain⟨a1,c1,rfl,hs1, -, -⟩:=hu.form;have hjl:=HRL.out _ (zGm hj);obtain⟨uv,hc, -,rfl⟩:=eX.at hu hjl;obtain⟨ur,hcr, -,hrr⟩:=eX.at (Yg.out X (tnB dO.out hX)) Yh;obtain⟨a2,c2,rfl, -, -, -⟩:=hrr.form;have IZ:=xC.out j mg hj;have ea:aF.mq W rk j rj=W[rk][j][rj]:=by unfold aF.mq;simp[zGd,mg,hj,hjl]
      have eb:ah.eV W (m:Int)=W[m].length:=by unfold ah.eV;simp[zGd,Yh]
      rw[ea,eb] at IZ;exact L6 rj m _ nk W[m].length c1 cw c2 rk _ rl a1 aw a2 wr.heap.size (w.heap.size+1) X (HI4.out X hX) (HWb.out X (tnB iQ.out hX)) hjl hs1 hc hmk hsw hcr IZ.1 IZ.2))
     rw[show W[rk].any (fun _=>false)=false from by simp] at Gp;have hu4:w4.cell? ⟨aY aw,bC aw+rk,none⟩=some (.slice ao W[rk].length co):=(hb4.cell (p:=⟨aY aw,bC aw+rk,none⟩) hzw).trans hu;clear hrow hb4 Yh;generalize W[rk].length=nr at*;go_upto_region 14 with fail;rw[<-zV.out];clear y0 y1 y2 y3 hu;obtain⟨⟨y0,y1,y2,y3⟩, -⟩:=aO (HI4.out w4 aj);have z0:=HWb.out w4 iQ.out;go_wp2_with fail;refine Gp.out.mono ?_;rintro e w5 ⟨rfl,hb⟩;have NF:=bq Rm hb;clear hb;go_wp2;go_roundw;case rel=>exact⟨r+1,by omega,by go_num,NF⟩
     simp[intOf];omega
    ·obtain rfl:r=nl:=by omega
     have hsz2:(sz:Int)<=512:=by omega
     go_wp2;go_ret;exact⟨by first|rfl|(simp;done)|(simp;omega),tnB aW.out HL.out⟩
theorem FA(n c d:Nat)(a b:Option Addr)(w:World):Calls Tryz.prog 140 #[.slice a n c,.slice b n d] w fun e w'=>e=.returned (.bool true)/\w=w':=by
 go_enter Tryz.func140,Tryz.ntmps140;go_wp2;go_ret;exact⟨by simp,rfl⟩
theorem P4(W:ah.bK)(s:Sub.S)(h:W.map List.length=s.map List.length)(kW:W.length<=1000000)(v u:Value)(S T:Nat->Prop)(w:World)(hW:dc S w v W)(hs:aP T w u s):
  Calls Tryz.prog 139 #[v,u,.func (.func 140) #[] #[]] w fun e w'=>e=.returned (.bool true)/\w=w':=by
 obtain⟨aw,cw,rfl,hsw, -, -⟩:=hW.form;obtain⟨uj,cs,rfl,hss, -, -⟩:=hs.form;have HW:=hid hW;have HS:=hid hs;have hlen:W.length=s.length:=by simpa using congrArg List.length h
 have HL:Hid (∀k (h1:k<W.length) (h2:k<s.length),W[k].length=s[k].length):=hid (fun k h1 h2=>by
  have:=congrArg (fun l=>l[k]?) h;simpa [h1,h2] using this)
 obtain⟨n,hn⟩:=nmE s.length;have hnw:W.length=n:=by rw[hn];exact hlen
 rw[hnw] at hsw kW ⊢;rw[<-hn] at hss ⊢;have HN:=hid hn;have VE:=hid hnw;clear hW hs h hlen hn hnw;go_enter Tryz.func139,Tryz.ntmps139;go_wp2;go_loopw [17] (fun kk wr=>∃k:Nat,k<=n/\kk=.int .i64 k/\w=wr) (fun kk _=>n-(intOf kk).toNat);case atStart=>exact⟨0,Nat.zero_le _,rfl,rfl⟩
 case round=>
  obtain⟨k,hk,rfl,rfl⟩:=hrel;by_cases hlt:k<n
  ·have hk0:(0:Int)<=k:=by omega
   have hk1:(k:Int)<n:=by omega
   have h1:k<W.length:=by rw[VE.out];exact hlt
   have h2:k<s.length:=by rw[<-HN.out];exact hlt
   obtain⟨x,hx, -,hxr⟩:=eX.at (by rw[<-VE.out];exact HW.out:dc S w (.slice aw n cw) W) h1;obtain⟨y,hy, -,hyr⟩:=eX.at (by rw[HN.out];exact HS.out:aP T w (.slice uj n cs) s) h2;obtain⟨a,c,rfl, -, -, -⟩:=hxr.form;obtain⟨b,d,rfl, -, -, -⟩:=hyr.form;rw[HL.out k h1 h2] at hx;clear hxr hyr;generalize s[k].length=m at*;have lG:=aZ Tryz.func140 (by kernel_rfl) rfl;go_wp2_with fail;refine(FA m c d a b w).mono ?_;rintro e w2 ⟨rfl,rfl⟩;go_wp2;go_roundw;case rel=>exact⟨k+1,by omega,by go_num,by first|rfl|trivial⟩
   simp[intOf];omega
  ·obtain rfl:n=k:=by omega
   go_wp2;go_ret;exact⟨rfl,rfl⟩
theorem FB(W:ah.bK)(s:Sub.S)(h:W.map List.length=s.map List.length)(kW:W.length<=1000000)(v u:Value)(S T:Nat->Prop)(w:World)(hW:dc S w v W)(hs:aP T w u s):
  Calls Tryz.prog 105 #[v,u] w fun e w'=>e=.returned (.bool true)/\w=w':=by
 have HE:=hid (P4 W s h kW v u S T w hW hs);obtain⟨aw,cw,rfl, -, -, -⟩:=hW.form;obtain⟨uj,cs,rfl, -, -, -⟩:=hs.form;go_enter Tryz.func105,Tryz.ntmps105;go_wp2_with fail;refine HE.out.mono ?_;rintro e w2 ⟨rfl,rfl⟩;go_wp2;go_ret;exact⟨rfl,rfl⟩
theorem lm(x:ah.bD)(W:ah.bK)(s:Sub.S)(hc:aF.jD x W s=0)(v u t:Value)(S T U:Nat->Prop)(tb:Nat)(w:World)(hv:eU S w v x)(hW:dc T w u W)(hs:aP U w t s)(Kw:LaidW w)(htb:TabC tb w):
  Calls Tryz.prog 65 #[v,u,t] w fun e w'=>e=.returned (.int .i64 0)/\BL w w':=by
 have hp:ah.okB x=true/\aF.dF x W=true/\aF.oz W s=true:=by
  unfold aF.jD at hc;by_cases h1:ah.okB x=true
  ·rw[if_pos h1] at hc
   by_cases h2:aF.dF x W=true
   ·rw[if_pos h2] at hc
    by_cases h3:aF.oz W s=true
    ·exact⟨h1,h2,h3⟩
    ·rw[if_neg h3] at hc;omega
   ·rw[if_neg h2] at hc;omega
  ·rw[if_neg h1] at hc;omega
 obtain⟨hok,wO,hsb⟩:=hp;have hfw:=aF.Pc hok wO;have hlen:W.length<=1000000:=by have:=hfw.len;have:=hfw.af3;omega
 obtain⟨ak,ck,al,cl,ar,cr,rfl, -⟩:=hv.form;obtain⟨w1,hw1⟩:=nmE (bE w x.af6 (.slice ak x.af3.length ck) (.slice al x.af7.length cl) (.slice ar x.af8.length cr));have aW:=afX hw1;have HX:=afY hw1;unfold bE at hw1;have HW1:=hid hw1;clear hw1;have IY:=hid (IX x hok _ S tb w1 (hv.keep (aA.below aW.out)) (Kw.next aW.out) (htb.below aW.out htb.lt (by have:=Kw.size;omega)));have Ps:=hid (fun(X:World) (hX:BL w X)=>L7 x W hfw _ u (fun b=>S b\/T b) X ((hv.keep (aA.below hX)).mono (fun b _ h=>.inl h)) ((hW.keep (aA.below hX)).mono (fun b _ h=>.inr h)));have Iw:=hid (fun(X:World) (hX:BL w X)=>FB W s (of_decide_eq_true hsb) hlen u t T U X (hW.keep (aA.below hX)) (hs.keep (aA.below hX)));obtain⟨aw,cw,rfl, -, -, -⟩:=hW.form;obtain⟨uj,cs,rfl, -, -, -⟩:=hs.form;clear hv hW hs Kw htb;obtain⟨⟨y0,y1,y2,y3⟩, -⟩:=aO (HX.out w1 aj);go_enter Tryz.func65,Tryz.ntmps65;go_upto_region 1 with fail;rw[<-HW1.out];go_wp2_with fail;refine IY.out.mono ?_;rintro e w2 ⟨rfl,hb⟩;have cU:Hid (BL w1 w2):=hid hb;have bB:=bq aW hb;clear hb y0 y1 y2 y3;obtain⟨⟨y0,y1,y2,y3⟩, -⟩:=aO (HX.out w2 cU.out);go_wp2_with fail;refine(Ps.out w2 bB.out).mono ?_;rintro e w3 ⟨rfl,hb⟩;have bG:=bq bB hb;clear hb y0 y1 y2 y3;go_wp2_with fail;refine(Iw.out w3 bG.out).mono ?_;rintro e w4 ⟨rfl,rfl⟩;go_wp2;go_ret;exact⟨rfl,bG.out⟩
theorem I3(xs:List Bool)(hl:xs.length<=1000000)(v:Value)(S:Nat->Prop)(w:World)(hv:iN S w v xs):
  Calls Tryz.prog 141 #[v] w fun e w'=>∃x,e=.returned x/\fZ (w.heap.size<=·) w' x xs/\BL w w':=by
 have hv0:=hv;obtain⟨a,cap,rfl,hok,hcap,hmax⟩:=hv.form;clear hv;cases a with
 |none=>
  have hz:xs=[]:=by
   rcases Nat.eq_zero_or_pos xs.length with h|h
   ·exact List.eq_nil_of_length_eq_zero h
   ·obtain⟨b,o,e⟩:=hok h;cases e
  subst hz
  have hq:∀W,(binOp .eql 94 (.slice none 0 cap) (.slice none 0 0)).run Tryz.prog W=.ok (.bool true) W:=fun W=>Lib.run_eql_slice_nil W 94 4 none 0 cap 0 0 (by kernel_rfl)
  go_enter Tryz.func141,Tryz.ntmps141
  go_wp2
  go_ret
  exact⟨_,rfl,fZ.nil _ _,aj⟩
 |some ad=>
  have hq:∀W,(binOp .eql 94 (.slice (some ad) xs.length cap) (.slice none 0 0)).run Tryz.prog W=.ok (.bool false) W:=fun W=>Lib.run_eql_slice_nil W 94 4 (some ad) xs.length cap 0 0 (by kernel_rfl)
  have hI:fZ (w.heap.size<=·) (w.alloc (.cells #[] 4)) (.slice (some ⟨w.heap.size,0,none⟩) 0 0) []:=
   ⟨World.ownsRow_made w #[] 0 (Nat.zero_le _) (Nat.zero_le _) (by simp),fun b hb=>by simp[Value.ownBlock] at hb;omega⟩
  have En:iN S (w.alloc (.cells #[] 4)) (.slice (some ad) xs.length cap) xs:=hv0.keep (aA.below (aj.alloc aB _))
  go_enter Tryz.func141,Tryz.ntmps141
  go_wp2_with (at_builtin;go_must (refine wS rfl _ _ rfl Tryz.aa5 rfl hI aj rfl En (by simp;omega) ?_))
  intro v1 w1 hI1 ht1
  have qU:fZ (w.heap.size<=·) w1 v1 xs:=by
   have:=cV.mono hI1 (fun b _ hb=>eO (by simp) b hb);simpa using this
  have hb3:BL w w1:=(aj.alloc aB _).trans (ht1.below (by simp) (fun b hb=>by simp[Value.ownBlock] at hb;omega))
  clear hI hI1 En ht1 hq
  go_wp2
  go_ret
  exact⟨_,rfl,qU,hb3⟩
theorem CY(w:World)(n:Nat)(hn:n<=1000000):gN (w.heap.size<=·) (w.alloc (.cells (eC n) 94)) (.slice (some ⟨w.heap.size,0,none⟩) n n) (List.replicate n []):=by
 refine⟨fun b hb=>by simp[Value.ownBlock] at hb;omega,List.replicate n (.slice none 0 0),fun _=>0,?_,by simp,fun j h1 h2=>?_⟩
 ·rw[List.length_replicate]
  refine⟨by simp,.inr ⟨w.heap.size,n,eC n,rfl,Nat.zero_le _,heap_alloc_new w _,aB,by unfold maxLen;omega,by simp[eC],?_⟩⟩;simp[eC]
 ·simp only[List.getElem_replicate]
  exact fZ.nil _ _
theorem xG(s:Sub.S)(hl:s.length<=1000)(hw:∀r∈s,r.length<=100000)(v:Value)(T:Nat->Prop)(w:World)(hv:aP T w v s):
  Calls Tryz.prog 106 #[v] w fun e w'=>∃g,e=.returned (.slice (some ⟨g,0,none⟩) s.length s.length)/\gN (w.heap.size<=·) w' (.slice (some ⟨g,0,none⟩) s.length s.length) s/\BL w w':=by
 obtain⟨uj,cs,rfl,hss, -, -⟩:=hv.form;have HV:=hid hv;have HW:=hid hw;clear hv hw;have hmk:=fun W=>qG (P:=Tryz.prog) (t:=45) (e:=94) (b:=24) (by kernel_rfl) (by kernel_rfl) (by omega) s.length (by omega) W;obtain⟨n,hn⟩:=nmE s.length;rw[<-hn] at hss hmk hl ⊢;have HN:=hid hn;clear hn;go_enter Tryz.func106,Tryz.ntmps106;go_wp2;clear hmk;obtain⟨g0,hg0⟩:=nmE w.heap.size;have HO0:Hid (gN (w.heap.size<=·) (w.alloc (.cells (eC n) 94)) (.slice (some ⟨g0,0,none⟩) n n) (List.replicate n [])):=hid (by rw[hg0];exact CY w _ (by omega));rw[<-hg0];clear hg0;go_loopw [11] (fun kk wr=>∃(k:Nat) (xs:Sub.S),k<=n/\kk=.int .i64 k/\Hid (xs.length=n)/\Hid (∀j,j<k->xs[j]?=s[j]?)/\Hid (gN (w.heap.size<=·) wr (.slice (some ⟨g0,0,none⟩) n n) xs)/\Hid (BL w wr)) (fun kk _=>n-(intOf kk).toNat);case atStart=>exact⟨0,List.replicate n [],Nat.zero_le _,rfl,hid (by simp),hid (fun j h=>absurd h (by omega)),HO0,hid (aj.alloc aB _)⟩
 case round=>
  obtain⟨k,xs,hk,rfl,HL,HX,HO,HB⟩:=hrel;obtain⟨wo,rfl⟩:=nmE (wr:World);by_cases hlt:k<n
  ·have hk0:(0:Int)<=k:=by omega
   have hk1:(k:Int)<n:=by omega
   have hks:k<s.length:=by rw[<-HN.out];exact hlt
   have hkx:k<xs.length:=by rw[HL.out];exact hlt
   obtain⟨u,hu,hz,hr⟩:=eX.at (by rw[HN.out];exact HV.out.keep (aA.below HB.out):aP T wo (.slice uj n cs) s) hks;obtain⟨ar,cr,rfl, -, -, -⟩:=hr.form;have VG:=hid (I3 s[k] (by have:=HW.out _ (zGm hks);omega) _ T wo hr);have h1:=HO.out;rw[show (Value.slice (some ⟨g0,0,none⟩) n n)=.slice (some ⟨g0,0,none⟩) xs.length n by rw[HL.out]] at h1;obtain⟨g,R8,uu,TT,e1,e2,e3,Gg,hcg,hfg,Ee,ET, -,hback⟩:=gD.borrow cV h1 k hkx
   have hgg:g0=g:=by
    simp only[Value.slice.injEq,Option.some.injEq,Addr.mk.injEq] at e1;exact e1.1.1
   subst hgg;have OQ:=hid (fun w2 u'=>hback w2 u' s[k]);have K8:=hid ET;have R4:=hid Gg;have VH:Hid (s[k]?=some s[k]):=hid (zEg hks);clear e1 e2 e3 Ee ET hback hcg hfg h1 hr Gg;generalize s[k]=r at*;go_wp2_with fail;refine VG.out.mono ?_;rintro e w2 ⟨x,rfl,hx,hb⟩;obtain⟨ax,cx,rfl, -, -, -⟩:=(fZ.sl hx).form;obtain⟨k1,k2,k3,k4⟩:=OQ.out w2 (.slice ax r.length cx) (Turns.aM hb) (cV.mono hx (fun b _ hb=>.inr hb))
   have rH:Hid (gN (w.heap.size<=·) (w2.setCell ⟨g0,k,none⟩ (.slice ax r.length cx)) (.slice (some ⟨g0,0,none⟩) n n) (xs.set k r)):=hid (by
    have:=bN.mono k3 (fun b _ hb=>eO HB.out.size b hb)
    rw[HL.out] at this
    exact this)
   have uV:Hid (BL w (w2.setCell ⟨g0,k,none⟩ (.slice ax r.length cx))):=hid (HB.out.trans (k4.below HB.out.size (fun b hb=>by
    rcases hb with hb|hb
    ·exact(K8.out b hb).1
    ·rw[hb];exact R4.out)))
   have HX9:Hid (∀j,j<k+1->(xs.set k r)[j]?=s[j]?):=hid (fun j hj=>by
    by_cases e:j=k
    ·subst e;rw[List.getElem?_set_self (by omega),VH.out]
    ·rw[List.getElem?_set_ne (by omega)];exact HX.out j (by omega))
   have uo:Hid ((xs.set k r).length=n):=hid (by rw[List.length_set];exact HL.out);have Xh:dG (some ⟨g0,0,none⟩) n:=fun _=>⟨_,_,rfl⟩;clear k3 k4 hx hb OQ VH HX hkx;go_wp2;go_roundw;case rel=>exact⟨k+1,xs.set k r,by omega,by go_num,uo,HX9,rH,uV⟩
   simp[intOf];omega
  ·obtain rfl:n=k:=by omega
   have HE:Hid (xs=s):=hid (List.ext_getElem? (fun j=>by
    by_cases hj:j<n
    ·exact HX.out j hj
    ·rw[List.getElem?_eq_none (by rw[HL.out];omega),List.getElem?_eq_none (by rw[<-HN.out];omega)]))
   go_wp2;go_ret;exact⟨g0,rfl,by rw[<-HE.out];exact HO.out,HB.out⟩
open Go.ChangeMaps Go.MapKept
open Go.WideElems (rd rg pl rd_val elemAt findIdx_arr findIdx_born modify_last set_self)
open Go.Maps (Keyed)
section
variable {H:Type} {P:Program} {w:World} {t k e:TypeId} {R:Value->Option (DataW H×List MemPlace)} {b:Nat} {es:Array MapEntry} {clock:Nat}
theorem L8(K:Keyed P k)(ht:P.underlying t=some (.map k e)){z:Value}(hz:∀u:World,(zeroValue e).run P u=.ok z u)(hb:w.heap[b]?=some (.map es clock))(F:Go.WideElems.Fit P k R es clock)
  {key:Value}{kl:Lit}(hkey:keyOf P k key=some kl):
  ∃(v0:Value) (st:Nat) (es1:Array MapEntry) (clock1:Nat),(Instr.mapEntry t (.map (some b)) key).run P w=.ok (.tuple #[v0,goInt st]) (setBlock w b (.map es1 clock1))/\
   ((es1=es/\clock1=clock)\/((∀x∈es.toList,x.key≠key)/\(Instr.mapUpdate t (.map (some b)) key z).run P w=.ok () (setBlock w b (.map es1 clock1))))/\
   ∀(w2:World) (val:Value),w2.heap[b]?=some (.map es1 clock1)->∃es' clock',(Instr.entryStore t (.map (some b)) (goInt st) val).run P w2=.ok () (setBlock w2 b (.map es' clock'))/\
    (Instr.mapUpdate t (.map (some b)) key val).run P w=.ok () (setBlock w b (.map es' clock')):=by
 obtain⟨s1,s2,_⟩:=F.stamped;rcases K.find w hkey es.toList F.keys with⟨h1,h2⟩|⟨j,e0,h1,h2,h3⟩
 ·refine⟨z,clock,es.push ⟨key,z,clock⟩,clock+1,?_,Or.inr ⟨h2,?_⟩,fun w2 val hw2=>⟨es.push ⟨key,val,clock⟩,clock+1,?_,?_⟩⟩
  ·simp[Instr.mapEntry,run_underlying ht,MapKept.run_getObj_map hb,K.check w false hkey,h1,hz,MapKept.run_setObj_map _ hb,Result.andThen,setBlock]
  ·simp[Instr.mapUpdate,run_underlying ht,MapKept.run_getObj_map hb,K.check w false hkey,h1,MapKept.run_setObj_map _ hb,Result.andThen,setBlock]
  ·have hidx:(es.push ⟨key,z,clock⟩).findIdx? (fun e=>((e.born:Nat):Int)==((clock:Nat):Int))=some es.size:=by
    rw[findIdx_arr]
    have:=findIdx_born (l:=(es.push ⟨key,z,clock⟩).toList) (j:=es.size) (e0:=⟨key,z,clock⟩) (by
     simp only[Array.toList_push,List.map_append,List.map_cons,List.map_nil]
     refine List.nodup_append.2 ⟨s2,by simp,fun a ha c hc e1=>?_⟩
     simp only[zMs] at hc
     obtain⟨x,hx,rfl⟩:=List.mem_map.1 ha
     have:=s1 x hx
     omega) (by simp)
    exact this
   have hmod:(es.push ⟨key,z,clock⟩).modify es.size (fun e=>{e with val:=val})=es.push ⟨key,val,clock⟩:=by
    apply Array.ext';rw[Array.toList_modify,Array.toList_push,Array.toList_push,<-Array.length_toList,modify_last]
   simp[Instr.entryStore,MapKept.run_getObj_map hw2,asInt,asIntOf,goInt,hidx,hmod,MapKept.run_setObj_map _ hw2,Result.andThen,setBlock]
  ·simp[Instr.mapUpdate,run_underlying ht,MapKept.run_getObj_map hb,K.check w false hkey,h1,MapKept.run_setObj_map _ hb,Result.andThen,setBlock]
 ·have hj:es[j]?=some e0:=by simpa using h2
  have hsame:es.modify j (fun e=>{e with key:=key})=es:=by
   apply Array.ext';rw[Array.toList_modify,modify_eq_set _ _ _ _ h2];have:({e0 with key:=key}:MapEntry)=e0:=by rw[<-h3]
   rw[this];exact set_self _ _ _ h2
  refine⟨e0.val,e0.born,es,clock,?_,Or.inl ⟨rfl,rfl⟩,fun w2 val hw2=>⟨es.modify j (fun e'=>{e' with key:=key,val:=val}),clock,?_,?_⟩⟩
  ·simp[Instr.mapEntry,run_underlying ht,MapKept.run_getObj_map hb,K.check w false hkey,h1,hj,h3,K.stays w hkey,hsame,MapKept.run_setObj_map _ hb,Result.andThen,setBlock]
  ·have hidx:es.findIdx? (fun e=>((e.born:Nat):Int)==((e0.born:Nat):Int))=some j:=by
    rw[findIdx_arr]
    exact findIdx_born s2 h2
   have hmod:es.modify j (fun e=>{e with val:=val})=es.modify j (fun e'=>{e' with key:=key,val:=val}):=by
    apply Array.ext';rw[Array.toList_modify,Array.toList_modify,modify_eq_set _ _ _ _ h2,modify_eq_set _ _ _ _ h2,<-h3]
   simp[Instr.entryStore,MapKept.run_getObj_map hw2,asInt,asIntOf,goInt,hidx,hmod,MapKept.run_setObj_map _ hw2,Result.andThen,setBlock]
  ·simp[Instr.mapUpdate,run_underlying ht,MapKept.run_getObj_map hb,K.check w false hkey,h1,hj,h3,K.stays w hkey,MapKept.run_setObj_map _ hb,Result.andThen,setBlock]
theorem ql{w:World}{b:Nat}{es:Array MapEntry}{clock:Nat}(hb:w.heap[b]?=some (.map es clock))(o:Obj):w.grownBy (setBlock w b o) (some b):=
 ⟨rfl,rfl,rfl,by simp[setBlock],fun i _ hi=>heap_setBlock_other hb _ (fun e=>hi (by rw[e]))⟩
variable {n:Nat} {D:DataW H}
theorem BD(h:w.ownsMap P k R b n D)(K:Keyed P k)(ht:P.underlying t=some (.map k e)){z:Value}(hz:∀u:World,(zeroValue e).run P u=.ok z u)(hn:n<maxLen){zd:DataW H}{zp:List MemPlace}(hzd:R z=some (zd,zp)){key:Value}{kl:Lit}(hkey:keyOf P k key=some kl):
  ∃(v0:Value) (st:Nat) (w1:World),(Instr.mapEntry t (.map (some b)) key).run P w=.ok (.tuple #[v0,goInt st]) w1/\w.grownBy w1 (some b)/\
   (w1.ownsMap P k R b (n+1) D\/(w1.ownsMap P k R b (n+1) (D.put kl zd)/\D.atKey kl zd=zd))/\
   ∀(w2:World) (val:Value) (d:DataW H) (ps:List MemPlace),w2.heap[b]?=w1.heap[b]?->R val=some (d,ps)->
    ∃w3,(Instr.entryStore t (.map (some b)) (goInt st) val).run P w2=.ok () w3/\w3.ownsMap P k R b (n+1) (D.put kl d)/\w2.grownBy w3 (some b):=by
 have h0:=h;obtain⟨es,clock,hb,F,hs,hD⟩:=h;obtain⟨v0,st,es1,clock1,r1,r2,r3⟩:=L8 (R:=R) K ht hz hb F hkey;have e1:(setBlock w b (.map es1 clock1)).heap[b]?=some (.map es1 clock1):=heap_setBlock_same hb _;refine⟨v0,st,_,r1,ql hb _,?_,fun w2 val d ps hw2 hv=>?_⟩
 ·rcases r2 with⟨rfl,rfl⟩|⟨hno,hr⟩
  ·exact .inl ⟨_,_,e1,F,by omega,hD⟩
  ·obtain⟨w',hr',how, -⟩:=h0.update K ht hn hkey hzd
   rw[hr] at hr';cases hr';refine .inr ⟨how,?_⟩;rcases Maps.fit_look false K ht (hz w) hb F hkey with⟨_,_,hat⟩|⟨e0,y,hm,hk,_⟩
   ·rw[hD];exact hat zd
   ·exact absurd hk (hno e0 hm)
 ·rw[e1] at hw2
  obtain⟨es',clock',q1,q2⟩:=r3 w2 val hw2;obtain⟨w',hr',how, -⟩:=h0.update K ht hn hkey hv;rw[q2] at hr';cases hr';obtain⟨es9,adi,g1,g2,g3,g4⟩:=how;rw[heap_setBlock_same hb _] at g1;cases g1;exact⟨_,q1,⟨es',clock',heap_setBlock_same hw2 _,g2,g3,g4⟩,ql hw2 _⟩
end
open Go.Maps (Keyed)
theorem FC:Maps.Keyed Tryz.prog 87:=Maps.Keyed.of_law (deep_law_laid (m:=10) (by kernel_rfl) (by omega) (by decide+kernel) (by kernel_rfl) (by kernel_rfl))
theorem litI(d:Nat)(x:Int)(h:(Lit.int .i64 x).wf=true):Tryz.prog.keyLits (d+1) 3 [.int .i64 x]=some [.int .i64 x]:=by
 have hu3:Tryz.prog.underlying 3=some (.int .i64):=by kernel_rfl
 unfold Program.keyLits;rw[hu3];simp[h]
def lW(a b:Int):Value:=.agg #[.int .i64 a,.int .i64 b]
theorem abC(a b:Int)(ha:(Lit.int .i64 a).wf=true)(hb:(Lit.int .i64 b).wf=true):∃l,keyOf Tryz.prog 87 (lW a b)=some l:=by
 have hk:Tryz.prog.keyType 87=true:=by kernel_rfl
 have hc1:Tryz.prog.cellsOf 3=1:=by kernel_rfl
 have hc8:Tryz.prog.cellsOf 87=2:=by kernel_rfl
 have hu:=Tryz.underlying87;obtain⟨m,hm⟩:∃m,Tryz.prog.types.size+1=m+2:=⟨Tryz.prog.types.size-1,by have:2<=Tryz.prog.types.size:=of_decide_eq_true (by kernel_rfl);omega⟩;unfold keyOf lW;rw[hu];simp only[hk,Value.formed,hu,hc8,hm];unfold Program.keyLits;rw[hu];simp[hc8,hc1,Value.cells,litI,ha,hb]
def pu(a:Int):Prop:= -9223372036854775808<=a/\a<=9223372036854775807
theorem pu.wf{a:Int}(h:pu a):(Lit.int .i64 a).wf=true:=by
 have h1:IntKind.i64.min= -9223372036854775808:=by decide
 have h2:IntKind.i64.max=9223372036854775807:=by decide
 obtain⟨ha,hb⟩:=h;simp only[Lit.wf,h1,h2];simp;omega
noncomputable def Yi (a b:Int):Lit:= @Classical.epsilon Lit ⟨.bool false⟩ fun l=>keyOf Tryz.prog 87 (lW a b)=some l
theorem vI{a b:Int}(ha:pu a)(hb:pu b):keyOf Tryz.prog 87 (lW a b)=some (Yi a b):=
 @Classical.epsilon_spec Lit (fun l=>keyOf Tryz.prog 87 (lW a b)=some l) (abC a b ha.wf hb.wf)
theorem KD{a b c d:Int}(ha:pu a)(hb:pu b)(hc:pu c)(hd:pu d)(e:Yi a b=Yi c d):a=c/\b=d:=by
 have h:=FC.inj (vI ha hb) (by rw[e];exact vI hc hd);unfold lW at h;simpa using h
theorem P5{a b:Int}(ha:pu a)(hb:pu b):WideAt.IsKeyLit (Yi a b):=FC.key (vI ha hb)
theorem I4:Tryz.prog.underlying 154=some (.map 87 3):=by kernel_rfl
theorem DQ:Tryz.prog.underlying 3=some (.int .i64):=by kernel_rfl
theorem CA(w:World):(zeroValue 3).run Tryz.prog w=.ok (.int .i64 0) w:=by kernel_rfl
def cT(w:World)(b n:Nat)(f:Int->Int->Int):Prop:=
 ∃D:DataW Nat,w.ownsMap Tryz.prog 87 (plainElem Tryz.prog 3) b n D/\∀a c,pu a->pu c->D.atKey (Yi a c) (.lit (.int .i64 0))=.lit (.int .i64 (f a c))
def sy(f:Int->Int->Int)(a c v:Int):Int->Int->Int:=fun a' c'=>if a'=a/\c'=c then v else f a' c'
theorem cT.made(w:World):cT (w.alloc (.map #[] 0)) w.heap.size 0 (fun _ _=>0):=⟨.map [],World.ownsMap_made _ _ _ _,fun _ _ _ _=>rfl⟩
theorem cT.keep{w w':World}{b n:Nat}{f:Int->Int->Int}(h:cT w b n f)(hk:w'.heap[b]?=w.heap[b]?):cT w' b n f:=by
 obtain⟨D,⟨es,clock,hb,F,r⟩,r2⟩:=h;exact⟨D,⟨es,clock,by rw[hk];exact hb,F,r⟩,r2⟩
theorem cT.lt{w:World}{b n:Nat}{f:Int->Int->Int}(h:cT w b n f):b<w.heap.size:=by
 obtain⟨D,h1, -⟩:=h;exact h1.lt
theorem cT.mono{w:World}{b n m:Nat}{f:Int->Int->Int}(h:cT w b n f)(hm:n<=m):cT w b m f:=by
 obtain⟨D,h1,h2⟩:=h;exact⟨D,h1.mono hm,h2⟩
theorem cT.look{w:World}{b n:Nat}{f:Int->Int->Int}(h:cT w b n f){a c:Int}(ha:pu a)(hc:pu c):
  (Instr.lookup 154 (.map (some b)) (lW a c) false).run Tryz.prog w=.ok (.int .i64 (f a c)) w:=by
 obtain⟨D,h1,h2⟩:=h;obtain⟨v,hrun,hat, -⟩:=h1.lookup_int FC I4 DQ (CA w) (vI ha hc);rw[h2 a c ha hc] at hat;have:f a c=v:=by simpa using hat
 rw[this];exact hrun
theorem cT.entry{w:World}{b n:Nat}{f:Int->Int->Int}(h:cT w b n f)(hn:n<=1000000){a c:Int}(ha:pu a)(hc:pu c):
  ∃(v0:Value) (st:Nat) (w1:World),(Instr.mapEntry 154 (.map (some b)) (lW a c)).run Tryz.prog w=.ok (.tuple #[v0,goInt st]) w1/\cT w1 b (n+1) f/\Turns (·=b) w w1/\
   ∀(w2:World) (v:Int),pu v->w2.heap[b]?=w1.heap[b]?->∃w3,(Instr.entryStore 154 (.map (some b)) (goInt st) (.int .i64 v)).run Tryz.prog w2=.ok () w3/\cT w3 b (n+1) (sy f a c v)/\Turns (·=b) w2 w3:=by
 obtain⟨D,h1,h2⟩:=h;have kW:n<maxLen:=by have:maxLen=9223372036854775807:=rfl;omega
 have hz0:(Lit.int .i64 0).wf=true:=by decide
 have hput:∀(D':DataW Nat) (v:Int),D'=D.put (Yi a c) (.lit (.int .i64 v))->∀a' c',pu a'->pu c'->D'.atKey (Yi a' c') (.lit (.int .i64 0))=.lit (.int .i64 (sy f a c v a' c')):=by
  rintro D' v rfl a' c' ha' hc';unfold sy;by_cases e:a'=a/\c'=c
  ·obtain⟨rfl,rfl⟩:=e
   rw[Maps.atKey_put_same h1.isMap (P5 ha' hc'),if_pos ⟨rfl,rfl⟩]
  ·rw[Maps.atKey_put_other (fun h=>e (KD ha' hc' ha hc h)),if_neg e,h2 a' c' ha' hc']
 obtain⟨v0,st,w1,r1,r2,r3,r4⟩:=BD h1 FC I4 CA kW (plainElem_int DQ hz0) (vI ha hc);refine⟨v0,st,w1,r1,?_,Turns.eT r2 (fun b' e=>by cases e;rfl),fun w2 v hv hw=>?_⟩
 ·rcases r3 with r3|⟨r3,r5⟩
  ·exact⟨D,r3,h2⟩
  ·have hf:f a c=0:=by
    have:=h2 a c ha hc
    rw[r5] at this
    simpa using this.symm
   refine⟨_,r3,fun a' c' ha' hc'=>?_⟩;rw[hput _ 0 rfl a' c' ha' hc'];unfold sy;by_cases e:a'=a/\c'=c
   ·rw[if_pos e,e.1,e.2,hf]
   ·rw[if_neg e]
 ·obtain⟨w3,q1,q2,q3⟩:=r4 w2 (.int .i64 v) (.lit (.int .i64 v)) [] hw (plainElem_int DQ hv.wf)
  exact⟨w3,q1,⟨_,q2,hput _ v rfl⟩,Turns.eT q3 (fun b' e=>by cases e;rfl)⟩
open Go.Maps (Keyed)
def Yj(v:Value):Option (DataW Nat×List MemPlace):=match v with
 | .map none=>some (.lit (.int .i64 (-1)),[])
 | .map (some b)=>some (.lit (.int .i64 (b:Int)),[])
 |_=>none
theorem P6{v:Value}{b:Nat}{ps:List MemPlace}(h:Yj v=some (.lit (.int .i64 (b:Int)),ps)):v=.map (some b):=by
 unfold Yj at h;split at h
 ·simp at h
 ·simp at h
  obtain⟨h1, -⟩:=h;have:b=_:=(Int.natCast_inj.1 h1).symm;rw[this]
 ·cases h
theorem Yk:Maps.Keyed Tryz.prog 3:=Maps.int_keyed Tryz.underlying3
theorem P7:Tryz.prog.underlying 199=some (.map 3 154):=by kernel_rfl
theorem abD(w:World):(zeroValue 154).run Tryz.prog w=.ok (.map none) w:=by kernel_rfl
theorem Yl{k:Int}(h:pu k):keyOf Tryz.prog 3 (.int .i64 k)=some (.int .i64 k):=Maps.keyOf_int_mk Tryz.underlying3 h.wf
theorem I5{k:Nat}(h:k<=1000000):pu (k:Int):=⟨by omega,by omega⟩
def lX(w:World)(b:Nat)(bs:List Nat):Prop:=
 ∃D:DataW Nat,w.ownsMap Tryz.prog 3 Yj b bs.length D/\∀k (h:k<bs.length),D.atKey (.int .i64 (k:Int)) (.lit (.int .i64 (-1)))=.lit (.int .i64 (bs[k]:Int))
theorem lX.made(w:World):lX (w.alloc (.map #[] 0)) w.heap.size []:=⟨.map [],World.ownsMap_made _ _ _ _,fun _ h=>absurd h (by simp)⟩
theorem lX.keep{w w':World}{b:Nat}{bs:List Nat}(h:lX w b bs)(hk:w'.heap[b]?=w.heap[b]?):lX w' b bs:=by
 obtain⟨D,⟨es,clock,hb,F,r⟩,r2⟩:=h;exact⟨D,⟨es,clock,by rw[hk];exact hb,F,r⟩,r2⟩
theorem lX.lt{w:World}{b:Nat}{bs:List Nat}(h:lX w b bs):b<w.heap.size:=by
 obtain⟨D,h1, -⟩:=h;exact h1.lt
theorem lX.look{w:World}{b:Nat}{bs:List Nat}(h:lX w b bs){k:Nat}(hk:k<bs.length)(hs:k<=1000000):
  (Instr.lookup 199 (.map (some b)) (.int .i64 (k:Int)) false).run Tryz.prog w=.ok (.map (some bs[k])) w:=by
 obtain⟨D,h1,h2⟩:=h;obtain⟨v,ps,hrun,hv⟩:=h1.lookup Yk P7 (z:=.map none) (abD w) (zd:=.lit (.int .i64 (-1))) (zp:=[]) rfl (Yl (I5 hs));rw[h2 k hk] at hv;rw[P6 hv] at hrun;exact hrun
theorem lX.store{w:World}{b:Nat}{bs:List Nat}(h:lX w b bs)(hs:bs.length<=1000000)(c:Nat):
  ∃w',(Instr.mapUpdate 199 (.map (some b)) (.int .i64 (bs.length:Int)) (.map (some c))).run Tryz.prog w=.ok () w'/\lX w' b (bs++[c])/\Turns (·=b) w w':=by
 obtain⟨D,h1,h2⟩:=h;have kW:bs.length<maxLen:=by have:maxLen=9223372036854775807:=rfl;omega
 obtain⟨w',hrun,how,hg⟩:=h1.update Yk P7 kW (Yl (I5 hs)) (val:=.map (some c)) (d:=.lit (.int .i64 (c:Int))) (ps:=[]) rfl;refine⟨w',hrun,⟨_,by rw[zLa];exact how,fun k hk=>?_⟩,Turns.eT hg (fun b' e=>by cases e;rfl)⟩;by_cases e:k=bs.length
 ·subst e
  rw[Maps.atKey_put_same h1.isMap (Yk.key (Yl (I5 hs)))];simp
 ·have hk':k<bs.length:=by rw[zLa] at hk;simp at hk;omega
  rw[Maps.atKey_put_other (by simp;omega),h2 k hk',zAl hk']
def lu(W:ah.bK)(s:Sub.S)(r:aF.Ref)(n:Nat)(a c:Int):Int:=if a=r.up then (aF.p9 W s r c n:Nat) else 0
def jo(W:ah.bK)(s:Sub.S)(r:aF.Ref):Int->Int->Int:=lu W s r (W.getD r.kind []).length
theorem L9(W:ah.bK)(s:Sub.S)(r:aF.Ref):lu W s r 0=fun _ _=>0:=by
 funext a c;unfold lu aF.p9;simp
theorem oB(W:ah.bK)(s:Sub.S)(r:aF.Ref)(i:Int)(n:Nat):aF.p9 W s r i (n+1)=aF.p9 W s r i n+if (Sub.keeps s r.kind n&&decide (aF.mq W r.kind n r.field=i))=true then 1 else 0:=by
 unfold aF.p9;rw[List.range_succ,List.filter_append,zLa];congr 1;rw[List.filter_cons];split<;>simp
theorem P8(W:ah.bK)(s:Sub.S)(r:aF.Ref)(i:Int)(n:Nat):aF.p9 W s r i n<=n:=by
 unfold aF.p9;exact Nat.le_trans (List.length_filter_le _ _) (by simp)
theorem TH{W:ah.bK}{s:Sub.S}{r:aF.Ref}{n:Nat}(h:Sub.keeps s r.kind n=false):lu W s r (n+1)=lu W s r n:=by
 funext a c;unfold lu;rw[oB,h];simp
theorem P9{W:ah.bK}{s:Sub.S}{r:aF.Ref}{n:Nat}(h:Sub.keeps s r.kind n=true):lu W s r (n+1)=sy (lu W s r n) r.up (aF.mq W r.kind n r.field) (lu W s r n r.up (aF.mq W r.kind n r.field)+1):=by
 funext a c;unfold sy lu;rw[oB,h];by_cases ha:a=r.up
 ·subst ha
  by_cases hc:c=aF.mq W r.kind n r.field
  ·subst hc
   simp
  ·have h2:¬aF.mq W r.kind n r.field=c:=fun h=>hc h.symm
   simp[h2,hc]
 ·rw[if_neg ha,if_neg (fun h=>ha h.1),if_neg ha]
theorem zY(W:ah.bK)(s:Sub.S)(r:aF.Ref)(n:Nat)(a c:Int):0<=lu W s r n a c/\lu W s r n a c<=n:=by
 unfold lu;have:=P8 W s r c n;split<;>omega
structure VI(B0 B1 B2 n:Nat)(rs:List aF.Ref)(W:ah.bK)(s:Sub.S)(w:World):Prop where
 Gr:B0<=B1
 b12:B1<=B2
 box:∃ar cr aw cw gs,w.heap[B2+1]?=some (.cells #[.slice ar rs.length cr,.slice aw W.length cw,.slice (some ⟨gs,0,none⟩) s.length s.length,.map (some B2)] 201 (0,0))/\
  CX (fun b=>B0<=b/\b<B1) w (.slice ar rs.length cr) rs/\dc (·<B0) w (.slice aw W.length cw) W/\gN (fun b=>B1<=b/\b<B2) w (.slice (some ⟨gs,0,none⟩) s.length s.length) s
 maps:∃bs:List Nat,lX w B2 bs/\bs.length=rs.length/\bs.Nodup/\(∀b∈bs,B2+2<=b)/\∀k (h:k<bs.length) (h2:k<rs.length),cT w bs[k] n (jo W s rs[k])
end Go.Proofs.YtobgljfnfpolkaaGreatDoor
namespace Go.Proofs.YtobgljfnfpolkaaGreatDoor.aF
open ah (bK bD)
def kS(s:Sub.S)(k n:Nat):List Nat:=(List.range n).filter (Sub.keeps s k)
def dK(s:Sub.S)(k i:Nat):Nat:=(kS s k i).length
def qm(s:Sub.S)(k n a:Nat):Nat:=(kS s k n).getD a 0
theorem oC(s:Sub.S)(k n:Nat):kS s k (n+1)=kS s k n++if Sub.keeps s k n=true then [n] else []:=by
 unfold kS;rw[List.range_succ,List.filter_append,List.filter_cons];split<;>simp
theorem Ma(s:Sub.S)(k n:Nat):dK s k (n+1)=dK s k n+if Sub.keeps s k n=true then 1 else 0:=by
 unfold dK;rw[oC,zLa];split<;>simp
theorem yM(s:Sub.S)(k:Nat):∀n,dK s k n<=n
 |0=>aB
 |n+1=>by
  have:=yM s k n;rw[Ma];split<;>omega
theorem CZ{s:Sub.S}{k i:Nat}(h:Sub.keeps s k i=true):∀{n:Nat},i<n->(kS s k n)[dK s k i]?=some i
 |0,hi=>by omega
 |n+1,hi=>by
  rw[oC];by_cases e:i=n
  ·subst e
   rw[if_pos h];unfold dK;simp
  ·have ih:=CZ h (n:=n) (by omega)
   have hl:=(List.getElem?_eq_some_iff.1 ih).1;rw[List.getElem?_append_left hl];exact ih
theorem zZ{s:Sub.S}{k a i:Nat}:∀{n:Nat},(kS s k n)[a]?=some i->dK s k i=a/\Sub.keeps s k i=true/\i<n
 |0,h=>by simp[kS] at h
 |n+1,h=>by
  rw[oC] at h;by_cases g:a<(kS s k n).length
  ·rw[List.getElem?_append_left g] at h
   have:=zZ h;exact⟨this.1,this.2.1,by omega⟩
  ·rw[List.getElem?_append_right (by omega)] at h
   split at h
   ·rename_i hk
    by_cases e:a-(kS s k n).length=0
    ·rw[e] at h
     simp at h;subst h;exact⟨by unfold dK;omega,hk,by omega⟩
    ·rw[List.getElem?_eq_none (by simp;omega)] at h
     cases h
   ·simp at h
theorem KE{s:Sub.S}{k i n:Nat}(h:Sub.keeps s k i=true)(hi:i<n):dK s k i<dK s k n:=
 (List.getElem?_eq_some_iff.1 (CZ h hi)).1
theorem adn{s:Sub.S}{k i n:Nat}(h:Sub.keeps s k i=true)(hi:i<n):qm s k n (dK s k i)=i:=by
 unfold qm;rw[zGd,CZ h hi];rfl
theorem yN{s:Sub.S}{k n a:Nat}(h:a<dK s k n):dK s k (qm s k n a)=a/\Sub.keeps s k (qm s k n a)=true/\qm s k n a<n:=by
 have e:(kS s k n)[a]?=some (qm s k n a):=by
  unfold qm;rw[zGd,zEg h];rfl
 exact zZ e
theorem aee{s:Sub.S}{k i j:Nat}(hi:Sub.keeps s k i=true)(hj:Sub.keeps s k j=true)(h:dK s k i=dK s k j):i=j:=by
 have h1:=adn hi (n:=i+j+1) (by omega);have h2:=adn hj (n:=i+j+1) (by omega);rw[h] at h1;omega
theorem ad8{s:Sub.S}{k n a:Nat}(h:a<dK s k n):qm s k (n+1) a=qm s k n a:=by
 have h1:=yN h;have h2:=yN (s:=s) (k:=k) (n:=n+1) (a:=a) (by rw[Ma];omega);exact aee h2.2.1 h1.2.1 (by omega)
theorem adO(s:Sub.S)(k:Nat)(P:Nat->Bool):∀n:Nat,((List.range n).filter fun b=>Sub.keeps s k b&&P b).length=((List.range (dK s k n)).filter fun a=>P (qm s k n a)).length
 |0=>rfl
 |n+1=>by
  have ih:=adO s k P n
  have hc:((List.range (dK s k n)).filter fun a=>P (qm s k (n+1) a))=(List.range (dK s k n)).filter fun a=>P (qm s k n a):=by
   refine List.filter_congr fun a ha=>?_;rw[ad8 (List.mem_range.1 ha)]
  rw[List.range_succ,List.filter_append,zLa,ih,Ma];by_cases e:Sub.keeps s k n=true
  ·rw[if_pos e,List.range_succ,List.filter_append,zLa,hc]
   have:qm s k (n+1) (dK s k n)=n:=adn e (by omega);simp only[List.filter_cons,List.filter_nil,e,this,Bool.true_and];cases P n<;>rfl
  ·rw[if_neg e]
   show _=(List.filter (fun a=>P (qm s k (n+1) a)) (List.range (dK s k n))).length
   rw[hc];simp[e]
def tab(K:Nat)(n m:Nat->Nat)(f:Nat->Nat->Nat->Int):bK:=(List.range K).map fun k=>(List.range (n k)).map fun i=>(List.range (m k)).map fun j=>f k i j
theorem oD(K:Nat)(n m:Nat->Nat)(f:Nat->Nat->Nat->Int):(tab K n m f).length=K:=by simp[tab]
theorem I6{K:Nat}{n m:Nat->Nat}{f:Nat->Nat->Nat->Int}{k:Nat}(h:k<(tab K n m f).length):(tab K n m f)[k]=(List.range (n k)).map fun i=>(List.range (m k)).map fun j=>f k i j:=by simp[tab]
theorem z8{K:Nat}{n m:Nat->Nat}{f:Nat->Nat->Nat->Int}{k:Nat}(h:k<K):(tab K n m f).getD k []=(List.range (n k)).map fun i=>(List.range (m k)).map fun j=>f k i j:=by
 rw[zGd,zEg (by rw[oD];exact h),I6];rfl
theorem Qa{K:Nat}{n m:Nat->Nat}{f:Nat->Nat->Nat->Int}{k:Nat}(h:k<K):((tab K n m f).getD k []).length=n k:=by rw[z8 h];simp
theorem aeY{K:Nat}{n m:Nat->Nat}{f:Nat->Nat->Nat->Int}{k i j:Nat}(hk:k<K)(hi:i<n k)(hj:j<m k):mq (tab K n m f) k i j=f k i j:=by
 unfold mq;rw[z8 hk]
 have h1:((List.range (n k)).map fun i=>(List.range (m k)).map fun j=>f k i j).getD i []=(List.range (m k)).map fun j=>f k i j:=by
  rw[Sub.aR (by simpa using hi)];simp
 rw[h1,Sub.aR (by simpa using hj)];simp
theorem ux{K:Nat}{n n' m:Nat->Nat}{f g:Nat->Nat->Nat->Int}(hn:∀k,k<K->n k=n' k)(h:∀k i j,k<K->i<n k->j<m k->f k i j=g k i j):tab K n m f=tab K n' m g:=by
 unfold tab;refine List.map_congr_left fun k hk=>?_;rw[List.mem_range] at hk;rw[<-hn k hk];refine List.map_congr_left fun i hi=>List.map_congr_left fun j hj=>?_;rw[List.mem_range] at hi hj;exact h k i j hk hi hj
def bH(W:bK)(k:Nat):Nat:=(W.getD k []).length
def sumOf(n:Nat)(u v:Nat->Int)(i:Int):Int:=((List.range n).map fun a=>if u a=i then v a else 0).sum
theorem I7(u v:Nat->Int)(i:Int):sumOf 0 u v i=0:=rfl
theorem sA(n:Nat)(u v:Nat->Int)(i:Int):sumOf (n+1) u v i=sumOf n u v i+if u n=i then v n else 0:=by
 unfold sumOf;rw[List.range_succ,List.map_append,List.sum_append];simp
theorem adP{u v u' v':Nat->Int}{i j:Int}:∀{n:Nat},(∀a,a<n->(if u a=i then v a else 0)=if u' a=j then v' a else 0)->sumOf n u v i=sumOf n u' v' j
 |0,_=>rfl
 |n+1,h=>by
  rw[sA,sA,adP (fun a ha=>h a (by omega)),h n (by omega)]
def cell0(W:bK)(s:Sub.S)(k a j:Nat):Int:=mq W k (qm s k (bH W k) a) j
def oP(x:bD)(W:bK)(s:Sub.S)(k a j:Nat):Int:=if (ah.fd x k j).kind=1 then (dK s (ah.dB x k j).toNat (cell0 W s k a j).toNat:Nat) else cell0 W s k a j
def dW(x:bD)(k j:Nat):Nat:=(ah.eY x k (ah.fd x k j)).toNat
def oZ(x:bD)(k j:Nat):Nat:=((ah.eZ x k (ah.fd x k j)).headD 0).toNat
def mN(x:bD)(k j:Nat):Nat:=(ah.aX (ah.kd x (dW x k j)) (ah.fd x (dW x k j) (oZ x k j)).up).toNat
def uy(x:bD)(W:bK)(s:Sub.S)(k a j:Nat):Int:=
 if (ah.fd x k j).kind=6 then sumOf (dK s (dW x k j) (bH W (dW x k j))) (fun b=>oP x W s (dW x k j) b (mN x k j)) (fun b=>oP x W s (dW x k j) b (oZ x k j)) a else oP x W s k a j
def iW(x:bD)(W:bK)(s:Sub.S):bK:=tab W.length (fun k=>dK s k (bH W k)) (fun k=>(ah.kd x k).af4.length) (uy x W s)
theorem C4{x:bD}(h:ah.okB x=true){k j:Nat}(hk:k<x.af3.length)(hj:j<(ah.kd x k).af4.length)(h6:(ah.fd x k j).kind=6):
  dW x k j<x.af3.length/\oZ x k j<(ah.kd x (dW x k j)).af4.length/\mN x k j<(ah.kd x (dW x k j)).af4.length/\(ah.fd x (dW x k j) (oZ x k j)).kind=7/\(ah.fd x (dW x k j) (mN x k j)).kind=1/\
  ah.dB x (dW x k j) (mN x k j)=k/\k<dW x k j/\ah.eY x k (ah.fd x k j)=(dW x k j:Int)/\ah.eZ x k (ah.fd x k j)=[(oZ x k j:Int)]/\ah.aX (ah.kd x (dW x k j)) (ah.fd x (dW x k j) (oZ x k j)).up=(mN x k j:Int):=by
 have hE:=((qL h).2 _ hk).2 _ hj;unfold ah.mH at hE;split at hE
 ·omega
 unfold ah.wD at hE;simp only[h6] at hE;by_cases ho:ah.eY x k (ah.fd x k j)<0
 ·simp[ho] at hE
 have hl:(ah.eZ x k (ah.fd x k j)).length=1:=by
  apply Classical.byContradiction;intro hl;simp[ho,hl] at hE
 have hko:ah.eY x k (ah.fd x k j)=ah.bZ x (ah.fd x k j).of/\(k:Int)<ah.bZ x (ah.fd x k j).of:=by
  unfold ah.eY at ho ⊢;split
  ·rename_i h1;exact⟨rfl,h1.2⟩
  ·rename_i h1;rw[if_neg h1] at ho;omega
 obtain⟨o,Tf,ZX⟩:∃o:Nat,o<x.af3.length/\ah.bZ x (ah.fd x k j).of=(o:Int):=by
  have h0:=ah.gE (fun q:ah.dZ=>decide (q.name=(ah.fd x k j).of)) x.af3;have hkI:ah.bZ x (ah.fd x k j).of=ah.dw (fun q:ah.dZ=>decide (q.name=(ah.fd x k j).of)) x.af3 0:=rfl;rcases h0 with⟨e, -⟩|⟨o,ho,e, -⟩
  ·omega
  ·exact⟨o,ho,hkI.trans e⟩
 have hoth:dW x k j=o:=by unfold dW;rw[hko.1,ZX];simp
 obtain⟨c,hc⟩:=List.length_eq_one_iff.1 hl
 have hm:c∈ah.nZ x k o (ah.fd x k j).name:=by
  have h0:c∈ah.eZ x k (ah.fd x k j):=by rw[hc];simp
  unfold ah.eZ at h0;rw[if_neg ho,hko.1,ZX] at h0;exact h0
 unfold ah.nZ at hm;rw[List.mem_filter,List.mem_map] at hm;obtain⟨⟨sj,hsj,rfl⟩,hp⟩:=hm;simp only[zBa,zDt] at hp;obtain⟨⟨p1, -⟩,p3⟩:=hp;rw[List.mem_range] at hsj;have I8:oZ x k j=sj:=by unfold oZ;rw[hc];simp
 obtain⟨u,hu1,kL,hu3,hu4⟩:∃u:Nat,ah.aX (ah.kd x o) (ah.fd x o sj).up=(u:Int)/\u<(ah.kd x o).af4.length/\(ah.fd x o u).kind=1/\ah.qW x o (ah.fd x o u)=k:=by
  unfold ah.dB at p3;split at p3
  ·simp only[p1,true_or,if_true] at p3
   split at p3
   ·rename_i hb
    obtain⟨b1,b2,b3⟩:=hb;have b4:=b1;unfold ah.hasB at b4;simp only[zBa,zDt] at b4;obtain⟨u,hu⟩:∃u:Nat,ah.aX (ah.kd x o) (ah.fd x o sj).up=(u:Int):=⟨_,(Int.toNat_of_nonneg b4.1.2).symm⟩;rw[hu] at b3 b4 p3;exact⟨u,hu,by omega,b3,p3⟩
   ·omega
  ·omega
 have hled:mN x k j=u:=by unfold mN;rw[hoth,I8,hu1];simp
 have hup:ah.dB x o u=k:=by
  unfold ah.dB
  have hb:ah.hasB x o u=true:=by
   unfold ah.hasB;simp only[zBa,zDt];omega
  rw[if_pos hb];simp only[hu3];simpa using hu4
 rw[hoth,I8,hled];exact⟨Tf,hsj,kL,p1,hu3,hup,by omega,by rw[hko.1,ZX],hc,hu1⟩
end Go.Proofs.YtobgljfnfpolkaaGreatDoor.aF
namespace Go.Proofs.YtobgljfnfpolkaaGreatDoor.aF
open ah (bK bD)
theorem Mb{x:bD}{W:bK}{s:Sub.S}{k:Nat}(h:k<W.length):bH (iW x W s) k=dK s k (bH W k):=Qa h
theorem adE{x:bD}{W:bK}{s:Sub.S}{k a j:Nat}(hk:k<W.length)(ha:a<dK s k (bH W k))(hj:j<(ah.kd x k).af4.length):mq (iW x W s) k a j=uy x W s k a j:=aeY hk ha hj
theorem Mc{x:bD}{W:bK}{s:Sub.S}{k a j:Nat}(h:(ah.fd x k j).kind=1):uy x W s k a j=(dK s (ah.dB x k j).toNat (cell0 W s k a j).toNat:Nat):=by
 unfold uy oP;rw[if_neg (by omega),if_pos h]
theorem adU{x:bD}{W:bK}{s:Sub.S}{k a j:Nat}(h:(ah.fd x k j).kind≠1)(h6:(ah.fd x k j).kind≠6):uy x W s k a j=cell0 W s k a j:=by
 unfold uy oP;rw[if_neg h6,if_neg h]
theorem Aa{x:bD}{W:bK}{s:Sub.S}(hv:Sub.valid (wrong (bT x) W) s=true){k i j:Nat}(hk:k<x.af3.length)(hj:j<(ah.kd x k).af4.length)(h1:(ah.fd x k j).kind=1)(hki:Sub.keeps s k i=true):
  Sub.keeps s (ah.dB x k j).toNat (mq W k i j).toNat=true:=by
 have h0:=Sub.fW.1 hv k i hki;unfold wrong at h0;rw[List.any_eq_false] at h0;have h2:=h0 _ (zD hk hj h1);unfold vC at h2;cases e:Sub.keeps s (ah.dB x k j).toNat (mq W k i j).toNat
 ·simp[e] at h2
 ·rfl
theorem Ab{f g:Nat->Nat}:∀{l:List Nat},(∀k∈l,f k<=g k)->(l.map f).sum<=(l.map g).sum
 |[],_=>aB
 |a::l,h=>by
  have h1:=h a (by simp);have h2:=Ab (l:=l) (fun k hk=>h k (by simp[hk]));simp only[List.map_cons,List.sum_cons];omega
theorem Md(K:Nat)(n m:Nat->Nat)(f:Nat->Nat->Nat->Int):ah.total (tab K n m f)=((List.range K).map n).sum:=by
 unfold ah.total tab;congr 1;rw[List.map_map];refine List.map_congr_left fun k _=>?_;simp
theorem xH(W:bK):ah.total W=((List.range W.length).map (bH W)).sum:=by
 unfold ah.total;congr 1;refine List.ext_getElem (by simp) fun k h1 h2=>?_;rw[zLm] at h1;rw[List.getElem_map,List.getElem_map,List.getElem_range];unfold bH;rw[Sub.aR h1]
theorem I9(x:bD)(W:bK)(s:Sub.S):ah.total (iW x W s)<=ah.total W:=by
 unfold iW;rw[Md,xH];exact Ab fun k _=>yM _ _ _
theorem DR{x:bD}{W:bK}(hf:xo x W){k i j:Nat}(hk:k<x.af3.length)(hj:j<(ah.kd x k).af4.length)(h1:(ah.fd x k j).kind=1)(hi:i<bH W k):
  0<=ah.dB x k j/\ah.dB x k j<k/\0<=mq W k i j/\mq W k i j<ah.eV W (ah.dB x k j):=by
 have hm:=zD hk hj h1;obtain⟨-, -,r1,r2, -⟩:=hf.refs _ hm;have mg:k<W.length:=by rw[hf.len];exact hk
 have hi':i<W[k].length:=by unfold bH at hi;rwa [Sub.aR mg] at hi
 have h2:=hf.lead _ hm i mg hi';exact⟨r1,r2,h2⟩
theorem Me{x:bD}{W:bK}{s:Sub.S}(hf:xo x W)(hv:Sub.valid (wrong (bT x) W) s=true):dF x (iW x W s)=true:=by
 have hlen:=hf.len;unfold dF;simp only[zBa,zDt,List.all_eq_true,List.mem_range];refine⟨⟨⟨?_,fun k hk r hr=>?_⟩,fun r hr l hl=>?_⟩,?_⟩
 ·unfold iW;rw[oD];exact hlen
 ·unfold iW at hk hr
  rw[oD] at hk;rw[z8 hk,List.mem_map] at hr;obtain⟨i, -,rfl⟩:=hr;simp
 ·obtain⟨q1,q2,q3,q4, -, -,q5,q6⟩:=hf.refs _ hr
  have hk:r.kind<W.length:=by omega
  unfold iW at hl;rw[z8 hk,List.mem_map] at hl;obtain⟨a,ha,rfl⟩:=hl;rw[List.mem_range] at ha;have hold:=yN ha
  have e:((List.range (ah.kd x r.kind).af4.length).map fun j=>uy x W s r.kind a j).getD r.field 0=uy x W s r.kind a r.field:=by
   rw[Sub.aR (by simpa using q2)];simp
  rw[e,Mc q5,<-q6];have hlead:=DR hf q1 q2 q5 hold.2.2;have hkp:=Aa hv q1 q2 q5 hold.2.1;rw[<-q6] at hlead hkp;have hu:ah.eV (iW x W s) r.up=dK s r.up.toNat (bH W r.up.toNat):=Mb (by omega)
  have hl2:dK s r.up.toNat (cell0 W s r.kind a r.field).toNat<dK s r.up.toNat (bH W r.up.toNat):=KE hkp (by
   have h1:=hlead.2.2.2
   have h2:=hlead.2.2.1
   have e:ah.eV W r.up=bH W r.up.toNat:=rfl
   rw[e] at h1
   show (mq W r.kind (qm s r.kind (bH W r.kind) a) r.field).toNat<bH W r.up.toNat
   omega)
  omega
 ·have h1:=I9 x W s
  have h2:=hf.tot;omega
def lift(s t:Sub.S):Sub.S:=(List.range s.length).map fun k=>(List.range (s.getD k []).length).map fun i=>Sub.keeps s k i&&Sub.keeps t k (dK s k i)
theorem tj(s t:Sub.S)(k i:Nat):Sub.keeps (lift s t) k i=(Sub.keeps s k i&&Sub.keeps t k (dK s k i)):=by
 by_cases g:k<s.length/\i<(s.getD k []).length
 ·have h1:(lift s t).getD k []=(List.range (s.getD k []).length).map fun i=>Sub.keeps s k i&&Sub.keeps t k (dK s k i):=by
   unfold lift
   rw[Sub.aR (by simpa using g.1)]
   simp only[List.getElem_map,List.getElem_range]
  show ((lift s t).getD k []).getD i false=_
  rw[h1,Sub.aR (by simpa using g.2)];simp only[List.getElem_map,List.getElem_range]
 ·have e1:Sub.keeps s k i=false:=by
   cases e:Sub.keeps s k i
   ·rfl
   ·exact absurd (Sub.lQ e) g
  rw[e1,Bool.false_and];cases e:Sub.keeps (lift s t) k i
  ·rfl
  ·have h2:=Sub.lQ e
   have h3:k<s.length:=by simpa [lift] using h2.1
   have h4:(lift s t).getD k []=(List.range (s.getD k []).length).map fun i=>Sub.keeps s k i&&Sub.keeps t k (dK s k i):=by
    unfold lift;rw[Sub.aR (by simpa using h3)];simp only[List.getElem_map,List.getElem_range]
   rw[h4] at h2;exact absurd ⟨h3,by simpa using h2.2⟩ g
theorem adF{sh:List Nat}{s:Sub.S}(h:Sub.Fit sh s)(t:Sub.S):Sub.Fit sh (lift s t):=by
 refine⟨by simp[lift,h.1],fun k=>?_⟩;rw[<-h.2 k];by_cases hk:k<s.length
 ·unfold lift
  rw[Sub.aR (by simpa using hk)];simp
 ·rw[Sub.gU (by simp[lift];omega),Sub.gU (xs:=s) (by omega)]
theorem aew(s t:Sub.S):Sub.le (lift s t) s:=fun k i h=>by
 rw[tj,zBa] at h;exact h.1
theorem ado(s t:Sub.S)(k:Nat):∀i,dK (lift s t) k i=dK t k (dK s k i)
 |0=>rfl
 |i+1=>by
  rw[Ma,ado s t k i,tj,Ma s];by_cases e:Sub.keeps s k i=true
  ·rw[if_pos e,Ma t,e,Bool.true_and]
  ·rw[if_neg e]
   simp[e]
theorem aeA{s t:Sub.S}{k n a:Nat}(h:a<dK t k (dK s k n)):qm (lift s t) k n a=qm s k n (qm t k (dK s k n) a):=by
 obtain⟨b1,b2,b3⟩:=yN h;obtain⟨c1,c2,c3⟩:=yN b3;have hk:Sub.keeps (lift s t) k (qm s k n (qm t k (dK s k n) a))=true:=by rw[tj,c1,c2,b2];rfl
 have hn:dK (lift s t) k (qm s k n (qm t k (dK s k n) a))=a:=by rw[ado,c1,b1]
 have:=adn hk c3;rw[hn] at this;exact this
theorem adV{x:bD}{W:bK}{s t:Sub.S}{k a j:Nat}(hk:k<W.length)(ha:a<dK t k (dK s k (bH W k)))(hj:j<(ah.kd x k).af4.length):
  cell0 (iW x W s) t k a j=uy x W s k (qm t k (dK s k (bH W k)) a) j:=by
 unfold cell0;rw[Mb hk,adE hk (yN ha).2.2 hj]
theorem adW{W:bK}{s t:Sub.S}{k a j:Nat}(ha:a<dK t k (dK s k (bH W k))):cell0 W (lift s t) k a j=cell0 W s k (qm t k (dK s k (bH W k)) a) j:=by
 unfold cell0;rw[aeA ha]
theorem adL{x:bD}{W:bK}{s t:Sub.S}{k a j:Nat}(hk:k<W.length)(ha:a<dK t k (dK s k (bH W k)))(hj:j<(ah.kd x k).af4.length)(h6:(ah.fd x k j).kind≠6):
  oP x (iW x W s) t k a j=oP x W (lift s t) k a j:=by
 unfold oP;by_cases h1:(ah.fd x k j).kind=1
 ·rw[if_pos h1,if_pos h1,adV hk ha hj,Mc h1,adW ha,ado,Int.toNat_natCast]
 ·rw[if_neg h1,if_neg h1,adV hk ha hj,adU h1 h6,adW ha]
theorem aeB{x:bD}{W:bK}(hx:ah.okB x=true)(hlen:W.length=x.af3.length)(s t:Sub.S):iW x (iW x W s) t=iW x W (lift s t):=by
 have hK:(iW x W s).length=W.length:=by unfold iW;rw[oD]
 rw[iW,hK];refine ux (fun k hk=>?_) fun k a j hk ha hj=>?_
 ·rw[Mb hk,ado]
 ·rw[Mb hk] at ha
  by_cases h6:(ah.fd x k j).kind=6
  ·obtain⟨o1,o2,o3,o4,o5, -⟩:=C4 hx (by omega) hj h6
   have hoW:dW x k j<W.length:=by omega
   unfold uy;rw[if_pos h6,if_pos h6,Mb hoW,ado];refine adP fun b hb=>?_;rw[adL hoW hb o3 (by omega),adL hoW hb o2 (by omega)]
  ·unfold uy
   rw[if_neg h6,if_neg h6,adL hk ha hj h6]
end Go.Proofs.YtobgljfnfpolkaaGreatDoor.aF
namespace Go.Proofs.YtobgljfnfpolkaaGreatDoor.aF
open ah (bK bD)
theorem adX{α:Type}{p q:α->Bool}:∀{l:List α},(∀a∈l,p a=q a)->l.any p=l.any q
 |[],_=>rfl
 |a::l,h=>by
  rw[List.any_cons,List.any_cons,h a (by simp),adX (fun b hb=>h b (by simp[hb]))]
theorem aeC{x:bD}{W:bK}{s t:Sub.S}(hf:xo x W)(hv:Sub.valid (wrong (bT x) W) s=true){r:Ref}(hr:r∈bT x){a:Nat}(ha:a<dK s r.up.toNat (bH W r.up.toNat)):
  CF (iW x W s) t r a=CF W (lift s t) r (qm s r.up.toNat (bH W r.up.toNat) a):=by
 obtain⟨q1,q2,q3,q4, -, -,q5,q6⟩:=hf.refs _ hr;have hlen:=hf.len;have mg:r.kind<W.length:=by omega
 obtain⟨o1,o2,o3⟩:=yN ha
 have e1:CF (iW x W s) t r a=p9 (iW x W s) t r a (dK s r.kind (bH W r.kind)):=by
  unfold CF;rw[<-Mb (x:=x) (s:=s) mg];rfl
 have e2:CF W (lift s t) r (qm s r.up.toNat (bH W r.up.toNat) a)=p9 W (lift s t) r (qm s r.up.toNat (bH W r.up.toNat) a) (bH W r.kind):=rfl;rw[e1,e2];unfold p9
 have e3:((List.range (bH W r.kind)).filter fun b=>Sub.keeps (lift s t) r.kind b&&decide (mq W r.kind b r.field=(qm s r.up.toNat (bH W r.up.toNat) a:Nat)))=
   (List.range (bH W r.kind)).filter fun b=>Sub.keeps s r.kind b&&(Sub.keeps t r.kind (dK s r.kind b)&&decide (mq W r.kind b r.field=(qm s r.up.toNat (bH W r.up.toNat) a:Nat))):=by
  refine List.filter_congr fun b _=>?_;rw[tj,Bool.and_assoc]
 rw[e3,adO s r.kind (fun b=>Sub.keeps t r.kind (dK s r.kind b)&&decide (mq W r.kind b r.field=(qm s r.up.toNat (bH W r.up.toNat) a:Nat))) (bH W r.kind)];congr 1;refine List.filter_congr fun b hb=>?_;rw[List.mem_range] at hb;obtain⟨b1,b2,b3⟩:=yN hb;rw[b1];congr 1;have hlead:=DR hf q1 q2 q5 b3;have hkp:=Aa hv q1 q2 q5 b2;rw[<-q6] at hlead hkp;rw[adE mg hb q2,Mc q5,<-q6];unfold cell0;refine decide_eq_decide.2 ⟨fun h=>?_,fun h=>?_⟩
 ·have h2:=aee hkp o2 (by rw[o1];omega)
  omega
 ·rw[h,Int.toNat_natCast,o1]
theorem adY{x:bD}{W:bK}{s t:Sub.S}(hf:xo x W)(hv:Sub.valid (wrong (bT x) W) s=true){k a:Nat}(hk:k<W.length)(ha:a<dK s k (bH W k)):
  wrong (bT x) (iW x W s) t k a=wrong (bT x) W (lift s t) k (qm s k (bH W k) a):=by
 have hlen:=hf.len;unfold wrong;refine adX fun r hr=>?_;obtain⟨q1,q2,q3,q4, -, -,q5,q6⟩:=hf.refs _ hr;obtain⟨o1,o2,o3⟩:=yN ha;unfold vC;congr 1
 ·by_cases e:r.kind=k
  ·subst e
   have hkp:=Aa hv q1 q2 q5 o2;rw[<-q6] at hkp;rw[adE hk ha q2,Mc q5,<-q6,tj,hkp,Bool.true_and,Int.toNat_natCast];rfl
  ·simp[e]
 ·by_cases e:r.up=(k:Int)
  ·have e2:r.up.toNat=k:=by omega
   have:=aeC (t:=t) hf hv hr (a:=a) (by rw[e2];exact ha);rw[this,e2]
  ·simp[e]
theorem jY(W:bK)(k:Nat):(shape W).getD k 0=bH W k:=by
 unfold shape bH;rw[zGd,List.getElem?_map,zGd];cases W[k]?<;>rfl
theorem qO(W:bK):(shape W).length=W.length:=by simp[shape]
theorem vJ{W:bK}{s:Sub.S}(h:Sub.Fit (shape W) s){k i:Nat}(hk:Sub.keeps s k i=true):k<W.length/\i<bH W k:=by
 have h1:=Sub.lQ hk;rw[h.1,qO] at h1;rw[h.2,jY] at h1;exact h1
theorem adp(x:bD)(W:bK)(s:Sub.S):(iW x W s).length=W.length:=by unfold iW;rw[oD]
theorem adq{x:bD}{W:bK}{s t:Sub.S}(hf:xo x W)(hs:Sub.Fit (shape W) s)(hv:Sub.valid (wrong (bT x) W) s=true)(ht:Sub.Fit (shape (iW x W s)) t):
  Sub.valid (wrong (bT x) (iW x W s)) t=true↔Sub.valid (wrong (bT x) W) (lift s t)=true:=by
 rw[Sub.fW,Sub.fW];constructor
 ·intro h k i hki
  have h2:=hki;rw[tj,zBa] at h2;obtain⟨hk,hi⟩:=vJ hs h2.1;have h3:=adY (t:=t) hf hv hk (KE h2.1 hi);rw[adn h2.1 hi] at h3;rw[<-h3];exact h _ _ h2.2
 ·intro h k a hka
  obtain⟨hk,ha⟩:=vJ ht hka;rw[adp] at hk;rw[Mb hk] at ha;rw[adY hf hv hk ha];obtain⟨o1,o2,o3⟩:=yN ha;refine h _ _ ?_;rw[tj,o1,o2,hka];rfl
def adr(W:bK)(s u:Sub.S):Sub.S:=(List.range W.length).map fun k=>(List.range (dK s k (bH W k))).map fun a=>Sub.keeps u k (qm s k (bH W k) a)
theorem adw(x:bD)(W:bK)(s u:Sub.S):Sub.Fit (shape (iW x W s)) (adr W s u):=by
 refine⟨by rw[qO,adp];simp[adr],fun k=>?_⟩;rw[jY];by_cases hk:k<W.length
 ·rw[Mb hk]
  unfold adr;rw[Sub.aR (by simpa using hk)];simp
 ·have h1:bH (iW x W s) k=0:=by
   unfold bH
   rw[Sub.gU (by rw[adp];omega)]
   rfl
  rw[h1,Sub.gU (by simp[adr];omega)];rfl
theorem adQ{W:bK}{s u:Sub.S}{k a:Nat}(hk:k<W.length)(ha:a<dK s k (bH W k)):Sub.keeps (adr W s u) k a=Sub.keeps u k (qm s k (bH W k) a):=by
 have h1:(adr W s u).getD k []=(List.range (dK s k (bH W k))).map fun a=>Sub.keeps u k (qm s k (bH W k) a):=by
  unfold adr;rw[Sub.aR (by simpa using hk)];simp only[List.getElem_map,List.getElem_range]
 show ((adr W s u).getD k []).getD a false=_
 rw[h1,Sub.aR (by simpa using ha)];simp only[List.getElem_map,List.getElem_range]
theorem adB{W:bK}{s u:Sub.S}(hs:Sub.Fit (shape W) s)(hu:Sub.Fit (shape W) u)(h:Sub.le u s):lift s (adr W s u)=u:=by
 refine Sub.ext (adF hs _) hu fun k i=>?_;rw[tj];cases e:Sub.keeps s k i
 ·cases e2:Sub.keeps u k i
  ·rfl
  ·rw[h _ _ e2] at e;cases e
 ·obtain⟨hk,hi⟩:=vJ hs e
  rw[Bool.true_and,adQ hk (KE e hi),adn e hi]
theorem adZ{x:bD}{W:bK}{s t:Sub.S}(ht:Sub.Fit (shape (iW x W s)) t):adr W s (lift s t)=t:=by
 refine Sub.ext (adw x W s _) ht fun k a=>?_;by_cases g:k<W.length/\a<dK s k (bH W k)
 ·obtain⟨o1,o2,o3⟩:=yN g.2
  rw[adQ g.1 g.2,tj,o1,o2,Bool.true_and]
 ·have h1:∀v,Sub.Fit (shape (iW x W s)) v->Sub.keeps v k a=false:=fun v hv=>by
   cases e:Sub.keeps v k a
   ·rfl
   ·obtain⟨a1,a2⟩:=vJ hv e
    rw[adp] at a1;rw[Mb a1] at a2;exact absurd ⟨a1,a2⟩ g
  rw[h1 _ (adw x W s _),h1 _ ht]
theorem vM{α β:Type}{f:α->β}{l:List α}(hi:∀a∈l,∀b∈l,f a=f b->a=b)(h:l.Nodup):(l.map f).Nodup:=by
 induction l with
 |nil=>exact List.nodup_nil
 |cons a l ih=>
  rw[List.nodup_cons] at h
  rw[List.map_cons,List.nodup_cons]
  refine⟨fun hm=>?_,ih (fun c hc d hd=>hi c (by simp[hc]) d (by simp[hd])) h.2⟩
  obtain⟨b,hb,e⟩:=List.mem_map.1 hm
  have:=hi b (by simp[hb]) a (by simp) e
  rw[this] at hb
  exact h.1 hb
theorem aek{x:bD}{W:bK}{s:Sub.S}(hf:xo x W)(hs:Sub.Fit (shape W) s)(hv:Sub.valid (wrong (bT x) W) s=true){l m:List Sub.S}(hl:l.Nodup)(hm:m.Nodup)
  (h1:∀u,u∈l↔Sub.Fit (shape W) u/\Sub.valid (wrong (bT x) W) u=true/\Sub.le u s)(h2:∀t,t∈m↔Sub.Fit (shape (iW x W s)) t/\Sub.valid (wrong (bT x) (iW x W s)) t=true):l.length=m.length:=by
 refine Nat.le_antisymm ?_ ?_
 ·have:=Sub.length_le_of_subset (l:=l.map (adr W s)) (m:=m) (vM (fun a ha b hb e=>by
   have ha':=(h1 a).1 ha
   have hb':=(h1 b).1 hb
   rw[<-adB hs ha'.1 ha'.2.2,<-adB hs hb'.1 hb'.2.2,e]) hl) (fun t ht=>by
   obtain⟨u,hu,rfl⟩:=List.mem_map.1 ht
   have hu':=(h1 u).1 hu
   refine(h2 _).2 ⟨adw x W s u,(adq hf hs hv (adw x W s u)).2 ?_⟩
   rw[adB hs hu'.1 hu'.2.2]
   exact hu'.2.1)
  rwa [zLm] at this
 ·have:=Sub.length_le_of_subset (l:=m.map (lift s)) (m:=l) (vM (fun a ha b hb e=>by
   have ha':=(h2 a).1 ha
   have hb':=(h2 b).1 hb
   rw[<-adZ ha'.1,<-adZ hb'.1,e]) hm) (fun t ht=>by
   obtain⟨u,hu,rfl⟩:=List.mem_map.1 ht
   have hu':=(h2 u).1 hu
   exact(h1 _).2 ⟨adF hs u,(adq hf hs hv hu'.1).1 hu'.2,aew s u⟩)
  rwa [zLm] at this
def Ac(W:bK):Sub.S:=W.map fun l=>List.replicate l.length true
theorem Ja(W:bK)(k i:Nat):Sub.keeps (Ac W) k i=decide (i<bH W k):=by
 unfold Sub.keeps Ac bH;rw[zGd (l:=W.map _),List.getElem?_map,zGd (l:=W)];cases W[k]? with
 |none=>simp
 |some l=>
  simp only[Option.map_some,zOg]
  by_cases h:i<l.length
  ·rw[Sub.aR (by simpa using h)];simp[h]
  ·rw[Sub.gU (by simp;omega)];simp[h]
theorem iX(W:bK):Sub.Fit (shape W) (Ac W):=by
 refine⟨by simp[Ac,shape],fun k=>?_⟩;rw[jY];unfold Ac bH;rw[zGd,List.getElem?_map,zGd];cases W[k]? with
 |none=>rfl
 |some l=>simp
theorem TI{W:bK}{s:Sub.S}(h:Sub.Fit (shape W) s):Sub.le s (Ac W):=fun k i hk=>by
 rw[Ja];exact decide_eq_true (vJ h hk).2
theorem ad2{x:bD}{W:bK}{s:Sub.S}(hs:Sub.Fit (shape W) s):lift s (Ac (iW x W s))=s:=by
 refine Sub.ext (adF hs _) hs fun k i=>?_;rw[tj];cases e:Sub.keeps s k i
 ·rfl
 ·obtain⟨hk,hi⟩:=vJ hs e
  rw[Bool.true_and,Ja,Mb hk];exact decide_eq_true (KE e hi)
theorem aeD{x:bD}{W:bK}{s t:Sub.S}(ht:Sub.Fit (shape (iW x W s)) t)(hne:t≠Ac (iW x W s)):Sub.size (lift s t)<Sub.size s:=by
 obtain⟨k,a,h1,h2⟩:=Sub.ou ht (iX _) (TI ht) hne;obtain⟨hk,ha⟩:=vJ (iX _) h1;rw[adp] at hk;rw[Mb hk] at ha;obtain⟨o1,o2,o3⟩:=yN ha;refine Sub.tK (aew s t) o2 ?_;rw[tj,o1,h2,Bool.and_false]
theorem Ad{α:Type}[DecidableEq α]:∀(n:Nat) (l:List (List Bool)),l.Nodup->(∀x∈l,x.length=n)->l.length<=2 ^ n
 |0,l,hn,h=>by
  have:=Sub.length_le_of_subset (m:=[[]]) hn (fun x hx=>by
   have:=h x hx;simp[List.eq_nil_of_length_eq_zero this])
  simpa using this
 |n+1,l,hn,h=>by
  have h0:=Ad (α:=α) n ((l.filter fun x=>x.headD false).map List.tail) (vM (fun a ha b hb e=>by
   rw[List.mem_filter] at ha hb;have h1:=h a ha.1;have h2:=h b hb.1;cases a<;>cases b<;>simp_all) (hn.filter _)) (fun x hx=>by
   obtain⟨y,hy,rfl⟩:=List.mem_map.1 hx;rw[List.mem_filter] at hy;rw[List.length_tail,h y hy.1];rfl)
  have h1:=Ad (α:=α) n ((l.filter fun x=> !x.headD false).map List.tail) (vM (fun a ha b hb e=>by
   rw[List.mem_filter] at ha hb;have h1:=h a ha.1;have h2:=h b hb.1;cases a<;>cases b<;>simp_all) (hn.filter _)) (fun x hx=>by
   obtain⟨y,hy,rfl⟩:=List.mem_map.1 hx;rw[List.mem_filter] at hy;rw[List.length_tail,h y hy.1];rfl)
  rw[zLm] at h0 h1
  have h2:∀m:List (List Bool),m.length=(m.filter fun x=>x.headD false).length+(m.filter fun x=> !x.headD false).length:=fun m=>by
   induction m with
   |nil=>rfl
   |cons a m ih=>
    rw[List.filter_cons,List.filter_cons,List.length_cons]
    cases a.headD false
    ·simp only[Bool.not_false,if_true,Bool.false_eq_true,if_false,List.length_cons];omega
    ·simp only[Bool.not_true,if_true,Bool.false_eq_true,if_false,List.length_cons];omega
  have h3:=h2 l;rw[Nat.pow_succ];omega
theorem Ae:∀{sh:List Nat} {s t:Sub.S},s.map List.length=sh->t.map List.length=sh->s.flatten=t.flatten->s=t
 |[],s,t,hs,ht,_=>by
  have h1:s=[]:=by simpa using hs
  have h2:t=[]:=by simpa using ht
  rw[h1,h2]
 |n::sh,[],_,hs,_,_=>by simp at hs
 |n::sh,_::_,[],_,ht,_=>by simp at ht
 |n::sh,a::s,b::t,hs,ht,h=>by
  simp only[List.map_cons,List.cons.injEq] at hs ht;rw[List.flatten_cons,List.flatten_cons] at h;have h1:=List.append_inj h (by omega);rw[h1.1,Ae hs.2 ht.2 h1.2]
theorem ja{W:bK}{s:Sub.S}(h:Sub.Fit (shape W) s):s.map List.length=shape W:=by
 have:=of_decide_eq_true (zC h);exact this.symm
theorem KF{W:bK}{l:List Sub.S}(hn:l.Nodup)(h:∀s∈l,Sub.Fit (shape W) s):l.length<=2 ^ ah.total W:=by
 have:=Ad (α:=Nat) (ah.total W) (l.map List.flatten) (vM (fun a ha b hb e=>Ae (ja (h a ha)) (ja (h b hb)) e) hn) (fun x hx=>by
  obtain⟨s,hs,rfl⟩:=List.mem_map.1 hx;rw[List.length_flatten,ja (h s hs)];rfl)
 rwa [zLm] at this
end Go.Proofs.YtobgljfnfpolkaaGreatDoor.aF
namespace Go.Proofs.YtobgljfnfpolkaaGreatDoor.aF
open ah (bK bD)
abbrev wr(x:bD)(W:bK):Sub.S->Nat->Nat->Bool:=wrong (bT x) W
structure iD(x:bD)(W:bK)(l:List Sub.S):Prop where
 sorted:Sub.Sorted (shape W) l
 mem:∀t,t∈l↔Sub.Fit (shape W) t/\Sub.valid (wr x W) t=true
theorem iD.nodup{x:bD}{W:bK}{l:List Sub.S}(h:iD x W l):l.Nodup:=Sub.DF h.sorted
theorem iD.le{x:bD}{W:bK}{l:List Sub.S}(h:iD x W l):l.length<=2 ^ ah.total W:=KF h.nodup fun s hs=>((h.mem s).1 hs).1
def uD(W:bK):Sub.S:=W.map fun l=>List.replicate l.length false
theorem Af(W:bK)(k i:Nat):Sub.keeps (uD W) k i=false:=by
 unfold Sub.keeps uD;rw[zGd (l:=W.map _),List.getElem?_map];cases W[k]? with
 |none=>simp
 |some l=>
  simp only[Option.map_some,zOg]
  by_cases h:i<l.length
  ·rw[Sub.aR (by simpa using h)];simp
  ·rw[Sub.gU (by simp;omega)]
theorem FD(W:bK):Sub.Fit (shape W) (uD W):=by
 refine⟨by simp[uD,shape],fun k=>?_⟩;rw[jY];unfold uD bH;rw[zGd,List.getElem?_map,zGd];cases W[k]? with
 |none=>rfl
 |some l=>simp
theorem Ag(x:bD)(W:bK):Sub.valid (wr x W) (uD W)=true:=Sub.fW.2 fun k i h=>by rw[Af] at h;cases h
theorem iD.ne{x:bD}{W:bK}{l:List Sub.S}(h:iD x W l):0<l.length:=List.length_pos_of_mem ((h.mem _).2 ⟨FD W,Ag x W⟩)
theorem vQ{sh:List Nat}{l:List Sub.S}(h:Sub.Sorted sh l){i j:Nat}(hi:i<l.length)(hj:j<l.length)(hij:i<j):Sub.less sh l[i] l[j]=true:=List.pairwise_iff_getElem.1 h i j hi hj hij
def bP(x:bD)(W:bK):Sub.S:=Sub.great (wr x W) (Ac W)
theorem jZ(x:bD)(W:bK):Sub.Fit (shape W) (bP x W):=Sub.nD (iX W)
theorem oF(x:bD)(W:bK):Sub.valid (wr x W) (bP x W)=true:=Sub.kF (iX W)
theorem C5{x:bD}{W:bK}{t:Sub.S}(hf:Sub.Fit (shape W) t)(hv:Sub.valid (wr x W) t=true):Sub.le t (bP x W):=Sub.Cr (r9 _ _) hv (TI hf)
def jI(x:bD)(W:bK)(p:List Vm.Ins)(n:Int)(s:Sub.S):Int:=if (Vm.jK x (iW x W s) p n).2.2=0 then (Vm.jK x (iW x W s) p n).1 else -1
def j4(f:Sub.S->Int)(c:Int)(l:List Sub.S):Option Nat:=l.findIdx? fun s=>decide (f s=c)
theorem FE{f:Sub.S->Int}{c:Int}{l:List Sub.S}{n:Nat}(h:j4 f c l=some n):∃hn:n<l.length,f l[n]=c/\∀j (hj:j<n),f (l[j]'(by omega))≠c:=by
 unfold j4 at h;rw[List.findIdx?_eq_some_iff_getElem] at h;obtain⟨hn,h1,h2⟩:=h;refine⟨hn,of_decide_eq_true h1,fun j hj=>?_⟩;have:=h2 j hj;simpa using this
theorem adR{f:Sub.S->Int}{c:Int}{l:List Sub.S}(h:j4 f c l=none):∀s∈l,f s≠c:=by
 unfold j4 at h;rw[List.findIdx?_eq_none_iff] at h;intro s hs;simpa using h s hs
theorem Mf{f:Sub.S->Int}{c:Int}{l:List Sub.S}{n:Nat}(hn:n<l.length)(h1:f l[n]=c)(h2:∀j (hj:j<n),f (l[j]'(by omega))≠c):j4 f c l=some n:=by
 unfold j4;rw[List.findIdx?_eq_some_iff_getElem];exact⟨hn,by simpa using h1,fun j hj=>by simpa using h2 j hj⟩
end Go.Proofs.YtobgljfnfpolkaaGreatDoor.aF
namespace Go.Proofs.YtobgljfnfpolkaaGreatDoor.aF
open ah (bK bD)
def oQ(W:Sub.S->Nat->Nat->Bool)(f:Sub.S->Int)(c:Int):Nat->Sub.S->Nat->Sub.S×Nat
 |0,s,r=>(s,r+(Sub.kept s).length)
 |n+1,s,r=>match (Sub.kept s).findIdx? (fun x=>decide (f (Sub.without W s x.1 x.2)=c)) with
  |some i=>oQ W f c n (Sub.without W s ((Sub.kept s).getD i (0,0)).1 ((Sub.kept s).getD i (0,0)).2) (r+i+1)
  |none=>(s,r+(Sub.kept s).length)
theorem Jc(W:Sub.S->Nat->Nat->Bool)(s:Sub.S)(k i:Nat):Sub.le (Sub.without W s k i) s:=(Sub.tM W _).trans (Sub.yG s k i)
theorem Jd{W:Sub.S->Nat->Nat->Bool}{s:Sub.S}{k i:Nat}(h:Sub.keeps s k i=true):Sub.size (Sub.without W s k i)<Sub.size s:=
 Sub.tK (Jc W s k i) h (by
  cases e:Sub.keeps (Sub.without W s k i) k i
  ·rfl
  ·have:=Sub.tM W (Sub.drop s k i) k i e
   rw[Sub.fK] at this;simp at this)
structure aeH(W:Sub.S->Nat->Nat->Bool)(sh:List Nat)(g:Sub.S)(f:Sub.S->Int)(c:Int)(r:Sub.S×Nat):Prop where
 fit:Sub.Fit sh r.1
 valid:Sub.valid W r.1=true
 le:Sub.le r.1 g
 code:f r.1=c
 runs:1+Sub.size r.1<=r.2
 rest:∀x∈Sub.kept r.1,f (Sub.without W r.1 x.1 x.2)≠c
theorem aef{W:Sub.S->Nat->Nat->Bool}{sh:List Nat}{g:Sub.S}{f:Sub.S->Int}{c:Int}:∀(n:Nat) (s:Sub.S) (r:Nat),Sub.Fit sh s->Sub.valid W s=true->Sub.le s g->f s=c->1<=r->Sub.size s<=n->aeH W sh g f c (oQ W f c n s r)
 |0,s,r,h1,h2,h3,h4,h5,h6=>by
  have h0:Sub.kept s=[]:=List.eq_nil_of_length_eq_zero (by unfold Sub.size at h6;omega);unfold oQ;refine⟨h1,h2,h3,h4,by show 1+(Sub.kept s).length<=r+(Sub.kept s).length;omega,fun x hx=>?_⟩;simp only at hx;rw[h0] at hx;simp at hx
 |n+1,s,r,h1,h2,h3,h4,h5,h6=>by
  unfold oQ;split
  ·rename_i i hi
   rw[List.findIdx?_eq_some_iff_getElem] at hi;obtain⟨hn,g1, -⟩:=hi;rw[Sub.aR hn];have hk:Sub.keeps s (Sub.kept s)[i].1 (Sub.kept s)[i].2=true:=Sub.cO.1 (zGm hn);have hl:=Jd (W:=W) hk;exact aef n _ _ (Sub.nD (Sub.iU h1 _ _)) (Sub.kF (Sub.iU h1 _ _)) ((Jc W s _ _).trans h3) (of_decide_eq_true g1) (by omega) (by omega)
  ·rename_i hi
   rw[List.findIdx?_eq_none_iff] at hi;exact⟨h1,h2,h3,h4,by show 1+(Sub.kept s).length<=r+(Sub.kept s).length;omega,fun x hx=>by simpa using hi x hx⟩
end Go.Proofs.YtobgljfnfpolkaaGreatDoor.aF
namespace Go.Proofs.YtobgljfnfpolkaaGreatDoor
open Go.RowKit
theorem gD.inner{α:Type}{RR:(Nat->Prop)->World->Value->α->Prop}(hR:dH RR){e:TypeId}{S:Nat->Prop}{w:World}{v:Value}{xs:List α}(h:gD RR e S w v xs){j:Nat}(hj:j<xs.length):
  ∃(u:Value) (Sj:Nat->Prop) (g cap:Nat),v=.slice (some ⟨g,0,none⟩) xs.length cap/\w.cell? ⟨g,j,none⟩=some u/\RR Sj w u xs[j]/\(∀b,Sj b->S b)/\¬Sj g/\S g/\
   ∀w' x',RR Sj w' u x'->aA (fun b=>S b/\¬Sj b) w w'->gD RR e S w' v (xs.set j x'):=by
 obtain⟨h1,us,Z,h2,h3,h4⟩:=h;have h2':=h2;obtain⟨q1,q2⟩:=h2';simp only[Nat.mul_one] at q1;rcases q2 with⟨rfl,h0⟩|⟨g,cap,cur,rfl,hb,hg,hn,hc,hs,ht⟩
 ·omega
 simp only[Nat.mul_one] at hs ht;have ZB:j<us.length:=by omega
 refine⟨us[j],fun b=>S b/\some b≠(Value.slice (some ⟨g,0,none⟩) xs.length cap).ownBlock/\Z b=j,g,cap,rfl,?_,h4 j ZB hj,fun b hb=>hb.1,fun hb=>hb.2.1 rfl,h1 g rfl,fun w' x' hx hk=>⟨h1,us,Z,?_,by simpa using h3,fun j' g1 g2=>?_⟩⟩
 ·rw[cell_of_row w g j cur e (0,0) hg]
  have h3':us[j]?=some us[j]:=zEg ZB;rw[<-h3',<-ht,List.getElem?_take,if_pos (by omega)];simp
 ·have:=cC (S:=fun b=>S b/\some b=(Value.slice (some ⟨g,0,none⟩) xs.length cap).ownBlock) h2 (fun b hb=>⟨h1 b hb,hb.symm⟩) (fun b hb hlt=>hk b ⟨hb.1,fun h=>h.2.1 hb.2⟩ hlt)
  simpa using this
 ·by_cases e':j'=j
  ·subst e'
   simp only[List.getElem_set_self];exact hx
  ·rw[List.getElem_set_ne (fun h=>e' h.symm)]
   refine hR.keep (h4 j' g1 (by simpa using g2)) (fun b hb hlt=>hk b ⟨hb.1,fun h=>e' (hb.2.2.symm.trans h.2.2)⟩ hlt)
section
variable {P:Program} {ops:Array Oper} {md:Region.Mode} {lp n:Nat}
theorem j9{f:FuncId}{args:Array Value}{w:World}{R:Ending->World->Prop}:CallsIn (Fence.wide.inRound lp) n P f args w R↔Calls P f args w R:=callsIn_wide (n:=n)
def qP:Op->Bool
 | .defer .. =>false
 |_=>true
theorem abE{o:Oper}{a:Act}{w:World}{K K2:Act->World->Prop}{Q2:Exit->Act->World->Prop}(hd:qP o.op=true)(h:o.wp P a w K (QN K2)):o.wpIn (Fence.wide.inRound lp) n P a w K Q2:=by
 have hs:Oper.semAt (Fence.wide.inRound lp).round a.eval o=execOp a.eval o:=Oper.semAt_eq _ _ _ (fun c e=>by rw[e] at hd;simp[qP] at hd);unfold Oper.wpIn;refine⟨fun _ _=>trivial,?_⟩;rw[hs];unfold Oper.wp at h;generalize (execOp a.eval o).run P w=r at*;cases r with
 |ok x w'=>
  cases x with
  |value v=>exact h
  |skip=>exact h
  |defer d=>exact h
  |enter f args=>
   refine⟨fun h=>by simp[Fence.wide] at h,j9.2 (Calls.mono h ?_)⟩
   intro e w'' he
   cases e with
   |returned v=>exact he
   |panicked c=>exact he.elim
   |outgrown=>exact absurd he ig
  |row row args=>
   refine⟨fun h=>by simp[Fence.wide] at h,fun c cs _=>?_⟩
   obtain⟨v,w2,h1,h2⟩:=h c cs
   exact⟨v,w2,h1,stepsIn_wide.2 h2⟩
  |_=>exact h.elim
 |halt x w'=>
  cases x<;>first|exact h.elim|exact(show False from h).elim
theorem Ym{i:Nat}{a:Act}{w:World}{K K' K2:Act->World->Prop}{Q2:Exit->Act->World->Prop}(hd:∀o,ops[i]?=some o->qP o.op=true)(hK:∀a w,K a w->K' a w)(h:wpOp P ops (QN K2) i K a w):wpOpIn (Fence.wide.inRound lp) n P ops Q2 i K' a w:=by
 refine wpOpIn_mono hK ?_;unfold wpOp at h;unfold wpOpIn;split
 ·rename_i ho;simp only[ho] at h;exact h
 ·rename_i o ho
  simp only[ho] at h;split
  ·rename_i hw
   rw[if_pos hw] at h;rcases h with h|⟨_,h⟩
   ·exact abE (hd o ho) h
   ·exact absurd h ig
  ·rename_i hw
   rw[if_neg hw] at h;exact⟨fun _ _=>trivial,h⟩
theorem Qb{K2:Act->World->Prop}{Q2:Exit->Act->World->Prop}(hd:∀(i:Nat) (o:Oper),ops[i]?=some o->qP o.op=true)(hK:∀a w,K2 a w->Q2 .normal a w):∀(f:Nat) (listed:Array Bool) (a:Act) (w:World),
  wpAny P md ops (QN K2) f listed a w->wpAnyIn (Fence.wide.inRound lp) n P md ops Q2 f listed a w
 |0,_,_,_,h=>⟨h.1,hK _ _ h.2⟩
 |f+1,_listed,_a,_w,h=>⟨fun h0=>hK _ _ (h.1 h0),fun i hi=>Ym (hd i) (fun a w h=>Qb hd hK f _ a w h) (h.2 i hi)⟩
def Region.Je(ops:Array Oper):Bool:=ops.all fun o=>qP o.op
theorem Region.Jf{ops:Array Oper}(h:Region.Je ops=true):∀(i:Nat) (o:Oper),ops[i]?=some o->qP o.op=true:=by
 intro i o ho;unfold Region.Je at h;obtain⟨hlt,e⟩:=Array.getElem?_eq_some_iff.1 ho;rw[<-e];exact Array.all_eq_true.1 h i hlt
end
end Go.Proofs.YtobgljfnfpolkaaGreatDoor
namespace Go.Proofs.YtobgljfnfpolkaaGreatDoor
open Go.RowKit
def Marks(n0 nB:Nat)(ds:List Deferred)(w:World):Prop:=
 ∃Ds:List Nat,ds=Ds.map (fun D=>{target:=.collected D,args:=#[]})/\Ds.Nodup/\∀D∈Ds,n0<=D/\D<nB/\w.heap[D]?=some (.deferred (some []))
theorem Marks.nil(n0 nB:Nat)(w:World):Marks n0 nB [] w:=⟨[],rfl,List.nodup_nil,fun D h=>absurd h (by simp)⟩
theorem Marks.mono{n0 nB nB':Nat}{ds:List Deferred}{w:World}(h:Marks n0 nB ds w)(hn:nB<=nB'):Marks n0 nB' ds w:=by
 obtain⟨Ds,h1,h2,h3⟩:=h;exact⟨Ds,h1,h2,fun D hD=>⟨(h3 D hD).1,zLl (h3 D hD).2.1 hn,(h3 D hD).2.2⟩⟩
theorem Marks.turn{A:Nat->Obj->Prop}{n0 n1 nB:Nat}{ds:List Deferred}{w w':World}(h:Marks n0 nB ds w)(ht:aJ A n1 w w')(hA:∀b o,b<nB->A b o->¬book o):Marks n0 nB ds w':=by
 obtain⟨Ds,h1,h2,h3⟩:=h;exact⟨Ds,h1,h2,fun D hD=>⟨(h3 D hD).1,(h3 D hD).2.1,ht.2 _ _ (h3 D hD).2.2 (fun ha=>hA _ _ (h3 D hD).2.1 ha trivial)⟩⟩
theorem Marks.push{n0 nB:Nat}{ds:List Deferred}{w:World}(h:Marks n0 nB ds w){D:Nat}(hD:nB<=D)(hn:n0<=D)(hk:w.heap[D]?=some (.deferred (some []))):
  Marks n0 w.heap.size ({target:=.collected D,args:=#[]}::ds) w:=by
 obtain⟨Ds,h1,h2,h3⟩:=h;have hlt:=(Array.getElem?_eq_some_iff.1 hk).1;refine⟨D::Ds,by rw[h1];rfl,List.nodup_cons.2 ⟨fun hm=>?_,h2⟩,fun E hE=>?_⟩
 ·have:=(h3 D hm).2.1
  omega
 ·rcases zMc.1 hE with rfl|hE
  ·exact⟨hn,hlt,hk⟩
  ·exact⟨(h3 E hE).1,by have:=(h3 E hE).2.1;omega,(h3 E hE).2.2⟩
theorem iY{P:Program}{n n0:Nat}{fn:Func}{tmps:Array Value}{R:Ending->World->Prop}{v:Value}:∀(Ds:List Nat) (w:World),Ds.Nodup->(∀D∈Ds,n0<=D/\w.heap[D]?=some (.deferred (some [])))->
  (∀w',aJ (aS n0) n0 w w'->(results fn tmps).run P w'=.ok v w'/\R (.returned v) w')->LeavesInM Fence.wide n P fn tmps R (Ds.map (fun D=>{target:=.collected D,args:=#[]})) .returning w
 |[],w,_,_,h=>⟨_,(h w (aJ.refl _ _ _)).1,(h w (aJ.refl _ _ _)).2⟩
 |D::Ds,w,hn,hD,h=>by
  obtain⟨hnd,hns⟩:=List.nodup_cons.1 hn;have hk:=(hD D List.mem_cons_self);have ht:aJ (aS n0) n0 w (w.putObj D (.deferred none)):=aJ.putObj _ hk.2 ⟨hk.1,trivial⟩ hk.1;refine⟨by simp,.inl ⟨D,_,rfl,run_takeDeferred hk.2,?_⟩⟩;refine iY Ds _ hns (fun E hE=>⟨(hD E (List.mem_cons_of_mem _ hE)).1,?_⟩) (fun w' h'=>h w' (ht.trans h'));have hne:E≠D:=fun e=>hnd (e▸hE);exact(World.putObj_heap_other hne).trans (hD E (List.mem_cons_of_mem _ hE)).2
theorem iL{P:Program}{n n0:Nat}{fn:Func}{tmps:Array Value}{ds:List Deferred}{w:World}{R:Ending->World->Prop}{v:Value}{nB:Nat}(hm:Marks n0 nB ds w)
  (h:∀w',aJ (aS n0) n0 w w'->(results fn tmps).run P w'=.ok v w'/\R (.returned v) w'):bodyPostM Fence.wide n P fn R .ret {tmps,defers:=ds} w:=by
 obtain⟨Ds,rfl,hnd,hD⟩:=hm;exact iY Ds w hnd (fun D h=>⟨(hD D h).1,(hD D h).2.2⟩) h
def qn{α:Type}(P:Program)(n0 nB gf:Nat)(lb:Array Value)(encs:α->Array Value)(G:List α->α->World->Prop)(bA iA:Nat->Obj->Prop)(S:List α->World->Prop)(w:World):Prop:=
 ∀(l:Nat) (J Jx:List α->World->Prop) (W:World),BL w W->
  (∀pre A B,J pre A->aJ iA n0 A B->J pre B)->(∀pre A B,Jx pre A->aJ iA n0 A B->Jx pre B)->
  (∀pre x W1,J pre W1->G pre x W1->YieldAt Fence.wide 0 P l (encs x) W1 fun e W'=>
   aJ (fun b o=>bA b o\/aS nB b o) n0 W1 W'/\((e=.returned (.bool true)/\J (pre++[x]) W')\/(e=.returned (.bool false)/\Jx (pre++[x]) W')))->
  J [] W->Calls P gf (#[.func (.yield l) #[] #[]]++lb) W fun e W'=>(∃v,e=.returned v)/\((∃xs,S xs W'/\J xs W')\/∃xs,Jx xs W')
def QS{α:Type}(bA:Nat->Obj->Prop)(n0:Nat)(I Ix:List α->World->Prop)(xs:List α)(W:World):Exit->Act->World->Prop
 | .normal,_,W3=>aJ bA n0 W W3/\I xs W3
 | .ret,_,W3=>aJ bA n0 W W3/\Ix xs W3
 |_,_,_=>False
abbrev oR(fn:FuncId)(tmps:Array Value)(ps:Array Tmp)(assign body:Code)(TJ:Nat)(st:LoopState)(pe:Option Code):Loop:=
 {state:=st,pending:=pe,fn,tmps,params:=ps,assign,body,defers:=TJ}
theorem sB{P:Program}{α:Type}{n0 nB:Nat}{ps:Array Tmp}{assign body:Code}{fn:FuncId}{tmps:Array Value}{TJ l gf:Nat}{lb:Array Value}{w W1:World}
  {encs:α->Array Value}(hps:∀x,(encs x).size=ps.size){G:List α->α->World->Prop}{bA iA:Nat->Obj->Prop}{S:List α->World->Prop}(hseq:qn P n0 nB gf lb encs G bA iA S w)
  (hb1:BL w W1)(hL1:W1.heap[l]?=some (.loop (oR fn tmps ps assign body TJ .ready none)))(hlB:nB<=l)(hn:n0<=nB)(Mg:∀b o,iA b o->¬book o)(FH:∀b o,bA b o->¬book o)
  (I Ix:List α->World->Prop)(hI:∀pre A B,I pre A->aJ (fun b o=>iA b o\/aS nB b o) n0 A B->I pre B)(hIx:∀pre A B,Ix pre A->aJ (fun b o=>iA b o\/aS nB b o) n0 A B->Ix pre B)
  (hS:∀xs A B,S xs A->aJ (aS nB) n0 A B->S xs B)
  (E:World->Prop)(hE:∀(A:Nat->Obj->Prop) X Y,(∀b o,A b o->¬book o)->aJ A n0 X Y->E X->E Y)(TK:∀X o,E X->E (X.putObj l o))(h0:I [] W1)(hE0:E W1)
  (jh:∀pre x W,W.heap[l]?=some (.loop (oR fn tmps ps assign body TJ .ready none))->I pre W->G pre x W->assign.wpIn (Fence.wide.inRound l) 0 P (Exit.then (fun a₁ W1=>aJ bA n0 W W1/\∀W2,aJ (aS nB) n0 W1 W2->W2.heap.size=W1.heap.size->(∃r,W2.heap[l]?=some (.loop r))->
    body.wpIn (Fence.wide.inRound l) 0 P (QS bA n0 I Ix (pre++[x]) W2) a₁ W2) (fun _ _ _=>False))
   {tmps:=(ps.zip (encs x)).foldl (fun t (p,v)=>t.setIfInBounds p v) tmps,defers:=[]} W):
  Calls P gf (#[.func (.yield l) #[] #[]]++lb) W1 fun e W2=>(∃v,e=.returned v)/\∃jump W4,(Instr.endLoop l).run P W2=.ok jump W4/\E W4/\
   ((jump=none/\∃xs,S xs W4/\I xs W4)\/(jump=some .ret/\∃xs,Ix xs W4)):=by
 obtain⟨rec,hrec⟩:∃rec:LoopState->Option Code->Loop,rec=oR fn tmps ps assign body TJ:=⟨_,rfl⟩;rw[<-hrec] at hL1
 have uE:∀{A:Nat->Obj->Prop} {X Y:World} {st:LoopState} {pe:Option Code},(∀b o,A b o->¬book o)->aJ A n0 X Y->X.heap[l]?=some (.loop (rec st pe))->Y.heap[l]?=some (.loop (rec st pe)):=
  fun hA ht hl=>ht.2 _ _ hl (fun h=>hA _ _ h trivial)
 have DS:∀{X:World} {o:Obj} (o':Obj),X.heap[l]?=some o->book o->aJ (aS nB) n0 X (X.putObj l o'):=fun o' h hb=>aJ.putObj _ h ⟨hlB,hb⟩ (by omega)
 refine(hseq l (fun pre W=>I pre W/\W.heap[l]?=some (.loop (rec .ready none))/\E W) (fun pre W=>Ix pre W/\W.heap[l]?=some (.loop (rec .done (some .ret)))/\E W) W1 hb1
  (fun pre A B hj ht=>⟨hI _ _ _ hj.1 (ht.mono fun b o h=>.inl h),uE Mg ht hj.2.1,hE _ _ _ Mg ht hj.2.2⟩) (fun pre A B hj ht=>⟨hIx _ _ _ hj.1 (ht.mono fun b o h=>.inl h),uE Mg ht hj.2.1,hE _ _ _ Mg ht hj.2.2⟩) ?_ ⟨h0,hL1,hE0⟩).mono ?_
 ·rintro pre x W ⟨hi,hl,hE1⟩ hG
  have hy:=run_yield (P:=P) (args:=encs x) hl (by rw[hrec];exact hps x);rw[hrec] at hy;refine⟨fn,_,assign,body,hy,roundIn_of_wpIn trivial (wpIn_mono (jh pre x W (by rw[hl,hrec]) hi hG) ?_)⟩;rintro e a1 W2 hp;cases e with
  |normal=>
   obtain⟨ht1,hbody⟩:=hp
   have hl2:=uE FH ht1 hl
   have E4:=hE _ _ _ FH ht1 hE1
   have hlt2:l<W2.heap.size:=(Array.getElem?_eq_some_iff.1 hl2).1
   have hput:aJ (aS nB) n0 W2 (W2.putObj l (.loop (rec .busy none))):=DS _ hl2 trivial
   have hbr:(Instr.beginRound l).run P W2=.ok () (W2.putObj l (.loop (rec .busy none))):=by
    have:=run_beginRound (P:=P) hl2 (by rw[hrec]);rw[hrec] at this ⊢;exact this
   have hl3:(W2.putObj l (.loop (rec .busy none))).heap[l]?=some (.loop (rec .busy none)):=World.putObj_heap_same hlt2
   refine⟨_,hbr,wpIn_mono (hbody _ hput (by simp) ⟨_,hl3⟩) ?_⟩
   rintro e a3 W3 hq
   have fin:∀(I':List α->World->Prop) (hI':∀pre A B,I' pre A->aJ (fun b o=>iA b o\/aS nB b o) n0 A B->I' pre B) (jp:Option Code),aJ bA n0 (W2.putObj l (.loop (rec .busy none))) W3/\I' (pre++[x]) W3->
     (Instr.endRound l jp).run P W3=.ok (.bool jp.isNone) (W3.putObj l (.loop (rec (if jp.isNone then .ready else .done) jp)))/\
     I' (pre++[x]) (W3.putObj l (.loop (rec (if jp.isNone then .ready else .done) jp)))/\
     (W3.putObj l (.loop (rec (if jp.isNone then .ready else .done) jp))).heap[l]?=some (.loop (rec (if jp.isNone then .ready else .done) jp))/\
     E (W3.putObj l (.loop (rec (if jp.isNone then .ready else .done) jp)))/\
     aJ (fun b o=>bA b o\/aS nB b o) n0 W (W3.putObj l (.loop (rec (if jp.isNone then .ready else .done) jp))):=by
    rintro I' hI' jp ⟨ht3,hi3⟩;have hl4:=uE FH ht3 hl3;have OI:l<W3.heap.size:=(Array.getElem?_eq_some_iff.1 hl4).1
    have hend:(Instr.endRound l jp).run P W3=.ok (.bool jp.isNone) (W3.putObj l (.loop (rec (if jp.isNone then .ready else .done) jp))):=by
     have:=run_endRound (P:=P) jp hl4;rw[hrec] at this ⊢;exact this
    have FI:aJ (aS nB) n0 W3 (W3.putObj l (.loop (rec (if jp.isNone then .ready else .done) jp))):=DS _ hl4 trivial
    exact⟨hend,hI' _ _ _ hi3 (FI.mono fun b o h=>.inr h),World.putObj_heap_same OI,TK _ _ (hE _ _ _ FH ht3 (TK _ _ E4)),
     (((ht1.mono fun b o h=>.inl h).trans (hput.mono fun b o h=>.inr h)).trans (ht3.mono fun b o h=>.inl h)).trans (FI.mono fun b o h=>.inr h)⟩
   cases e with
   |normal=>
    obtain⟨h1,h2,h3,h4,h5⟩:=fin I hI none hq
    exact⟨_,_,h1,h5,.inl ⟨rfl,h2,h3,h4⟩⟩
   |ret=>
    obtain⟨h1,h2,h3,h4,h5⟩:=fin Ix hIx (some .ret) hq
    exact⟨_,_,h1,h5,.inr ⟨rfl,h2,h3,h4⟩⟩
   |_=>exact hq.elim
  |_=>exact hp.elim
 ·rintro e W2 ⟨hv,h⟩
  refine⟨hv,?_⟩;rcases h with⟨xs,hSx,hi,hl,E4⟩|⟨xs,hi,hl,E4⟩
  ·have hend:=run_endLoop (P:=P) hl (by rw[hrec];simp)
   have hput:∀o',aJ (aS nB) n0 W2 (W2.putObj l o'):=fun o'=>DS o' hl trivial;exact⟨_,_,hend,TK _ _ E4,.inl ⟨by rw[hrec],xs,hS _ _ _ hSx (hput _),hI _ _ _ hi ((hput _).mono fun b o h=>.inr h)⟩⟩
  ·have hend:=run_endLoop (P:=P) hl (by rw[hrec];simp)
   have hput:∀o',aJ (aS nB) n0 W2 (W2.putObj l o'):=fun o'=>DS o' hl trivial;exact⟨_,_,hend,TK _ _ E4,.inr ⟨by rw[hrec],xs,hIx _ _ _ hi ((hput _).mono fun b o h=>.inr h)⟩⟩
theorem kI{P:Program}{α:Type}{n n0:Nat}{g:Operand}{ps:Array Tmp}{assign body:Code}{Q:Exit->Act->World->Prop}{a:Act}{w:World}
  {gf:Nat}{lb:Array Value}(hg:a.eval g=.func (.func gf) #[] lb)(eg:∀args w,(callFunc gf args).run P w=.ok (.enter gf args) w)
  {encs:α->Array Value}(hps:∀x,(encs x).size=ps.size){G:List α->α->World->Prop}{bA iA:Nat->Obj->Prop}{S:List α->World->Prop}(hseq:qn P n0 w.heap.size gf lb encs G bA iA S w)
  (hn0:n0<=w.heap.size)(Mg:∀b o,iA b o->¬book o)(FH:∀b o,bA b o->¬book o)
  (I Ix:List α->World->Prop)(hI:∀pre A B,I pre A->aJ (fun b o=>iA b o\/aS w.heap.size b o) n0 A B->I pre B)(hIx:∀pre A B,Ix pre A->aJ (fun b o=>iA b o\/aS w.heap.size b o) n0 A B->Ix pre B)
  (hS:∀xs A B,S xs A->aJ (aS w.heap.size) n0 A B->S xs B)(h0:I [] w)
  (jh:∀l pre x W,(∃r,W.heap[l]?=some (.loop r))->I pre W->G pre x W->assign.wpIn (Fence.wide.inRound l) 0 P (Exit.then (fun a₁ W1=>aJ bA n0 W W1/\∀W2,aJ (aS w.heap.size) n0 W1 W2->W2.heap.size=W1.heap.size->(∃r,W2.heap[l]?=some (.loop r))->
    body.wpIn (Fence.wide.inRound l) 0 P (QS bA n0 I Ix (pre++[x]) W2) a₁ W2) (fun _ _ _=>False))
   {tmps:=(ps.zip (encs x)).foldl (fun t (p,v)=>t.setIfInBounds p v) a.tmps,defers:=[]} W)
  (hdone:∀D xs W,w.heap.size<=D->S xs W->I xs W->W.heap[D]?=some (.deferred (some []))->Q .normal {a with defers:={target:=.collected D,args:=#[]}::a.defers} W)
  (hstop:∀D xs W,w.heap.size<=D->Ix xs W->W.heap[D]?=some (.deferred (some []))->Q .ret {a with defers:={target:=.collected D,args:=#[]}::a.defers} W):
  (Code.rangeFunc g ps assign body).wpIn Fence.wide n P Q a w:=by
 refine wpIn_rangeFunc ?_;intro fn hfn;obtain⟨W1,hW1⟩:∃W1,(w.alloc (.deferred (some []))).alloc (.loop (oR fn a.tmps ps assign body w.heap.size .ready none))=W1:=⟨_,rfl⟩
 have hL1:W1.heap[w.heap.size+1]?=some (.loop (oR fn a.tmps ps assign body w.heap.size .ready none)):=by
  rw[<-hW1];have:=zAn (w.alloc (.deferred (some []))) (.loop (oR fn a.tmps ps assign body w.heap.size .ready none));rwa [World.size_alloc] at this
 have hK1:W1.heap[w.heap.size]?=some (.deferred (some [])):=by
  rw[<-hW1];exact(Below.heap_alloc _ _ _ (by simp)).trans (zAn w _)
 have hb1:BL w W1:=by rw[<-hW1];exact((Below.refl _ w).alloc aB _).alloc (by simp) _
 have hI1:I [] W1:=hI _ _ _ h0 (by rw[<-hW1];exact((aJ.refl _ n0 w).alloc hn0 _).alloc hn0 _)
 refine⟨w.heap.size+1,[{target:=.collected w.heap.size,args:=#[]}],W1,{target:=.fn (.func gf) lb,args:=#[.func (.yield (w.heap.size+1)) #[] #[]]},W1,gf,
  #[.func (.yield (w.heap.size+1)) #[] #[]]++lb,W1,?_,?_,fun _ _=>trivial,?_,fun h=>by simp[Fence.wide] at h,?_⟩
 ·rw[<-hW1];exact run_enterLoop_outer _ _ _ _ _
 ·simp only[resolve,hg]
  simp[go_sem]
 ·simp[invoke,go_sem,eg]
 ·rw[callsIn_wide]
  refine(sB (l:=w.heap.size+1) hps hseq hb1 hL1 (by omega) hn0 Mg FH I Ix hI hIx hS (fun W=>W.heap[w.heap.size]?=some (.deferred (some []))) (fun A X Y hA ht h=>ht.2 _ _ h (fun h=>hA _ _ h trivial))
   (fun X o h=>(World.putObj_heap_other (by omega)).trans h) hI1 hK1 (fun pre x W hl=>jh (w.heap.size+1) pre x W ⟨_,hl⟩)).mono ?_
  rintro e W2 ⟨⟨v,rfl⟩,jump,W4,hend,hE,h⟩;refine⟨jump,W4,hend,?_⟩;rcases h with⟨rfl,xs,h1,h2⟩|⟨rfl,xs,h1⟩
  ·exact hdone _ xs _ aB h1 h2 hE
  ·exact wpIn_ret (hstop _ xs _ aB h1 hE)
theorem eX.lW{α:Type}{R:World->Value->α->Prop}{S:Nat->Prop}{w:World}{a:Option Addr}{n cap:Nat}{xs:List α}(h:eX R S w (.slice a n cap) xs){j:Nat}(hj:j<xs.length):
  ∃u,R w u xs[j]/\∀X,aA S w X->X.cell? ⟨aY a,bC a+j,none⟩=some u:=by
 obtain⟨a',cap',hv,h1,h2,h3,h4,h5⟩:=h;cases hv;obtain⟨u,hu,hr⟩:=h5 j hj;refine⟨u,hr,fun X hX=>?_⟩;have hlt:aY a<w.heap.size:=zBl w ⟨aY a,bC a+j,none⟩ hu;have:=hX (aY a) (h4 (by omega)) hlt;unfold World.cell? at hu ⊢;simp only at hu ⊢;rw[this];exact hu
namespace Sub
def gW(s:S)(k:Nat):List (Nat×Nat):=(List.range k).flatMap fun j=>tJ j (s.getD j [])
def kT(k:Nat)(l:List Bool)(i:Nat):List (Nat×Nat):=(List.range i).filterMap fun a=>if l.getD a false then some (k,a) else none
theorem Ah(s:S):gW s 0=[]:=rfl
theorem j5(s:S)(k:Nat):gW s (k+1)=gW s k++tJ k (s.getD k []):=by simp[gW,List.range_succ]
theorem qQ(s:S):gW s s.length=kept s:=rfl
theorem sC(k:Nat)(l:List Bool):kT k l 0=[]:=rfl
theorem lZ(k:Nat)(l:List Bool)(i:Nat):kT k l (i+1)=kT k l i++if l.getD i false=true then [(k,i)] else []:=by
 unfold kT;rw[List.range_succ,List.filterMap_append];congr 1;rw[List.filterMap_cons,List.filterMap_nil];cases l.getD i false<;>rfl
theorem nK(k:Nat)(l:List Bool):kT k l l.length=tJ k l:=rfl
theorem C6(k:Nat)(l:List Bool){i:Nat}:∀{n:Nat},i<=n->kT k l i<+:kT k l n
 |0,h=>by
  obtain rfl:i=0:=by omega
  exact List.prefix_refl _
 |n+1,h=>by
  by_cases e:i=n+1
  ·rw[e];exact List.prefix_refl _
  ·rw[lZ]
   exact(C6 k l (by omega)).trans (List.prefix_append _ _)
theorem C8(s:S){i:Nat}:∀{n:Nat},i<=n->gW s i<+:gW s n
 |0,h=>by
  obtain rfl:i=0:=by omega
  exact List.prefix_refl _
 |n+1,h=>by
  by_cases e:i=n+1
  ·rw[e];exact List.prefix_refl _
  ·rw[j5]
   exact(C8 s (by omega)).trans (List.prefix_append _ _)
theorem Ai{s:S}{k i:Nat}(hk:k<s.length)(hi:i<=(s.getD k []).length):gW s k++kT k (s.getD k []) i<+:kept s:=by
 have h1:gW s (k+1)<+:kept s:=C8 s (by omega);rw[j5] at h1;refine List.IsPrefix.trans ?_ h1;rw[<-nK];exact(List.prefix_append_right_inj _).2 (C6 k _ hi)
end Sub
theorem vR(s:Sub.S)(n0 nB b l:Nat)(v:Value)(S:Nat->Prop)(W0:World)(bA:Nat->Obj->Prop)(Kp:World->Prop)(Yn:∀X Y,Kp X->aJ (fun b o=>bA b o\/aS nB b o) n0 X Y->Kp Y)
  (hK1:∀X,Kp X->X.heap[b]?=some (.cells #[v] 45 (0,0)))(hK2:∀X,Kp X->aA S W0 X)(hs:aP S W0 v s)
  (J Jx:List (Nat×Nat)->World->Prop)(hJ:∀pre X Y,J pre X->aJ (fun _ _=>False) n0 X Y->J pre Y)(W:World)
  (hY:∀pre (x:Nat×Nat) W1,J pre W1->pre++[x]<+:Sub.kept s->YieldAt Fence.wide 0 Tryz.prog l #[.agg #[.int .i64 (x.1:Int),.int .i64 (x.2:Int)]] W1 fun e W'=>
   aJ (fun b o=>bA b o\/aS nB b o) n0 W1 W'/\((e=.returned (.bool true)/\J (pre++[x]) W')\/(e=.returned (.bool false)/\Jx (pre++[x]) W')))
  (hkp:Kp W)(h0:J [] W):
  Calls Tryz.prog 107 #[.func (.yield l) #[] #[],.pointer (some ⟨b,0,none⟩)] W fun e W'=>(∃v,e=.returned v)/\((∃xs,xs=Sub.kept s/\J xs W')\/∃xs,Jx xs W'):=by
 have c0:=(one_cell (hK1 W hkp)).1;obtain⟨a,cap,rfl,hok,hc,hm⟩:=hs.form;have HS:=hid hs;have Yo:=hid (And.intro hkp h0);have HY:=hid hY;have HDJ:=hid (fun pre X m (h:J pre X)=>hJ pre X (X.drewN m) h ((aJ.refl _ _ _).drewN m));have HDK:=hid (fun X m (h:Kp X)=>Yn X (X.drewN m) h ((aJ.refl _ _ _).drewN m));have rG:=hid hK2;have Aj:=hid Yn;clear hY hkp h0 hK1 hK2 hs Yn hJ;rw[<-callsIn_wide (n:=1)];refine callsIn_of_wp Tryz.func107 rfl trivial ?_ rfl;simp only[Tryz.ntmps107,List.size_toArray,List.length_cons,List.length_nil,Nat.reduceAdd,Nat.reduceSub,Array.replicate_succ,Array.replicate_zero,List.push_toArray,List.append_toArray,List.nil_append,List.cons_append];gi_wp2;clear c0;gi_loopw [9] (fun c wr=>∃k:Nat,k<=s.length/\c=.int .i64 k/\Hid (Kp wr/\J (Sub.gW s k) wr)) (fun c _=>s.length-(intOf c).toNat);case atStart=>exact⟨0,by omega,rfl,hid ⟨Yo.out.1,by rw[Sub.Ah];exact Yo.out.2⟩⟩
 case round=>
  obtain⟨k,hk,rfl,HR⟩:=hrel;by_cases hlt:k<s.length
  ·obtain⟨u,hu1,kL⟩:=HS.out.lW hlt
   have x0:=kL wr (rG.out wr HR.out.1);obtain⟨a1,c1,rfl,Yp,hc1,hm1⟩:=hu1.form;have HB:=hid hu1;have HG:Hid (s.getD k []=s[k]):=hid (Sub.aR hlt);have hk0:(0:Int)<=(k:Int):=by omega
   have hk1:(k:Int)<(s.length:Int):=by omega
   clear hu1 kL;obtain⟨nr,sx⟩:=nmE (s[k].length);rw[<-sx] at HB Yp hc1 x0;have Gs:=hid sx;clear sx;gi_wp2;clear x0;generalize LY:wr=Wb at*;gi_loopw [16] (fun c wr=>∃i:Nat,i<=nr/\c=.int .i64 i/\Hid (Kp wr/\J (Sub.gW s k++Sub.kT k s[k] i) wr)) (fun c _=>nr-(intOf c).toNat);case atStart=>exact⟨0,by omega,rfl,hid ⟨HR.out.1,by rw[Sub.sC,List.append_nil];exact HR.out.2⟩⟩
   case round=>
    obtain⟨i,hi,rfl,Jg⟩:=hrel;by_cases hit:i<nr
    ·have hi0:(0:Int)<=(i:Int):=by omega
     have hi1:(i:Int)<(nr:Int):=by omega
     have hik:i<s[k].length:=by have:=Gs.out;omega
     obtain⟨ub,TL,kL⟩:=HB.out.lW hik;obtain rfl:ub=_:=TL;have x0:=kL wr (rG.out wr Jg.out.1);have hsu:=Sub.lZ k s[k] i;rw[Sub.aR hik] at hsu;have hpre:=Sub.Ai (s:=s) (k:=k) (i:=i+1) hlt (by rw[HG.out];omega);rw[HG.out] at hpre;clear kL;generalize s[k][i]=kp at*;cases kp with
     |true=>
      rw[if_pos rfl] at hsu
      rw[hsu,<-List.append_assoc] at hpre
      obtain⟨fn,tmps,assign,body,hyy,hR⟩:=YieldAt.mQ (m':=0) rfl (HY.out _ (k,i) wr Jg.out.2 hpre)
      have Cy:=hid hR
      have TM:=hid hsu
      clear hsu hpre hR
      gi_wp2
      refine(RoundIn.mQ rfl Cy.out).mono ?_
      rintro e W2 ⟨ht2,hres⟩
      have hk2:=Aj.out _ _ Jg.out.1 ht2
      rw[List.append_assoc,<-TM.out] at hres
      rcases hres with⟨rfl,hj2⟩|⟨rfl,hj2⟩
      ·have H2:=hid (And.intro hk2 hj2)
       clear ht2 hk2 hj2 Cy hyy TM;gi_wp2;go_roundw;case rel=>exact⟨i+1,by omega,by go_num,H2⟩
       simp[intOf];omega
      ·have H2:=hid hj2
       clear ht2 hk2 hj2 Cy hyy TM;gi_wp2;refine bodyPost_ret (results_none rfl _ _ _) rfl ?_;exact⟨⟨_,rfl⟩,.inr ⟨_,H2.out⟩⟩
     |false=>
      rw[if_neg (by simp)] at hsu
      have H2:Hid (Kp wr/\J (Sub.gW s k++Sub.kT k s[k] (i+1)) wr):=hid ⟨Jg.out.1,by rw[hsu,List.append_nil];exact Jg.out.2⟩
      clear hsu hpre
      gi_wp2
      refine⟨by simp,?_⟩
      gi_wp2
      go_roundw
      case rel=>exact⟨i+1,by omega,by go_num,H2⟩
      simp[intOf];omega
    ·obtain rfl:nr=i:=by omega
     have H2:Hid (Kp wr/\J (Sub.gW s (k+1)) wr):=hid ⟨Jg.out.1,by
      have:=Jg.out.2
      rw[Sub.j5,HG.out,<-Sub.nK,<-Gs.out]
      exact this⟩
     gi_wp2;go_roundw;case rel=>exact⟨k+1,by omega,by go_num,H2⟩
     simp[intOf];omega
  ·obtain rfl:s.length=k:=by omega
   have H2:=hid HR.out.2;gi_wp2;go_end0;exact⟨⟨_,rfl⟩,.inl ⟨_,rfl,by rw[<-Sub.qQ];exact H2.out⟩⟩
theorem qp(a:Option Addr)(n c:Nat)(w:World):Calls Tryz.prog 67 #[.slice a n c] w fun e w'=>e=.returned (.func (.func 107) #[] #[.pointer (some ⟨w.heap.size,0,none⟩)])/\w'=w.alloc (.cells #[.slice a n c] 45):=by
 go_enter Tryz.func67,Tryz.ntmps67;go_wp2;go_ret;exact⟨rfl,rfl⟩
theorem nL(s:Sub.S)(n0 nB b:Nat)(v:Value)(S:Nat->Prop)(bA:Nat->Obj->Prop)(w:World)(hn0:n0<=w.heap.size)(hs:aP S w v s)
  (hb:w.heap[b]?=some (.cells #[v] 45 (0,0)))(FH:∀o,¬bA b o)(hk:∀X,aJ (fun b o=>bA b o\/aS nB b o) n0 w X->aA S w X):
  qn (α:=Nat×Nat) Tryz.prog n0 nB 107 #[.pointer (some ⟨b,0,none⟩)] (fun x=> #[.agg #[.int .i64 (x.1:Int),.int .i64 (x.2:Int)]]) (fun pre x _=>pre++[x]<+:Sub.kept s) bA (fun _ _=>False) (fun xs _=>xs=Sub.kept s) w:=by
 intro l J Jx W hbW hJ hJx hY h0;refine vR s n0 nB b l v S w bA (fun X=>aJ (fun b o=>bA b o\/aS nB b o) n0 w X) (fun X Y h1 h2=>h1.trans h2) (fun X h=>h.2 _ _ hb ?_) hk hs J Jx hJ W hY (aJ.aM hbW hn0) h0;rintro (h|h)
 ·exact FH _ h
 ·simp[aS,book] at h
theorem FJ(b o j:Nat):(⟨b,o,none⟩:Addr).add j=⟨b,o+j,none⟩:=by
 unfold Addr.add;split
 ·rename_i h;subst h;rfl
 ·rfl
theorem Mh(n:Nat)(hn:n<=1000000)(w:World):Calls Tryz.prog 143 #[.int .u64 1,.int .u64 n] w fun e w'=>e=.returned (.tuple #[.int .u64 0,.int .u64 n])/\w=w':=by
 have hm1:bits .and .u64 1 4294967295=1:=by decide
 have hm0:bits .and .u64 0 4294967295=0:=by decide
 have hmn:bits .and .u64 (n:Int) 4294967295=n:=by
  have h:=bits_and_u64_nat n 4294967295 (by omega) (by omega);have e:n&&&4294967295=n % 4294967296:=Nat.and_two_pow_sub_one_eq_mod n 32;rw[e,Nat.mod_eq_of_lt (by omega)] at h;exact h
 have hd:(n:Int) / 4294967296=0:=by omega
 have hw:IntKind.u64.wrap (n:Int)=n:=by rw[IntKind.wrap_u64];omega
 have hw0:IntKind.u64.wrap 0=0:=by decide
 go_enter Tryz.func143,Tryz.ntmps143;go_wp2;go_ret2;exact⟨rfl,rfl⟩
theorem Qc(n:Nat)(hn:n<=1000000)(w:World):Calls Tryz.prog 108 #[.int .u64 1,.int .u64 n] w fun e w'=>e=.returned (.tuple #[.int .u64 0,.int .u64 n])/\w=w':=by
 go_enter Tryz.func108,Tryz.ntmps108;go_wp2_with (go_at_call 143;refine(Mh n hn _).mono ?_;rintro e w' ⟨rfl,rfl⟩);go_ret2;exact⟨rfl,rfl⟩
def lC(n m:Nat):List Bool:=List.replicate m true++List.replicate (n-m) false
theorem uF(n m:Nat)(h:m<=n):(lC n m).length=n:=by simp[lC];omega
theorem xI(n m c:Nat)(_h:m+c<=n):splice ((lC n m).map Value.bool) m ((List.replicate c true).map Value.bool)=(lC n (m+c)).map Value.bool:=by
 have e1:(lC n m).take m=List.replicate m true:=by unfold lC;simp
 have e2:(lC n m).drop (m+c)=List.replicate (n-(m+c)) false:=by
  unfold lC;rw[List.drop_append,List.drop_of_length_le (by simp)];simp;omega
 unfold splice;rw[<-List.map_take,zLm,List.length_replicate,<-List.map_drop,<-List.map_append,<-List.map_append,e1,e2];congr 1;unfold lC;rw[<-List.append_assoc,List.replicate_append_replicate]
theorem TN(n m i:Nat)(h:i<m)(hm:m<=n):(lC n m)[i]'(by rw[uF n m hm];omega)=true:=by
 unfold lC;rw[zAl (by simpa using h)];simp
theorem Jh(n:Nat)(hn:n<=1000000)(b:Nat)(w:World)(hc:w.cell? ⟨b,0,none⟩=some (.bool true)):
  Calls Tryz.prog 72 #[.slice (some ⟨b,0,none⟩) 1 1,.int .i64 n] w fun e w'=>∃x,e=.returned x/\fZ (w.heap.size<=·) w' x (List.replicate n true)/\BL w w':=by
 have hmk:=fun W=>Hh (P:=Tryz.prog) (t:=94) (e:=4) (b:=1) (by kernel_rfl) (by kernel_rfl) (by omega) n (by omega) W;have HMul:=hid (fun W=>Qc n hn W);have hwn:IntKind.u64.wrap (n:Int)=n:=by rw[IntKind.wrap_u64];omega
 have hn1:(0:Int)<=n:=by omega
 have U3:(n:Int)<=1000000:=by omega
 obtain⟨c0,hc0⟩:=nmE (Nat.min 1 n);have hc1:c0<=1:=by rw[hc0];exact Nat.min_le_left _ _
 have hc2:c0<=n:=by rw[hc0];exact Nat.min_le_right _ _
 have hc3:0<n->1<=c0:=fun h=>by rw[hc0];exact Nat.le_min.2 ⟨aB,h⟩
 obtain⟨cs,hcs⟩:=nmE ((List.replicate c0 true).map Value.bool);have hcl:cs.length=c0:=by rw[hcs];simp
 have HS0:Hid (splice ((lC n 0).map Value.bool) 0 cs=(lC n c0).map Value.bool):=hid (by rw[hcs];have:=xI n 0 c0 (by omega);rwa [Nat.zero_add] at this)
 have UF:Hid (∀j v,cs[j]?=some v->j=0/\Value.bool true=v):=hid (fun j v hj=>by
  have h1:=(List.getElem?_eq_some_iff.1 hj).1;rw[hcs,List.getElem?_map,List.getElem?_replicate,if_pos (by omega)] at hj;exact⟨by omega,by simpa using hj⟩)
 have VJ:Hid (∀v∈cs,v.oneCell'=true):=hid (by rw[hcs];simp[Value.oneCell']);have TQ:=hid hcl;have HC0:=hid hc0;clear hcs hcl hc0;have HG0:=hid (aD (k:=w.heap.size) w (.cells ((List.replicate n (Value.bool false)).toArray) 4) rfl);have hcW:(w.alloc (.cells ((List.replicate n (Value.bool false)).toArray) 4)).cell? ⟨b,0,none⟩=some (.bool true):=cell_later (aj.alloc aB _) hc;have HCW:=hid hcW;have hb0:BL w (w.alloc (.cells ((List.replicate n (Value.bool false)).toArray) 4)):=aj.alloc aB _;have HB0:=hid hb0;have hz:(lC n 0).map Value.bool=(List.replicate n false).map Value.bool:=by simp[lC]
 have HZ:Hid ((List.replicate n (Value.bool false)).toArray=((lC n 0).map Value.bool).toArray):=hid (by rw[hz,List.map_replicate]);clear hcW hb0 hc hz;go_enter Tryz.func72,Tryz.ntmps72;have d1:decide ((n:Int)<0)=false:=decide_eq_false (by omega);have d2:decide (9223372036854775807<(n:Int))=false:=decide_eq_false (by omega);have zH:Hid ((w.alloc (.cells ((List.replicate n (Value.bool false)).toArray) 4)).heap[w.heap.size]?=some (.cells ((lC n 0).map Value.bool).toArray 4 (0,0))):=hid (by rw[HG0.out,HZ.out])
 go_wp2_with (first
  |(go_at_call 108;refine(HMul.out _).mono ?_;rintro e w' ⟨rfl,rfl⟩)
  |(refine wpList_copy_splice (o:=⟨some 33,_,_,_,_,_⟩) rfl (.tmp 31) (.tmp 32) 94 94 rfl 4 (by kernel_rfl) (by kernel_rfl) (some ⟨w.heap.size,0,none⟩) (some ⟨b,0,none⟩) n n 1 1 rfl rfl w.heap.size 0 ((lC n 0).map Value.bool) 4 zH.out cs (by rw[TQ.out,HC0.out]) (fun _=>⟨rfl,_,rfl,fun j v hj=>by
     obtain⟨rfl,rfl⟩:=UF.out j v hj
     exact HCW.out⟩) (by rw[zLm,uF n 0 (Nat.zero_le _),TQ.out];omega) VJ.out w.heap.size w HB0.out aB ?_))
 intro w2 HG2 Dw;have hg2:=HG2.out;rw[HS0.out] at hg2;have BF:(cs.length:Int)=(c0:Int):=by rw[TQ.out]
 rw[BF];have HI:=hid (And.intro hg2 Dw);clear hg2 Dw HG2 hmk HMul HS0 UF VJ TQ HC0 BF;go_wp2;go_loopw [8] (fun c wr=>∃m:Nat,(m<n->1<=m)/\m<=n/\c=.int .i64 m/\Hid (wr.heap[w.heap.size]?=some (.cells ((lC n m).map Value.bool).toArray 4 (0,0))/\BL w wr)) (fun c _=>n-(intOf c).toNat);case atStart=>exact⟨c0,fun h=>hc3 (by omega),hc2,rfl,HI⟩
 case round=>
  obtain⟨m,hm1,hm2,rfl,HM⟩:=hrel;by_cases hlt:m<n
  ·have hlt':(m:Int)<n:=by omega
   have hm0:(0:Int)<=m:=by omega
   obtain⟨c,hc⟩:=nmE (min (n-m) m);obtain⟨cs,hcs⟩:=nmE ((List.replicate c true).map Value.bool);have hcl:cs.length=c:=by rw[hcs];simp
   have HN:Hid (splice ((lC n m).map Value.bool) m cs=(lC n (m+c)).map Value.bool):=hid (by rw[hcs];exact xI n m c (by omega))
   have abF:Hid (∀j v,cs[j]?=some v->wr.cell? ((⟨w.heap.size,0,none⟩:Addr).add j)=some v):=hid (fun j v hj=>by
    rw[hcs,List.getElem?_map,List.getElem?_replicate] at hj
    have hjc:j<c:=by
     by_cases h:j<c
     ·exact h
     ·rw[if_neg h] at hj;simp at hj
    rw[if_pos hjc] at hj;have hv:Value.bool true=v:=by simpa using hj
    rw[<-hv,FJ,cell_of_row _ _ _ _ _ (0,0) HM.out.1];have hl:=uF n m hm2;have h1:=TN n m j (by omega) hm2;simp only[Nat.zero_add,List.getElem?_toArray,List.getElem?_map];rw[zEg (by omega),h1];rfl)
   have hone:∀v∈cs,v.oneCell'=true:=by rw[hcs];simp[Value.oneCell']
   have abG:=hid hone;have HCL:=hid hcl;have ZY:=hid hc;have hc1:m+c<=n:=by omega
   have hc2:1<=c:=by omega
   clear hcs hcl hone hc;go_wp2;refine iw 8 [(true,0),(true,1),(true,2),(true,3),(true,4),(true,5),(true,6),(false,7)] (fun _=>True) mxT (by kernel_rfl) trivial ?_;intro hne;refine ku 7 (by decide) ?_;simp only[List.take_succ_cons,List.take_zero];repeat (go_big_quiet_step (fail))
   refine zWq ?_;refine dY rfl ?_
   refine wpList_copy_splice rfl (.tmp 41) (.tmp 44) 94 94 rfl 4 (by kernel_rfl) (by kernel_rfl) (some ⟨w.heap.size,m,none⟩) (some ⟨w.heap.size,0,none⟩) (n-m) (n-m) m n rfl rfl w.heap.size m ((lC n m).map Value.bool) 4 HM.out.1 cs (by rw[HCL.out,ZY.out];exact Nat.min_comm _ _)
    (fun _=>⟨rfl,_,rfl,fun j v hj=>abF.out j v hj⟩) (by rw[zLm,uF n m hm2,HCL.out];exact hc1) abG.out w.heap.size w (af5 HM.out.2 1) aB ?_
   intro w4 Kv hB4;have hg4:=Kv.out;rw[HN.out] at hg4;have HI4:=hid (And.intro hg4 hB4);have BF:goInt cs.length=.int .i64 (c:Int):=by rw[HCL.out];rfl
   rw[BF];clear hg4 hB4 Kv HM abF abG HN HCL BF;go_wp2;refine pF ⟨dQ.of trivial,?_⟩;refine jw ?_;go_wp2;go_roundw;case rel=>exact⟨m+c,by omega,by omega,by go_num,HI4⟩
   simp[intOf];omega
  ·obtain rfl:m=n:=by omega
   have hfin:(lC m m).map Value.bool=(List.replicate m true).map Value.bool:=by simp[lC]
   have h1:=HM.out.1;rw[hfin] at h1;have hB:=HM.out.2
   have HR:Hid (fZ (w.heap.size<=·) wr (.slice (some ⟨w.heap.size,0,none⟩) m m) (List.replicate m true)):=hid ⟨by
    refine⟨by simp,.inr ⟨w.heap.size,m,_,by simp,Nat.zero_le _,h1,?_,?_,?_,?_⟩⟩
    ·simp
    ·unfold maxLen;omega
    ·simp
    ·simp,fun b' hb'=>by simp[Value.ownBlock] at hb';omega⟩
   have HB:=hid hB;clear hfin h1 hB HM;go_wp2;go_ret;exact⟨_,rfl,HR.out,HB.out⟩
theorem nM(W:ah.bK)(hl:W.length<=1000)(hw:∀r∈W,r.length<=1000000)(v:Value)(T:Nat->Prop)(w:World)(hv:dc T w v W):
  Calls Tryz.prog 36 #[v] w fun e w'=>∃g,e=.returned (.slice (some ⟨g,0,none⟩) W.length W.length)/\gN (w.heap.size<=·) w' (.slice (some ⟨g,0,none⟩) W.length W.length) (iC W)/\BL w w':=by
 obtain⟨uj,cs,rfl,hss, -, -⟩:=hv.form;have HV:=hid hv;have HW:=hid hw;clear hv hw;have hmk:=fun X=>qG (P:=Tryz.prog) (t:=45) (e:=94) (b:=24) (by kernel_rfl) (by kernel_rfl) (by omega) W.length (by omega) X;obtain⟨n,hn⟩:=nmE W.length;rw[<-hn] at hss hmk hl ⊢;have HN:=hid hn;clear hn;go_enter Tryz.func36,Tryz.ntmps36;go_wp2;clear hmk;obtain⟨g0,hg0⟩:=nmE w.heap.size;have HO0:Hid (gN (w.heap.size<=·) (w.alloc (.cells (eC n) 94)) (.slice (some ⟨g0,0,none⟩) n n) (List.replicate n [])):=hid (by rw[hg0];exact CY w _ (by omega));rw[<-hg0];clear hg0;go_loopw [11] (fun kk wr=>∃(k:Nat) (xs:Sub.S),k<=n/\kk=.int .i64 k/\Hid (xs.length=n)/\Hid (∀j,j<k->xs[j]?=(iC W)[j]?)/\Hid (gN (w.heap.size<=·) wr (.slice (some ⟨g0,0,none⟩) n n) xs)/\Hid (BL w wr)) (fun kk _=>n-(intOf kk).toNat);case atStart=>exact⟨0,List.replicate n [],Nat.zero_le _,rfl,hid (by simp),hid (fun j h=>absurd h (by omega)),HO0,hid (aj.alloc aB _)⟩
 case round=>
  obtain⟨k,xs,hk,rfl,HL,HX,HO,HB⟩:=hrel;obtain⟨wo,rfl⟩:=nmE (wr:World);by_cases hlt:k<n
  ·have hk0:(0:Int)<=k:=by omega
   have hk1:(k:Int)<n:=by omega
   have hks:k<W.length:=by rw[<-HN.out];exact hlt
   have hkx:k<xs.length:=by rw[HL.out];exact hlt
   obtain⟨u,hu,hz,hr⟩:=eX.at (by rw[HN.out];exact HV.out.keep (aA.below HB.out):dc T wo (.slice uj n cs) W) hks;obtain⟨ar,cr,rfl, -, -, -⟩:=hr.form;obtain⟨nr,sx⟩:=nmE (W[k].length);have hn6:nr<=1000000:=by rw[sx];exact HW.out _ (zGm hks)
   rw[<-sx] at hu;have VH:Hid ((iC W)[k]?=some (List.replicate nr true)):=hid (by unfold iC;rw[List.getElem?_map,zEg hks,sx];rfl);clear sx;obtain⟨w1,hw1⟩:=nmE (wo.alloc (.cells #[.bool true] 4));have hb1:BL wo w1:=by rw[hw1];exact aj.alloc aB _
   have VG:=hid (Jh nr hn6 wo.heap.size w1 (by rw[hw1];exact(one_cell (aD _ _ rfl)).1));have aW:=hid hb1;have HW1:=hid hw1;clear hw1 hb1;have h1:=HO.out;rw[show (Value.slice (some ⟨g0,0,none⟩) n n)=.slice (some ⟨g0,0,none⟩) xs.length n by rw[HL.out]] at h1;obtain⟨g,R8,uu,TT,e1,e2,e3,Gg,hcg,hfg,Ee,ET, -,hback⟩:=gD.borrow cV h1 k hkx
   have hgg:g0=g:=by
    simp only[Value.slice.injEq,Option.some.injEq,Addr.mk.injEq] at e1;exact e1.1.1
   subst hgg;have OQ:=hid (fun w2 u'=>hback w2 u' (List.replicate nr true));have K8:=hid ET;have R4:=hid Gg;clear e1 e2 e3 Ee ET hback hcg hfg h1 hr Gg;generalize hrr:List.replicate nr true=r at*;have hrl:r.length=nr:=by rw[<-hrr];simp
   have HRl:=hid hrl;clear hrr hrl;go_wp2_with fail;rw[<-HW1.out];refine VG.out.mono ?_;rintro e w2 ⟨x,rfl,hx,hb⟩;obtain⟨ax,cx,rfl, -, -, -⟩:=(fZ.sl hx).form;have hb2:BL wo w2:=tnB aW.out hb;have hz1:=aW.out.size;obtain⟨k1,k2,k3,k4⟩:=OQ.out w2 (.slice ax r.length cx) (Turns.aM hb2) (cV.mono hx (fun b _ (hb:w1.heap.size<=b)=>.inr (show wo.heap.size<=b by omega)))
   have rH:Hid (gN (w.heap.size<=·) (w2.setCell ⟨g0,k,none⟩ (.slice ax r.length cx)) (.slice (some ⟨g0,0,none⟩) n n) (xs.set k r)):=hid (by
    have:=bN.mono k3 (fun b _ hb=>eO HB.out.size b hb)
    rw[HL.out] at this
    exact this)
   have uV:Hid (BL w (w2.setCell ⟨g0,k,none⟩ (.slice ax r.length cx))):=hid (HB.out.trans (k4.below HB.out.size (fun b hb=>by
    rcases hb with hb|hb
    ·exact(K8.out b hb).1
    ·rw[hb];exact R4.out)))
   have HX9:Hid (∀j,j<k+1->(xs.set k r)[j]?=(iC W)[j]?):=hid (fun j hj=>by
    by_cases e:j=k
    ·subst e;rw[List.getElem?_set_self (by omega),VH.out]
    ·rw[List.getElem?_set_ne (by omega)];exact HX.out j (by omega))
   have uo:Hid ((xs.set k r).length=n):=hid (by rw[List.length_set];exact HL.out);have Xh:dG (some ⟨g0,0,none⟩) n:=fun _=>⟨_,_,rfl⟩;clear k3 k4 hx hb hb2 OQ VH HX hkx;go_wp2;go_roundw;case rel=>exact⟨k+1,xs.set k r,by omega,by go_num,uo,HX9,rH,uV⟩
   simp[intOf];omega
  ·obtain rfl:n=k:=by omega
   have HE:Hid (xs=iC W):=hid (List.ext_getElem? (fun j=>by
    by_cases hj:j<n
    ·exact HX.out j hj
    ·rw[List.getElem?_eq_none (by rw[HL.out];omega),List.getElem?_eq_none (by simp only[iC,zLm];rw[<-HN.out];omega)]))
   go_wp2;go_ret;exact⟨g0,rfl,by rw[<-HE.out];exact HO.out,HB.out⟩
end Go.Proofs.YtobgljfnfpolkaaGreatDoor
