/- Part 12 of the walks and plain laws that the proof needs (packed). -/
import Derived.Laws.IdiomStrings
import Derived.Laws.BytesArg
import Derived.StringKeys
import Derived.Test.YtobgljfnfpolkaaGreatDoorQ4
import Derived.Test.YtobgljfnfpolkaaGreatDoorQ5
import Derived.Test.YtobgljfnfpolkaaGreatDoorQ10
import Derived.Test.YtobgljfnfpolkaaGreatDoorQ11
set_option linter.all false
set_option maxRecDepth 100000
set_option maxHeartbeats 8000000
namespace Go.Proofs.YtobgljfnfpolkaaGreatDoor
open Go.RowKit
section
variable {P:Program} {lp n':Nat}
theorem mE{id:Nat}{Q:Exit->Act->World->Prop}{a:Act}{w:World}{l:List Oper}(n:Nat)(s:iM)(φ:World->Prop)(hm:P.follows .mixedOrders=true)(hB:Region.qR .any l.toArray n s=true)(hp:Region.Je l.toArray=true)(hC:φ (w.drewN 1))
  (h:∀K:Act->World->Prop,(∀a' w',Q .normal a' w'->K a' w')->bJ P l.toArray (fun a' w'=>wpList P l.toArray (QN K) (l.drop n) a' w') l s φ a (w.drewN 1)):(Code.region id l.toArray true).wpIn (Fence.wide.inRound lp) n' P Q a w:=by
 have h:=h (fun a' w'=>Q .normal a' w') (fun _ _ h=>h);simp only[Region.qR,zBa,zDt] at hB;obtain⟨⟨⟨⟨hsel,hn⟩,hs⟩,hc⟩,hlex⟩:=hB
 have inv0:HeadInv .any l.toArray n (Array.replicate l.toArray.size false):=
  ⟨by simp,fun j oj _ hl=>(by rw[getD_replicate_false] at hl;cases hl),fun t _ ht=>getD_in (by simpa using ht) (getD_replicate_false _ _)⟩
 have H:=dX (md:=.any) (Lq:=fun a' w'=>wpList P l.toArray (QN fun a' w'=>Q .normal a' w') (l.drop n) a' w') hsel hs hc hn n s φ _ a _ hC inv0 hlex (by simpa using h);refine wpIn_region_any hm (Qb (K2:=fun a w=>Q .normal a w) (Region.Jf hp) (fun _ _ h=>h) _ _ _ _ ?_);have hdl:(l.drop n).length=l.toArray.size-n:=by simp
 have:=fU (Q':=QN fun a' w'=>Q .normal a' w') (g:=l.toArray.size-n) (fun listed a' w' hL=>by
  have:=wpAny_of_seq (md:=.any) (Q':=QN fun a' w'=>Q .normal a' w') (l.drop n) n listed a' w' (fun j=>by simp[List.getElem?_drop]) (by rw[hdl];exact hL.1) hL.2;rwa [hdl] at this) _ _ _ _ H
 rw[show n+(l.toArray.size-n)=l.toArray.size by omega] at this;exact this
end
open aF (tab)
def Au(f:Nat->Nat->Nat->Int)(k i j:Nat)(y:Int):Nat->Nat->Nat->Int:=fun k' i' j'=>if k'=k/\i'=i/\j'=j then y else f k' i' j'
theorem kg{α:Type}(n:Nat)(g:Nat->α)(i:Nat)(y:α):((List.range n).map g).set i y=(List.range n).map fun i'=>if i'=i then y else g i':=by
 refine List.ext_getElem (by simp) fun a h1 h2=>?_;rw[List.getElem_set];simp only[List.getElem_map,List.getElem_range];by_cases e:a=i
 ·rw[if_pos e.symm,if_pos e]
 ·rw[if_neg (fun h=>e h.symm),if_neg e]
theorem Ua{K:Nat}{n m:Nat->Nat}{f:Nat->Nat->Nat->Int}{k i j:Nat}(hk:k<K)(hi:i<n k)(y:Int):
  (tab K n m f).set k (((List.range (n k)).map fun i'=>(List.range (m k)).map fun j'=>f k i' j').set i (((List.range (m k)).map fun j'=>f k i j').set j y))=tab K n m (Au f k i j y):=by
 unfold tab;rw[kg];refine List.map_congr_left fun k' _=>?_;by_cases e:k'=k
 ·subst e
  rw[if_pos rfl,kg];refine List.map_congr_left fun i' _=>?_;by_cases e2:i'=i
  ·subst e2
   rw[if_pos rfl,kg];refine List.map_congr_left fun j' _=>?_;unfold Au;simp
  ·rw[if_neg e2]
   unfold Au;simp[e2]
 ·rw[if_neg e]
  unfold Au;simp[e]
structure ab7(S:Nat->Prop)(X:World)(v:Value)(K:Nat)(n m:Nat->Nat)(f:Nat->Nat->Nat->Int)(k i go co gk ck gi ci:Nat):Prop where
 form:v=.slice (some ⟨go,0,none⟩) K co
 rd:∀X',aA S X X'->X'.cell? ⟨go,k,none⟩=some (.slice (some ⟨gk,0,none⟩) (n k) ck)/\X'.cell? ⟨gk,i,none⟩=some (.slice (some ⟨gi,0,none⟩) (m k) ci)/\
  (∀j,j<m k->X'.cell? ⟨gi,j,none⟩=some (.int .i64 (f k i j))/\X'.frozen? ⟨gi,j,none⟩=false)/\∃o,X'.heap[gi]?=some (.cells o 3 (0,0))
 set:∀X',aA S X X'->∀j,j<m k->∀y,bL S (X'.setCell ⟨gi,j,none⟩ (.int .i64 y)) v (tab K n m (Au f k i j y))
 blk:S gi
 ne1:gi≠go
 ne2:gi≠gk
theorem oG{S:Nat->Prop}{X:World}{v:Value}{K:Nat}{n m:Nat->Nat}{f:Nat->Nat->Nat->Int}(h:bL S X v (tab K n m f)){k i:Nat}(hk:k<K)(hi:i<n k)(hm:0<m k):
  ∃go co gk ck gi ci,ab7 S X v K n m f k i go co gk ck gi ci:=by
 have hkt:k<(tab K n m f).length:=by rw[aF.oD];exact hk
 obtain⟨u,Sk,go,co,e1,h1,h2,h3,h4,h5,h6⟩:=gD.inner fE h hkt;rw[aF.I6] at h2;have hil:i<((List.range (n k)).map fun i=>(List.range (m k)).map fun j=>f k i j).length:=by simpa using hi
 obtain⟨u2,Si,gk,ck,e2,q1,q2,q3,q4,q5,q6⟩:=gD.inner bg h2 hil;have er:((List.range (n k)).map fun i=>(List.range (m k)).map fun j=>f k i j)[i]=(List.range (m k)).map fun j=>f k i j:=by simp
 rw[er] at q2;have hml:((List.range (m k)).map fun j=>f k i j).length=m k:=by simp
 obtain⟨gi,ci,e3,p1,p2,p3,p4⟩:=iF q2.1 (by rw[hml];exact hm);have hlen:((List.range (n k)).map fun i=>(List.range (m k)).map fun j=>f k i j).length=n k:=by simp
 rw[aF.oD] at e1;rw[hlen] at e2;rw[hml] at e3;have Ms:Si gi:=q2.2 gi (by rw[e3];rfl)
 have ab8:∃o,X.heap[gi]?=some (.cells o 3 (0,0)):=by
  rcases q2.1.2 with⟨h0,_⟩|⟨g2,c2,cur,hv2,hb2,hg2,_⟩
  ·rw[e3] at h0;cases h0
  ·have e9:gi=g2:=by
    rw[e3] at hv2
    simp only[Value.slice.injEq,Option.some.injEq,Addr.mk.injEq] at hv2
    exact hv2.1.1
   rw[e9];exact⟨_,hg2⟩
 have VP:Sk gk:=q5;have hgo:S go:=h5;refine⟨go,co,gk,ck,gi,ci,e1,fun X' hX=>?_,fun X' hX j hj y=>?_,h3 _ (q3 _ Ms),fun e=>h4 (e▸q3 _ Ms),fun e=>q4 (e▸Ms)⟩
 ·have k1:X'.heap[go]?=X.heap[go]?:=hX go hgo (zBl X ⟨go,k,none⟩ h1)
  have k2:X'.heap[gk]?=X.heap[gk]?:=hX gk (h3 _ VP) (zBl X ⟨gk,i,none⟩ q1)
  have k3:X'.heap[gi]?=X.heap[gi]?:=by
   obtain⟨o,ho⟩:=ab8;exact hX gi (h3 _ (q3 _ Ms)) (ay ho)
  refine⟨?_,?_,fun j hj=>?_,?_⟩
  ·rw[World.cell?_of_block (w:=X) (a:=⟨go,k,none⟩) k1,h1,e2]
  ·rw[World.cell?_of_block (w:=X) (a:=⟨gk,i,none⟩) k2,q1,e3]
  ·obtain⟨a1,a2⟩:=p4 j (by simpa using hj)
   rw[World.cell?_of_block (w:=X) (a:=⟨gi,j,none⟩) k3,World.frozen?_of_block (w:=X) (a:=⟨gi,j,none⟩) k3];exact⟨by rw[a1];simp,a2⟩
  ·rw[k3];exact ab8
 ·have hI:cF Si (X'.setCell ⟨gi,j,none⟩ (.int .i64 y)) u2 (((List.range (m k)).map fun j=>f k i j).set j y):=by
   have h0:=bg.keep q2 (fun b hb hlt=>hX b (h3 _ (q3 _ hb)) hlt)
   rw[e3] at h0 ⊢
   exact cF.set h0 hml.symm j y
  have hR:=q6 _ _ hI (fun b hb hlt=>(zBh _ _ _ _ (fun e=>hb.2 (by have e':b=gi:=e;rw[e'];exact Ms))).trans (hX b (h3 _ hb.1) hlt));have hW:=h6 _ _ hR (fun b hb hlt=>(zBh _ _ _ _ (fun e=>hb.2 (by have e':b=gi:=e;rw[e'];exact q3 _ Ms))).trans (hX b hb.1 hlt));rw[Ua hk hi y] at hW;exact hW
theorem qw{S:Nat->Prop}{X:World}{v:Value}{K:Nat}{n m:Nat->Nat}{f:Nat->Nat->Nat->Int}(h:bL S X v (tab K n m f)){k:Nat}(hk:k<K):
  ∃go co a c,v=.slice (some ⟨go,0,none⟩) K co/\dG a (n k)/\n k<=c/\c<=9223372036854775807/\∀X',aA S X X'->X'.cell? ⟨go,k,none⟩=some (.slice a (n k) c):=by
 have hkt:k<(tab K n m f).length:=by rw[aF.oD];exact hk
 obtain⟨u,Sk,go,co,e1,h1,h2,h3,h4,h5,h6⟩:=gD.inner fE h hkt;rw[aF.I6] at h2;obtain⟨a,c,e2,q1,q2,q3⟩:=(ko.sl h2).form;have hlen:((List.range (n k)).map fun i=>(List.range (m k)).map fun j=>f k i j).length=n k:=by simp
 rw[hlen] at e2 q1 q2;rw[aF.oD] at e1;refine⟨go,co,a,c,e1,q1,q2,q3,fun X' hX=>?_⟩;have k1:X'.heap[go]?=X.heap[go]?:=hX go h5 (zBl X ⟨go,k,none⟩ h1);rw[World.cell?_of_block (w:=X) (a:=⟨go,k,none⟩) k1,h1,e2]
theorem DY(x:ah.bD)(k j o c:Nat)(hk:k<x.af3.length)(hj:j<(ah.kd x k).af4.length)(ho:ah.eY x k (ah.fd x k j)=(o:Int))(hc:ah.eZ x k (ah.fd x k j)=[(c:Int)])(h6:x.af3.length<=6)(h10:∀k:Nat,(ah.kd x k).af4.length<=10)
  (v:Value)(S:Nat->Prop)(w:World)(hv:eU S w v x):
  Calls Tryz.prog 110 #[v,.int .i64 (k:Int),.int .i64 (j:Int)] w fun e w'=>e=.returned (.tuple #[.int .i64 (o:Int),.int .i64 (c:Int)])/\BL w w':=by
 have ab9:∀q∈x.af3,q.af4.length<=1000:=fun q hq=>by
  obtain⟨i,hi,rfl⟩:=List.getElem_of_mem hq;have:=h10 i;rw[fM hi] at this;omega
 have HB:Hid (ah.hasB x k j=true):=hid (KC (by omega) (by omega) (by omega) (by omega));obtain⟨ak,ck,al,cl,ar,cr,rfl, -⟩:=hv.form;obtain⟨w1,hw1⟩:=nmE (bE w x.af6 (.slice ak x.af3.length ck) (.slice al x.af7.length cl) (.slice ar x.af8.length cr));have aW:=afX hw1;have HX:=afY hw1;unfold bE at hw1;have HW1:=hid hw1;clear hw1;have pT:=hid (lg x k j _ S w1 (hv.keep (aA.below aW.out)));have Iw:=hid (fun(X:World) (hX:BL w X) (uw ug:Value)=>zR x k (by omega) (ah.fd x k j) _ uw ug S X (hv.keep (aA.below hX)) (by omega) ab9);have HE:Hid (jr x k j=ah.fd x k j):=hid (by unfold jr;rw[if_pos HB.out]);have HO:=hid ho;have HC:=hid hc;clear hv ho hc ab9;obtain⟨⟨y0,y1,y2,y3⟩, -⟩:=aO (HX.out w1 aj);go_enter Tryz.func110,Tryz.ntmps110;go_upto_region 1 with fail;rw[<-HW1.out];go_wp2_with fail;refine pT.out.mono ?_;rintro e w2 ⟨a1,n1,c1,a2,n2,c2,rfl, -,hb⟩;rw[HB.out,HE.out];have cU:Hid (BL w1 w2):=hid hb;have bB:=bq aW hb;clear hb y0 y1 y2 y3;generalize ah.fd x k j=f at*;obtain⟨fn,fo,fu,fk,fl,fh,Gj,Gl⟩:=f;unfold bX;simp only;obtain⟨w3,hw3⟩:=nmE (w2.alloc (.cells #[.string fn,.string fo,.string fu,.int .i64 fk,.int .i64 fl,.int .i64 fh,.slice a1 n1 c1,.slice a2 n2 c2] 117));have dD:Hid (Below w1.heap.size w1 w3):=hid (by rw[hw3];exact cU.out.alloc cU.out.size _);have bG:Hid (Below w.heap.size w w3):=hid (by rw[hw3];exact bB.out.alloc bB.out.size _);have Kg:Hid (w3.heap[w2.heap.size]?=some (.cells #[.string fn,.string fo,.string fu,.int .i64 fk,.int .i64 fl,.int .i64 fh,.slice a1 n1 c1,.slice a2 n2 c2] 117 (0,0))):=hid (by rw[hw3];exact aD _ _ rfl);have HW3:=hid hw3;clear hw3;go_upto_region 4 with fail;rw[<-HW3.out];obtain⟨⟨y0,y1,y2,y3⟩, -⟩:=aO (HX.out w3 dD.out);obtain⟨⟨f0,f1,f2,f3,f4,f5,f6,f7⟩, -⟩:=dn Kg.out;go_wp2_with fail;refine(Iw.out w3 bG.out (.slice a1 n1 c1) (.slice a2 n2 c2)).mono ?_;rintro e w4 ⟨a,cap,rfl,hif,hb4⟩;rw[HO.out];rw[HC.out] at hif ⊢;obtain⟨a',cap',ea,hsa, -, -⟩:=hif.sl.form;obtain⟨u0,hu0, -,hu1⟩:=hif.sl.at (j:=0) (by simp);obtain rfl:u0=_:=hu1;simp only[List.getElem_cons_zero] at hu0;have dO:=bq bG hb4;simp only[List.length_cons,List.length_nil,Nat.zero_add] at ea hsa hu0 ⊢;cases ea;rw[Nat.add_zero] at hu0;clear hif hb4 y0 y1 y2 y3 f0 f1 f2 f3 f4 f5 f6 f7;go_wp2;go_quiet (fail);go_wp2;go_ret2;exact⟨rfl,af5 dO.out _⟩
def Ub(f:Nat->Nat->Nat->Int)(k j i:Nat):Nat->Nat->Nat->Int:=fun k' i' j'=>if k'=k/\j'=j/\i'<i then 0 else f k' i' j'
theorem Qr(f:Nat->Nat->Nat->Int)(k j:Nat):Ub f k j 0=f:=by
 funext k' i' j';unfold Ub;simp
theorem Qs(f:Nat->Nat->Nat->Int)(k j i:Nat):Au (Ub f k j i) k i j 0=Ub f k j (i+1):=by
 funext k' i' j';unfold Au Ub;by_cases h:k'=k/\i'=i/\j'=j
 ·obtain⟨rfl,rfl,rfl⟩:=h
  simp
 ·rw[if_neg h]
  by_cases h2:k'=k/\j'=j/\i'<i
  ·rw[if_pos h2,if_pos ⟨h2.1,h2.2.1,by omega⟩]
  ·rw[if_neg h2,if_neg (fun h3=>by
    by_cases e:i'=i
    ·exact h ⟨h3.1,e,h3.2.1⟩
    ·exact h2 ⟨h3.1,h3.2.1,by omega⟩)]
def acc(f:Nat->Nat->Nat->Int)(k j:Nat)(U V:Nat->Int)(a:Nat):Nat->Nat->Nat->Int:=fun k' i' j'=>if k'=k/\j'=j then aF.sumOf a U V i' else f k' i' j'
theorem Uc{K:Nat}{n m:Nat->Nat}{f:Nat->Nat->Nat->Int}{k j:Nat}{U V:Nat->Int}:aF.tab K n m (Ub f k j (n k))=aF.tab K n m (acc f k j U V 0):=by
 refine aF.ux (fun _ _=>rfl) fun k' i' j' _ hi _=>?_;unfold Ub acc;by_cases h:k'=k/\j'=j
 ·obtain⟨rfl,rfl⟩:=h
  rw[if_pos ⟨rfl,rfl,hi⟩,if_pos ⟨rfl,rfl⟩];rfl
 ·rw[if_neg (fun h2=>h ⟨h2.1,h2.2.1⟩),if_neg h]
theorem Dd{f:Nat->Nat->Nat->Int}{k j o a b c:Nat}{U V:Nat->Int}(h:o≠k):acc f k j U V a o b c=f o b c:=by
 unfold acc;rw[if_neg (fun h2=>h h2.1)]
theorem Qt{f:Nat->Nat->Nat->Int}{k j a i:Nat}{U V:Nat->Int}:acc f k j U V a k i j=aF.sumOf a U V i:=by
 unfold acc;rw[if_pos ⟨rfl,rfl⟩]
theorem Qu{f:Nat->Nat->Nat->Int}{k j a i:Nat}{U V:Nat->Int}(h:U a=(i:Int)):Au (acc f k j U V a) k i j (aF.sumOf a U V i+V a)=acc f k j U V (a+1):=by
 funext k' i' j';unfold Au acc;by_cases hk:k'=k/\j'=j
 ·obtain⟨rfl,rfl⟩:=hk
  by_cases hi:i'=i
  ·subst hi
   rw[if_pos ⟨rfl,rfl,rfl⟩,if_pos ⟨rfl,rfl⟩,aF.sA,if_pos h]
  ·rw[if_neg (fun e=>hi e.2.1),if_pos ⟨rfl,rfl⟩,if_pos ⟨rfl,rfl⟩,aF.sA,if_neg (by omega)]
   omega
 ·rw[if_neg (fun e=>hk ⟨e.1,e.2.2⟩),if_neg hk,if_neg hk]
theorem xM{U V:Nat->Int}{i:Int}:∀{n:Nat},(∀b,b<n-> -1000<=V b/\V b<=1000)-> -(1000*(n:Int))<=aF.sumOf n U V i/\aF.sumOf n U V i<=1000*(n:Int)
 |0,_=>by simp[aF.I7]
 |n+1,h=>by
  have ih:=xM (U:=U) (V:=V) (i:=i) (n:=n) (fun b hb=>h b (by omega));have h1:=h n (by omega);rw[aF.sA];split<;>omega
theorem Qv(x:ah.bD)(hx:ah.okB x=true)(h6:x.af3.length<=6)(h10:∀k:Nat,(ah.kd x k).af4.length<=10)(n:Nat->Nat)(f:Nat->Nat->Nat->Int)(k j:Nat)(hk:k<x.af3.length)(hj:j<(ah.kd x k).af4.length)(Ng:(ah.fd x k j).kind=6)(hn:∀k,n k<=512)
  (Ud:∀a,a<n (aF.dW x k j)->0<=f (aF.dW x k j) a (aF.mN x k j)/\f (aF.dW x k j) a (aF.mN x k j)<n k)(I8:∀a,a<n (aF.dW x k j)-> -1000<=f (aF.dW x k j) a (aF.oZ x k j)/\f (aF.dW x k j) a (aF.oZ x k j)<=1000)
  (v uw:Value)(Sv S:Nat->Prop)(w:World)(hv:eU Sv w v x)(hW:bL S w uw (aF.tab x.af3.length n (fun k:Nat=>(ah.kd x k).af4.length) f)):
  Calls Tryz.prog 76 #[v,uw,.int .i64 (k:Int),.int .i64 (j:Int)] w fun e w'=>(∃r,e=.returned r)/\bL S w' uw (aF.tab x.af3.length n (fun k:Nat=>(ah.kd x k).af4.length) (fun k' i' j'=>if k'=k/\j'=j then aF.sumOf (n (aF.dW x k j)) (fun a=>f (aF.dW x k j) a (aF.mN x k j)) (fun a=>f (aF.dW x k j) a (aF.oZ x k j)) i' else f k' i' j'))/\Turns S w w':=by
 obtain⟨o1,o2,o3,o4,o5,o6,o7,o8,o9,o10⟩:=aF.C4 hx hk hj Ng;obtain⟨o,ho⟩:=nmE (aF.dW x k j);obtain⟨sh,hsh⟩:=nmE (aF.oZ x k j);obtain⟨ld,IZ⟩:=nmE (aF.mN x k j);rw[<-ho] at o1 o2 o3 o4 o5 o6 o7 o8 o10 Ud I8 ⊢;rw[<-hsh] at o2 o4 o9 o10 I8 ⊢;rw[<-IZ] at o3 o5 o6 o10 Ud ⊢;have Ue:=hid (fun(X:World) (hX:BL w X)=>DY x k j o sh hk hj o8 o9 h6 h10 v Sv X (hv.keep (aA.below hX)));obtain⟨ak,ck,al,cl,ar,cr,rfl,hkv, -, -,hsk, -, -⟩:=hv.form;obtain⟨lU,VP,k0,k1,k2,uf,k3,M8⟩:=fV.at hkv o1;obtain⟨af,cf,rfl,hsf, -, -⟩:=M8.form;have o2':sh<x.af3[o].af4.length:=by rw[<-fM o1];exact o2
 obtain⟨Gm,hSf,f0,f1,f2, -⟩:=dh.at M8 o2';have uX:=hid (fun(X:World) (hX:BL w X)=>jX x.af3[o] x.af3[o].af4[sh].up (.slice af x.af3[o].af4.length cf) Sv X (M8.keep (aA.below hX)))
 have YK:Hid (ah.aX x.af3[o] x.af3[o].af4[sh].up=(ld:Int)):=hid (by
  have e1:=o10
  rw[rI o1 o2',fM o1] at e1
  exact e1)
 have sS:Hid (∀X,BL w X->X.cell? ⟨aY ak,bC ak+o*4,none⟩=some (.string x.af3[o].name)/\X.cell? ⟨aY ak,bC ak+o*4+1,none⟩=some (.int .i64 x.af3[o].lo)/\X.cell? ⟨aY ak,bC ak+o*4+2,none⟩=some (.int .i64 x.af3[o].hi)/\
   X.cell? ⟨aY ak,bC ak+o*4+3,none⟩=some (.slice af x.af3[o].af4.length cf)/\X.cell? ⟨aY af,bC af+sh*8+2,none⟩=some (.string x.af3[o].af4[sh].up)):=hid (fun X hX=>
  ⟨(hX.cell (p:=⟨aY ak,bC ak+o*4,none⟩) lU).trans k0,(hX.cell (p:=⟨aY ak,bC ak+o*4+1,none⟩) lU).trans k1,(hX.cell (p:=⟨aY ak,bC ak+o*4+2,none⟩) lU).trans k2,(hX.cell (p:=⟨aY ak,bC ak+o*4+3,none⟩) lU).trans k3,(hX.cell (p:=⟨aY af,bC af+sh*8+2,none⟩) Gm).trans f2⟩)
 obtain⟨w1,hw1⟩:=nmE (bE w x.af6 (.slice ak x.af3.length ck) (.slice al x.af7.length cl) (.slice ar x.af8.length cr));have aW:=afX hw1;have HX:=afY hw1;unfold bE at hw1;have HW1:=hid hw1;have hne:o≠k:=by omega
 have Vu:(0:Int)<=(o:Int):=by omega
 have Tf:(o:Int)<(x.af3.length:Int):=by omega
 have hs0:(0:Int)<=(sh:Int):=by omega
 have hs1:(sh:Int)<(x.af3[o].af4.length:Int):=by omega
 have hk0:(0:Int)<=(k:Int):=by omega
 have hk1:(k:Int)<(x.af3.length:Int):=by omega
 have hj0:(0:Int)<=(j:Int):=by omega
 have hl0:(0:Int)<=(ld:Int):=by omega
 have Yg:=hid hW;have HJ:=hid hj;have xC:Hid (ld<(ah.kd x o).af4.length):=hid o3;have Iw:Hid (sh<(ah.kd x o).af4.length):=hid o2;have HRef:=hid Ud;have acd:=hid I8;have HNk:=hid hn;clear hw1 hv hkv M8 k0 k1 k2 k3 f0 f1 f2 o2 o3 o4 o5 o6 o8 o9 o10 hW Ud I8 ho hsh IZ VP hSf lU Gm hn hj Ng;obtain⟨nf,hnf⟩:=nmE (x.af3[o].af4.length);rw[<-hnf] at hsf hs1 sS uX;obtain⟨kd,hkd⟩:=nmE (x.af3[o]);obtain⟨fup,ace⟩:=nmE (x.af3[o].af4[sh].up);rw[<-ace] at sS uX YK;rw[<-hkd] at sS uX YK;clear ace o2';obtain⟨kn,kl,kh,kf⟩:=kd;unfold kC at uX;simp only at sS uX;clear hkd hnf;obtain⟨⟨y0,y1,y2,y3⟩, -⟩:=aO (HX.out w1 aj);go_enter Tryz.func76,Tryz.ntmps76;go_upto_region 1 with fail;rw[<-HW1.out];go_wp2_with fail;refine(Ue.out w1 aW.out).mono ?_;rintro e w2 ⟨rfl,hb⟩;have cU:Hid (BL w1 w2):=hid hb;have bB:=bq aW hb;clear hb y0 y1 y2 y3;go_upto_region 2 with fail;have Ql:=hqC w2 ⟨w.heap.size,1,none⟩ (.slice ak x.af3.length ck) fun xh=>(aO (HX.out xh.1 (tnB cU.out xh.2))).1.2.1;have Bu:=hqC w2 ⟨aY ak,bC ak+o*4,none⟩ (.string kn) fun xh=>(sS.out xh.1 (tnB bB.out xh.2)).1;have Iz:=hqC w2 ⟨aY ak,bC ak+o*4+1,none⟩ (.int .i64 kl) fun xh=>(sS.out xh.1 (tnB bB.out xh.2)).2.1;have IA:=hqC w2 ⟨aY ak,bC ak+o*4+2,none⟩ (.int .i64 kh) fun xh=>(sS.out xh.1 (tnB bB.out xh.2)).2.2.1;have Bv:=hqC w2 ⟨aY ak,bC ak+o*4+3,none⟩ (.slice af nf cf) fun xh=>(sS.out xh.1 (tnB bB.out xh.2)).2.2.2.1;have hqf2:=hqC w2 ⟨aY af,bC af+sh*8+2,none⟩ (.string fup) fun xh=>(sS.out xh.1 (tnB bB.out xh.2)).2.2.2.2;refine bF 15 (.quiet 0 (.quiet 1 (.quiet 2 (.quiet 3 (.quiet 4 (.quiet 5 (.quiet 6 (.quiet 7 (.quiet 8 (.quiet 9 (.quiet 10 (.quiet 11 (.quiet 12 (.quiet 13 (.quiet 14 .done))))))))))))))) (BL w2) mxT (by kernel_rfl) (af5 aj 1) ?_;have dD:Hid (BL w1 (w2.drewN 1)):=hid (af5 cU.out 1);have bG:Hid (BL w (w2.drewN 1)):=hid (af5 bB.out 1);generalize w2.drewN 1=w3 at*
 iterate 15
  refine ai rfl ?_
  intro hne
  go_big_quiet_step (fail)
  refine zWq ?_
  clear hne
 refine aL ?_;try simp only[zDs,zDz]
 clear Ql Bu Iz IA Bv hqf2;go_wp2_with fail;refine(uX.out w3 bG.out).mono ?_;rintro e w4 ⟨rfl,hb4⟩;have dO:=bq bG hb4;rw[YK.out];clear hb4;have zV:Hid (bL S w4 uw (aF.tab x.af3.length n (fun k:Nat=>(ah.kd x k).af4.length) f)):=hid (bM.keep Yg.out (aA.below dO.out));have JX:Hid (Turns S w w4):=hid (Turns.aM dO.out);clear Yg;obtain⟨go,co,ka,kc,rfl,acf,hkc,hkm,Av⟩:=qw zV.out hk;have BF:=Av w4 (fun _ _ _=>rfl);have Mt:=hid BF;clear Av;go_wp2;clear BF;go_loopw [43] (fun ii wr=>∃i:Nat,i<=n k/\ii=.int .i64 i/\Hid (bL S wr (.slice (some ⟨go,0,none⟩) x.af3.length co) (aF.tab x.af3.length n (fun k:Nat=>(ah.kd x k).af4.length) (Ub f k j i)))/\Hid (Turns S w wr)/\Hid (wr.cell? ⟨go,k,none⟩=some (.slice ka (n k) kc))) (fun ii _=>n k-(intOf ii).toNat);case atStart=>exact⟨0,Nat.zero_le _,rfl,hid (by rw[Qr];exact zV.out),JX,Mt⟩
 case round=>
  obtain⟨i,hi,rfl,TV,Nl,sU⟩:=hrel;by_cases hlt:i<n k
  ·have hi0:(0:Int)<=(i:Int):=by omega
   have hi1:(i:Int)<(n k:Int):=by omega
   obtain⟨go',co',gk,Yc,gi,ci,hR⟩:=oG TV.out hk hlt (by have:=HJ.out;omega:0<(ah.kd x k).af4.length);have hf:=hR.form;cases hf;obtain⟨r1,r2,r3,go3,hgo3⟩:=hR.rd wr (fun _ _ _=>rfl);have hkk:=r1.symm.trans sU.out;simp only[Option.some.injEq,Value.slice.injEq] at hkk;obtain⟨rfl, -,rfl⟩:=hkk;obtain⟨r4,r5⟩:=r3 j HJ.out;have hj1:(j:Int)<((ah.kd x k).af4.length:Int):=by have:=HJ.out;omega
   have HN:Hid (bL S (wr.setCell ⟨gi,j,none⟩ (.int .i64 0)) (.slice (some ⟨go,0,none⟩) x.af3.length co) (aF.tab x.af3.length n (fun k:Nat=>(ah.kd x k).af4.length) (Ub f k j (i+1)))):=hid (by
    rw[<-Qs]
    exact hR.set wr (fun _ _ _=>rfl) j HJ.out 0)
   have HTn:Hid (Turns S w (wr.setCell ⟨gi,j,none⟩ (.int .i64 0))):=hid (Nl.out.setCell _ _ hR.blk)
   have KG:Hid ((wr.setCell ⟨gi,j,none⟩ (.int .i64 0)).cell? ⟨go,k,none⟩=some (.slice (some ⟨gk,0,none⟩) (n k) Yc)):=hid (by
    rw[World.cell?_of_block (w:=wr) (a:=⟨go,k,none⟩) (zBh _ _ _ _ (fun e=>hR.ne1 (Eq.symm e)))]
    exact r1)
   clear r3 hgo3 hR r1;generalize (ah.kd x k).af4.length=mk at*;go_wp2;go_roundw;case rel=>exact⟨i+1,by omega,by go_num,HN,HTn,KG⟩
   simp[intOf];omega
  ·obtain rfl:n k=i:=by omega
   have hok:o<x.af3.length:=by omega
   have UF:Hid (bL S wr (.slice (some ⟨go,0,none⟩) x.af3.length co) (aF.tab x.af3.length n (fun k:Nat=>(ah.kd x k).af4.length) (acc f k j (fun a=>f o a ld) (fun a=>f o a sh) 0))):=hid (by
    rw[<-Uc (n:=n)]
    exact TV.out)
   obtain⟨go',co',oa,oc,hf,hoo,hoc,hom,Qw⟩:=qw UF.out hok;cases hf;have hgo:=Qw wr (fun _ _ _=>rfl);have HGo:=hid hgo;clear Qw;go_wp2;clear hgo;generalize LY:wr=Wb at*;go_loopw [56] (fun aa wr=>∃a:Nat,a<=n o/\aa=.int .i64 a/\Hid (bL S wr (.slice (some ⟨go,0,none⟩) x.af3.length co) (aF.tab x.af3.length n (fun k:Nat=>(ah.kd x k).af4.length) (acc f k j (fun a=>f o a ld) (fun a=>f o a sh) a)))/\Hid (Turns S w wr)/\Hid (wr.cell? ⟨go,o,none⟩=some (.slice oa (n o) oc))) (fun aa _=>n o-(intOf aa).toNat);case atStart=>exact⟨0,Nat.zero_le _,rfl,UF,Nl,HGo⟩
   case round=>
    obtain⟨a,ha,rfl,HWa,HTa,HGa⟩:=hrel;by_cases hat:a<n o
    ·have ha0:(0:Int)<=(a:Int):=by omega
     have ha1:(a:Int)<(n o:Int):=by omega
     obtain⟨go1,co1,gk1,ck1,gi1,ci1,hR1⟩:=oG HWa.out hok hat (by have:=xC.out;omega:0<(ah.kd x o).af4.length);have hf1:=hR1.form;cases hf1;obtain⟨r1,r2,r3, -⟩:=hR1.rd wr (fun _ _ _=>rfl);have hkk:=r1.symm.trans HGa.out;simp only[Option.some.injEq,Value.slice.injEq] at hkk;obtain⟨rfl, -,rfl⟩:=hkk;have hrf:=HRef.out a hat;obtain⟨i',hi'⟩:∃m:Nat,f o a ld=(m:Int):=⟨(f o a ld).toNat,by omega⟩;have hi'n:i'<n k:=by omega
     obtain⟨go2,co2,gk2,ck2,VT,ci2,hR2⟩:=oG HWa.out hk hi'n (by have:=HJ.out;omega:0<(ah.kd x k).af4.length);have hf2:=hR2.form;cases hf2;have hbd:=xM (U:=fun a=>f o a ld) (V:=fun a=>f o a sh) (i:=(i':Int)) (n:=a) (fun b hb=>acd.out b (by omega));have hs:=acd.out a hat;have FK:=HNk.out o;obtain⟨cur,hcur⟩:=nmE (aF.sumOf a (fun a=>f o a ld) (fun a=>f o a sh) (i':Int));obtain⟨fs,hfs⟩:=nmE (f o a sh);rw[<-hcur] at hbd;rw[<-hfs] at hs;have hc0: -1000000<=cur:=by omega
     have hc1:cur<=1000000:=by omega
     have hs0':=hs.1;have hs1':=hs.2
     have Jo:Hid (∀X,BL wr X->X.cell? ⟨go,o,none⟩=some (.slice (some ⟨gk1,0,none⟩) (n o) ck1)/\X.cell? ⟨gk1,a,none⟩=some (.slice (some ⟨gi1,0,none⟩) (ah.kd x o).af4.length ci1)/\X.cell? ⟨gi1,ld,none⟩=some (.int .i64 (i':Int))/\X.cell? ⟨gi1,sh,none⟩=some (.int .i64 fs)/\
       X.cell? ⟨go,k,none⟩=some (.slice (some ⟨gk2,0,none⟩) (n k) ck2)/\X.cell? ⟨gk2,i',none⟩=some (.slice (some ⟨VT,0,none⟩) (ah.kd x k).af4.length ci2)/\X.cell? ⟨VT,j,none⟩=some (.int .i64 cur)/\X.frozen? ⟨VT,j,none⟩=false):=hid (fun X hX=>by
      obtain⟨e1,e2,e3, -⟩:=hR1.rd X (aA.below hX);obtain⟨e4,e5,e6, -⟩:=hR2.rd X (aA.below hX);refine⟨e1,e2,?_,?_,e4,e5,?_,(e6 j HJ.out).2⟩
      ·rw[(e3 ld xC.out).1,Dd hne,hi']
      ·rw[(e3 sh Iw.out).1,Dd hne,hfs]
      ·rw[(e6 j HJ.out).1,Qt,hcur])
     have uW:Hid (∀X,BL wr X->bL S (X.setCell ⟨VT,j,none⟩ (.int .i64 (cur+fs))) (.slice (some ⟨go,0,none⟩) x.af3.length co) (aF.tab x.af3.length n (fun k:Nat=>(ah.kd x k).af4.length) (acc f k j (fun a=>f o a ld) (fun a=>f o a sh) (a+1)))/\Turns S w (X.setCell ⟨VT,j,none⟩ (.int .i64 (cur+fs)))/\
       (X.setCell ⟨VT,j,none⟩ (.int .i64 (cur+fs))).cell? ⟨go,o,none⟩=some (.slice (some ⟨gk1,0,none⟩) (n o) ck1)):=hid (fun X hX=>by
      refine⟨?_,(HTa.out.trans (Turns.aM hX)).setCell _ _ hR2.blk,?_⟩
      ·rw[<-Qu (f:=f) (k:=k) (j:=j) (a:=a) (i:=i') (U:=fun a=>f o a ld) (V:=fun a=>f o a sh) hi',<-hcur,<-hfs]
       exact hR2.set X (aA.below hX) j HJ.out _
      ·rw[World.cell?_of_block (w:=X) (a:=⟨go,o,none⟩) (zBh _ _ _ _ (fun e=>hR2.ne1 (Eq.symm e)))]
       exact(Jo.out X hX).1)
     have hj1:(j:Int)<((ah.kd x k).af4.length:Int):=by have:=HJ.out;omega
     have hl1:(ld:Int)<((ah.kd x o).af4.length:Int):=by have:=xC.out;omega
     have hh1:(sh:Int)<((ah.kd x o).af4.length:Int):=by have:=Iw.out;omega
     have Bj:(0:Int)<=(i':Int):=by omega
     have hq1:(i':Int)<(n k:Int):=by omega
     clear r3 hR1 hR2 hrf hi' hbd hcur hfs hs r1;generalize (ah.kd x k).af4.length=mk at*;generalize (ah.kd x o).af4.length=mo at*;go_upto_region 11 with fail;have hqa:=hqC wr ⟨go,k,none⟩ (.slice (some ⟨gk2,0,none⟩) (n k) ck2) fun xh=>(Jo.out xh.1 xh.2).2.2.2.2.1;have hqb:=hqC wr ⟨gi1,ld,none⟩ (.int .i64 (i':Int)) fun xh=>(Jo.out xh.1 xh.2).2.2.1;have SQ:=hqC wr ⟨gk2,i',none⟩ (.slice (some ⟨VT,0,none⟩) mk ci2) fun xh=>(Jo.out xh.1 xh.2).2.2.2.2.2.1;have hqd:=hqC wr ⟨VT,j,none⟩ (.int .i64 cur) fun xh=>(Jo.out xh.1 xh.2).2.2.2.2.2.2.1;have hqe:=hqC wr ⟨gi1,sh,none⟩ (.int .i64 fs) fun xh=>(Jo.out xh.1 xh.2).2.2.2.1;refine agf wr 17 (.quiet 0 (.quiet 1 (.quiet 2 (.quiet 3 (.quiet 4 (.quiet 5 (.quiet 6 (.quiet 7 (.quiet 8 (.quiet 9 (.quiet 10 (.quiet 11 (.quiet 12 (.quiet 13 (.quiet 14 (.quiet 15 (.quiet 16 .done))))))))))))))))) mxT (by kernel_rfl) fun w8 xE=>?_
     iterate 17
      refine ai rfl ?_
      intro hne
      go_big_quiet_step (fail)
      refine zWq ?_
      clear hne
     refine aL ?_;try simp only[zDs,zDz]
     clear hqa hqb SQ hqd hqe;obtain⟨-, -, -, -, -, -,e7,e8⟩:=Jo.out w8 xE.out;have HN:=hid (uW.out w8 xE.out);clear uW Jo;go_wp2;go_roundw;case rel=>exact⟨a+1,by omega,by go_num,hid HN.out.1,hid HN.out.2.1,hid HN.out.2.2⟩
     simp[intOf];omega
    ·obtain rfl:n o=a:=by omega
     have xZ:=hid HWa.out;go_wp2;go_end0;exact⟨⟨_,rfl⟩,xZ.out,HTa.out⟩
namespace aF
open ah (bK bD)
def Jp(W:bK)(k i:Nat):List Int:=(W.getD k []).getD i []
def kJ(W:bK)(K:Nat)(pre:List (Nat×Nat)):bK:=(List.range K).map fun k=>(pre.filter fun p=>decide (p.1=k)).map fun p=>Jp W k p.2
theorem FT(W:bK)(K:Nat)(pre:List (Nat×Nat)):(kJ W K pre).length=K:=by simp[kJ]
theorem yO{W:bK}{K:Nat}{pre:List (Nat×Nat)}{k:Nat}(h:k<(kJ W K pre).length):(kJ W K pre)[k]=(pre.filter fun p=>decide (p.1=k)).map fun p=>Jp W k p.2:=by simp[kJ]
theorem Qx(W:bK)(K:Nat):kJ W K []=List.replicate K []:=by
 refine List.ext_getElem (by simp[kJ]) fun k h1 h2=>?_;rw[yO];simp
theorem Mu{W:bK}{K:Nat}{pre:List (Nat×Nat)}{k i:Nat}(hk:k<(kJ W K pre).length):kJ W K (pre++[(k,i)])=(kJ W K pre).set k ((kJ W K pre)[k]++[Jp W k i]):=by
 rw[yO];unfold kJ;rw[kg];refine List.map_congr_left fun k' _=>?_;rw[List.filter_append];by_cases e:k'=k
 ·subst e
  simp
 ·rw[if_neg e]
  have:¬k=k':=fun h=>e h.symm;simp[this]
theorem Aw(s:Sub.S)(k:Nat):∀n,Sub.kT k (s.getD k []) n=(kS s k n).map fun i=>(k,i)
 |0=>rfl
 |n+1=>by
  rw[Sub.lZ,oC,Aw s k n,List.map_append];congr 1;show (if (s.getD k []).getD n false=true then _ else _)=List.map _ (if (s.getD k []).getD n false=true then _ else _)
  split<;>rfl
theorem Jq(k k':Nat)(l:List Bool):(Sub.tJ k' l).filter (fun p=>decide (p.1=k))=if k'=k then Sub.tJ k' l else []:=by
 have h:∀p∈Sub.tJ k' l,p.1=k':=fun p hp=>by
  unfold Sub.tJ at hp;rw[List.mem_filterMap] at hp;obtain⟨i,_,h⟩:=hp;split at h
  ·cases h;rfl
  ·cases h
 by_cases e:k'=k
 ·rw[if_pos e,List.filter_eq_self]
  intro p hp;rw[h p hp,e];exact decide_eq_true rfl
 ·rw[if_neg e,List.filter_eq_nil_iff]
  intro p hp;rw[h p hp];simpa using e
theorem uM(s:Sub.S)(k:Nat):∀K,(Sub.gW s K).filter (fun p=>decide (p.1=k))=if k<K then Sub.tJ k (s.getD k []) else []
 |0=>by simp[Sub.gW]
 |K+1=>by
  rw[Sub.j5,List.filter_append,uM s k K,Jq];by_cases e:k<K
  ·rw[if_pos e,if_neg (by omega),if_pos (by omega),List.append_nil]
  ·by_cases e2:K=k
   ·subst e2
    rw[if_neg e,if_pos rfl,if_pos (by omega)];rfl
   ·rw[if_neg e,if_neg e2,if_neg (by omega)]
    rfl
theorem oT{W:bK}{s:Sub.S}(h:Sub.Fit (shape W) s){k:Nat}(hk:k<W.length):(Sub.kept s).filter (fun p=>decide (p.1=k))=(kS s k (bH W k)).map fun i=>(k,i):=by
 have h1:s.length=W.length:=by have:=h.1;rwa [qO] at this
 have h2:=h.2 k;rw[jY] at h2;rw[<-Sub.qQ,uM,if_pos (by omega),<-Sub.nK,Aw,h2]
theorem Mv{W:bK}{m:Nat->Nat}{s:Sub.S}(h:Sub.Fit (shape W) s)(hm:∀k (hk:k<W.length),∀r∈W[k],r.length=m k):kJ W W.length (Sub.kept s)=tab W.length (fun k=>dK s k (bH W k)) m (cell0 W s):=by
 unfold kJ tab;refine List.map_congr_left fun k hk=>?_;rw[List.mem_range] at hk;rw[oT h hk,List.map_map];refine List.ext_getElem (by simp[dK]) fun a h1 h2=>?_;have h1':a<(kS s k (bH W k)).length:=by simpa using h1
 simp only[List.getElem_map,Function.comp_apply,List.getElem_range];have ho:qm s k (bH W k) a=(kS s k (bH W k))[a]'h1':=by unfold qm;rw[Sub.aR h1']
 have hlt:a<dK s k (bH W k):=h1';have hold:=yN hlt;rw[<-ho];have hkk:W.getD k []=W[k]:=Sub.aR hk
 have hil:qm s k (bH W k) a<W[k].length:=by
  have e:bH W k=W[k].length:=by unfold bH;rw[hkk]
  have:=hold.2.2;omega
 have hrow:Jp W k (qm s k (bH W k) a)=W[k][qm s k (bH W k) a]:=by unfold Jp;rw[hkk,Sub.aR hil]
 have hrl:=hm k hk _ (zGm hil);rw[hrow];refine List.ext_getElem (by simp[hrl]) fun j e1 e2=>?_;simp only[List.getElem_map,List.getElem_range];unfold cell0;rw[DT hk hil e1]
theorem Uf{W:bK}{s:Sub.S}(h:Sub.Fit (shape W) s){pre:List (Nat×Nat)}{k i:Nat}(hp:pre++[(k,i)]<+:Sub.kept s):(pre.filter fun p=>decide (p.1=k)).length=dK s k i:=by
 have hmem:(k,i)∈Sub.kept s:=hp.subset (by simp);obtain⟨hk,hi⟩:=vJ h (Sub.cO.1 hmem);obtain⟨t,ht⟩:=hp;have e:=oT h hk;rw[<-ht,List.filter_append,List.filter_append] at e;have e2:List.filter (fun p:Nat×Nat=>decide (p.1=k)) [(k,i)]=[(k,i)]:=by simp
 rw[e2,List.append_assoc] at e;have h3:=congrArg (fun l=>l[(pre.filter fun p=>decide (p.1=k)).length]?) e;simp only[List.getElem?_append_right aB,Nat.sub_self,List.singleton_append,List.getElem?_cons_zero,List.getElem?_map] at h3;cases h4:(kS s k (bH W k))[(pre.filter fun p=>decide (p.1=k)).length]? with
 |none=>rw[h4] at h3;cases h3
 |some q=>
  rw[h4] at h3
  simp only[Option.map_some,Option.some.injEq,Prod.mk.injEq] at h3
  obtain⟨-,rfl⟩:=h3
  exact(zZ h4).1.symm
end aF
theorem cT.put{w:World}{b n:Nat}{f:Int->Int->Int}(h:cT w b n f)(hn:n<=1000000){a c:Int}(ha:pu a)(hc:pu c){v:Int}(hv:pu v):
  ∃w',(Instr.mapUpdate 154 (.map (some b)) (lW a c) (.int .i64 v)).run Tryz.prog w=.ok () w'/\cT w' b (n+1) (sy f a c v)/\Turns (·=b) w w':=by
 obtain⟨D,h1,h2⟩:=h;have kW:n<maxLen:=by have:maxLen=9223372036854775807:=rfl;omega
 obtain⟨w',hrun,how,hg⟩:=h1.update FC I4 kW (vI ha hc) (val:=.int .i64 v) (d:=.lit (.int .i64 v)) (ps:=[]) (plainElem_int DQ hv.wf);refine⟨w',hrun,⟨_,how,fun a' c' ha' hc'=>?_⟩,Turns.eT hg (fun b' e=>by cases e;rfl)⟩;unfold sy;by_cases e:a'=a/\c'=c
 ·obtain⟨rfl,rfl⟩:=e
  rw[Maps.atKey_put_same h1.isMap (P5 ha' hc'),if_pos ⟨rfl,rfl⟩]
 ·rw[Maps.atKey_put_other (fun h=>e (KD ha' hc' ha hc h)),if_neg e,h2 a' c' ha' hc']
def Ay(w:World)(b:Nat):Prop:=∃c t fr,w.heap[b]?=some (.cells c t fr)
theorem rQ{w:World}{base:Nat}{e:TypeId}{size:Nat}{v:Value}{n:Nat}{us:List Value}(h:w.ownsRow base e size v n us):∀b,v.ownBlock=some b->Ay w b:=by
 intro b hb;rcases h.2 with⟨h2,_⟩|⟨g,cap,cur,rfl,hb2,hg,r⟩
 ·rw[h2] at hb;cases hb
 ·cases hb
  exact⟨_,_,_,hg⟩
theorem FU{S:Nat->Prop}{w:World}{v:Value}{xs:List Int}(h:cF S w v xs):cF (fun b=>S b/\Ay w b) w v xs:=⟨h.1,fun b hb=>⟨h.2 b hb,rQ h.1 b hb⟩⟩
theorem Az{α:Type}{RR:(Nat->Prop)->World->Value->α->Prop}(hS:dH RR){w:World}(hR:∀{S u x},RR S w u x->RR (fun b=>S b/\Ay w b) w u x){e:TypeId}{S:Nat->Prop}{v:Value}{xs:List α}(h:gD RR e S w v xs):gD RR e (fun b=>S b/\Ay w b) w v xs:=by
 obtain⟨h1,us,Z,h2,h3,h4⟩:=h;exact⟨fun b hb=>⟨h1 b hb,rQ h2 b hb⟩,us,Z,h2,h3,fun j a b=>hS.mono (hR (h4 j a b)) (fun b' _ hb=>⟨⟨hb.1.1,hb.2⟩,hb.1.2⟩)⟩
theorem FV{S:Nat->Prop}{w:World}{v:Value}{xs:List (List Int)}(h:ko S w v xs):ko (fun b=>S b/\Ay w b) w v xs:=Az (RR:=cF) bg (fun h=>FU h) h
theorem DZ{S:Nat->Prop}{w:World}{v:Value}{xs:ah.bK}(h:bL S w v xs):bL (fun b=>S b/\Ay w b) w v xs:=Az (RR:=ko) fE (fun h=>FV h) h
namespace aF
open ah (bK bD)
theorem Jr(x:bD):(bT x).Pairwise fun r r'=>¬(r.kind=r'.kind/\r.field=r'.field):=by
 have hmem:∀{k n:Nat} {r:Ref},r∈jN x k n->r.kind=k:=fun {k n r} h=>by
  unfold jN at h;rw[List.mem_flatMap] at h;obtain⟨j,_,h⟩:=h;unfold p8 at h;split at h
  ·rw[zMs] at h;rw[h]
  ·simp at h
 unfold bT oN;refine List.pairwise_flatMap.2 ⟨fun k _=>?_,List.nodup_range.imp fun {a b} hab r hr r' hr' e=>hab (by rw[<-hmem hr,<-hmem hr',e.1])⟩;unfold jN;refine List.pairwise_flatMap.2 ⟨fun j _=>?_,List.nodup_range.imp fun {a b} hab r hr r' hr' e=>?_⟩
 ·unfold p8
  split<;>simp
 ·have hf:∀{j:Nat} {r:Ref},r∈p8 x k j->r.field=j:=fun {j r} h=>by
   unfold p8 at h
   split at h
   ·rw[zMs] at h;rw[h]
   ·simp at h
  exact hab (by rw[<-hf hr,<-hf hr',e.2])
def Ug(k c:Nat)(r:Ref):Bool:=decide (r.kind=k)&&decide (r.field=c)
def sH(x:bD)(W:bK)(s:Sub.S)(j:Nat)(k a c:Nat):Int:=if ((bT x).take j).any (Ug k c)=true then (dK s (ah.dB x k c).toNat (cell0 W s k a c).toNat:Nat) else cell0 W s k a c
def uN(x:bD)(W:bK)(s:Sub.S)(j rk rj i:Nat)(k a c:Nat):Int:=if k=rk/\c=rj/\a<i then (dK s (ah.dB x k c).toNat (cell0 W s k a c).toNat:Nat) else sH x W s j k a c
theorem Mw(x:bD)(W:bK)(s:Sub.S):sH x W s 0=cell0 W s:=by
 funext k a c;unfold sH;simp
theorem Mx(x:bD)(W:bK)(s:Sub.S)(j rk rj:Nat):uN x W s j rk rj 0=sH x W s j:=by
 funext k a c;unfold uN;simp
theorem My{x:bD}{W:bK}{s:Sub.S}{j:Nat}(hj:j<(bT x).length)(a:Nat):sH x W s j (bT x)[j].kind a (bT x)[j].field=cell0 W s (bT x)[j].kind a (bT x)[j].field:=by
 unfold sH;rw[if_neg];rw[List.any_eq_true];rintro ⟨r,hr,h⟩;obtain⟨i,hi,rfl⟩:=List.getElem_of_mem hr;rw[List.getElem_take] at h;rw[zLt] at hi;have hp:=List.pairwise_iff_getElem.1 (Jr x) i j (by omega) hj (by omega);unfold Ug at h;simp only[zBa,zDt] at h;exact hp h
theorem Mz{x:bD}{W:bK}{s:Sub.S}{j:Nat}(hj:j<(bT x).length)(i:Nat):uN x W s j (bT x)[j].kind (bT x)[j].field i (bT x)[j].kind i (bT x)[j].field=cell0 W s (bT x)[j].kind i (bT x)[j].field:=by
 unfold uN;rw[if_neg (by omega),My hj]
theorem MB(x:bD)(W:bK)(s:Sub.S)(j rk rj i:Nat):Au (uN x W s j rk rj i) rk i rj (dK s (ah.dB x rk rj).toNat (cell0 W s rk i rj).toNat:Nat)=uN x W s j rk rj (i+1):=by
 funext k a c;unfold Au uN;by_cases h:k=rk/\a=i/\c=rj
 ·obtain⟨rfl,rfl,rfl⟩:=h
  rw[if_pos ⟨rfl,rfl,rfl⟩,if_pos ⟨rfl,rfl,by omega⟩]
 ·rw[if_neg h]
  by_cases h2:k=rk/\c=rj/\a<i
  ·rw[if_pos h2,if_pos ⟨h2.1,h2.2.1,by omega⟩]
  ·rw[if_neg h2,if_neg (fun h3=>by
    by_cases e:a=i
    ·exact h ⟨h3.1,e,h3.2.1⟩
    ·exact h2 ⟨h3.1,h3.2.1,by omega⟩)]
theorem Qy{x:bD}{W:bK}{s:Sub.S}{j K:Nat}{n m:Nat->Nat}(hj:j<(bT x).length):tab K n m (uN x W s j (bT x)[j].kind (bT x)[j].field (n (bT x)[j].kind))=tab K n m (sH x W s (j+1)):=by
 refine ux (fun _ _=>rfl) fun k a c _ ha _=>?_;unfold uN;by_cases h:k=(bT x)[j].kind/\c=(bT x)[j].field
 ·rw[if_pos ⟨h.1,h.2,by rw[<-h.1];exact ha⟩]
  unfold sH;rw[if_pos];rw[zTs hj,List.any_append];simp[Ug,h.1,h.2]
 ·rw[if_neg (fun h3=>h ⟨h3.1,h3.2.1⟩)]
  unfold sH
  have e:((bT x).take (j+1)).any (Ug k c)=((bT x).take j).any (Ug k c):=by
   rw[zTs hj,List.any_append]
   have:Ug k c (bT x)[j]=false:=by
    unfold Ug;rw[Bool.and_eq_false_iff,decide_eq_false_iff_not,decide_eq_false_iff_not];by_cases e1:(bT x)[j].kind=k
    ·exact .inr (fun e2=>h ⟨e1.symm,e2.symm⟩)
    ·exact .inl e1
   simp[this]
  rw[e]
def gY(x:bD)(W:bK)(s:Sub.S)(k i:Nat)(k' a c:Nat):Int:=if (ah.fd x k' c).kind=6/\(k'<k\/(k'=k/\c<i)) then uy x W s k' a c else oP x W s k' a c
theorem Qz{x:bD}{W:bK}{s:Sub.S}{n:Nat->Nat}:tab x.af3.length n (fun k:Nat=>(ah.kd x k).af4.length) (sH x W s (bT x).length)=tab x.af3.length n (fun k:Nat=>(ah.kd x k).af4.length) (gY x W s 0 0):=by
 refine ux (fun _ _=>rfl) fun k a c hk _ hc=>?_;have e1:gY x W s 0 0 k a c=oP x W s k a c:=by unfold gY;rw[if_neg (by omega)]
 rw[e1];unfold sH oP;rw[List.take_length];by_cases h:(ah.fd x k c).kind=1
 ·rw[if_pos h,if_pos]
  rw[List.any_eq_true];exact⟨_,zD hk hc h,by simp[Ug]⟩
 ·rw[if_neg h,if_neg]
  rw[List.any_eq_true];rintro ⟨r,hr,h2⟩;unfold Ug at h2;simp only[zBa,zDt] at h2;have:=vD hr;rw[h2.1,h2.2] at this;exact h this.2.2.1
theorem MC{x:bD}{W:bK}{s:Sub.S}{k i:Nat}(h:(ah.fd x k i).kind≠6):gY x W s k (i+1)=gY x W s k i:=by
 funext k' a c;unfold gY;by_cases e:(ah.fd x k' c).kind=6
 ·have:¬(k'=k/\c=i):=fun h2=>h (by rw[<-h2.1,<-h2.2];exact e)
  have h3:(k'<k\/(k'=k/\c<i+1))↔(k'<k\/(k'=k/\c<i)):=by omega
  simp only[h3]
 ·rw[if_neg (fun h2=>e h2.1),if_neg (fun h2=>e h2.1)]
theorem ME{x:bD}{W:bK}{s:Sub.S}{n:Nat->Nat}{K k:Nat}:tab K n (fun k:Nat=>(ah.kd x k).af4.length) (gY x W s k (ah.kd x k).af4.length)=tab K n (fun k:Nat=>(ah.kd x k).af4.length) (gY x W s (k+1) 0):=by
 refine ux (fun _ _=>rfl) fun k' a c _ _ hc=>?_;unfold gY
 have h3:(k'<k\/(k'=k/\c<(ah.kd x k).af4.length))↔(k'<k+1\/(k'=k+1/\c<0)):=by
  constructor
  ·rintro (h|h)<;>omega
  ·rintro (h|h)
   ·by_cases e:k'=k
    ·subst e;exact .inr ⟨rfl,hc⟩
    ·exact .inl (by omega)
   ·omega
 simp only[h3]
theorem QA{x:bD}{W:bK}{s:Sub.S}{K:Nat}{n m:Nat->Nat}:tab K n m (gY x W s K 0)=tab K n m (uy x W s):=by
 refine ux (fun _ _=>rfl) fun k a c hk _ _=>?_;unfold gY;by_cases h:(ah.fd x k c).kind=6
 ·rw[if_pos ⟨h,.inl hk⟩]
 ·rw[if_neg (fun h2=>h h2.1)]
  unfold uy;rw[if_neg h]
theorem uO{x:bD}{W:bK}{s:Sub.S}{k i k' a c:Nat}(h:(ah.fd x k' c).kind≠6):gY x W s k i k' a c=oP x W s k' a c:=by
 unfold gY;rw[if_neg (fun h2=>h h2.1)]
theorem MF{x:bD}{W:bK}{s:Sub.S}{k i:Nat}(h6:(ah.fd x k i).kind=6)(h1:(ah.fd x (dW x k i) (mN x k i)).kind=1)(h7:(ah.fd x (dW x k i) (oZ x k i)).kind=7):
  (fun(k' i' j':Nat)=>if k'=k/\j'=i then sumOf (dK s (dW x k i) (bH W (dW x k i))) (fun a=>gY x W s k i (dW x k i) a (mN x k i)) (fun a=>gY x W s k i (dW x k i) a (oZ x k i)) i' else gY x W s k i k' i' j')=gY x W s k (i+1):=by
 funext k' a c;by_cases h:k'=k/\c=i
 ·obtain⟨rfl,rfl⟩:=h
  rw[if_pos ⟨rfl,rfl⟩];have hs1:∀b,gY x W s k' c (dW x k' c) b (mN x k' c)=oP x W s (dW x k' c) b (mN x k' c):=fun b=>uO (by omega);have hs2:∀b,gY x W s k' c (dW x k' c) b (oZ x k' c)=oP x W s (dW x k' c) b (oZ x k' c):=fun b=>uO (by omega);simp only[hs1,hs2];unfold gY;rw[if_pos ⟨h6,.inr ⟨rfl,by omega⟩⟩];unfold uy;rw[if_pos h6]
 ·rw[if_neg h]
  unfold gY;have h3:(k'<k\/(k'=k/\c<i+1))↔(k'<k\/(k'=k/\c<i)):=by omega
  simp only[h3]
end aF
attribute [local go_sem] Oper.semAt_some
theorem uP{S:Nat->Prop}{w w':World}{base:Nat}{e:TypeId}{size:Nat}{v:Value}{n:Nat}{us:List Value}(h:w.ownsRow base e size v n us)(hS:∀b,v.ownBlock=some b->S b)
  (hk:∀b c t fr,S b->w.heap[b]?=some (.cells c t fr)->w'.heap[b]?=some (.cells c t fr)):w'.ownsRow base e size v n us:=by
 refine⟨h.1,?_⟩;rcases h.2 with h2|⟨g,cap,cur,rfl,hb,hg,r⟩
 ·exact .inl h2
 ·exact .inr ⟨g,cap,cur,rfl,hb,hk _ _ _ _ (hS g rfl) hg,r⟩
theorem Js{S:Nat->Prop}{w w':World}{v:Value}{xs:List Int}(h:cF S w v xs)(hk:∀b c t fr,S b->w.heap[b]?=some (.cells c t fr)->w'.heap[b]?=some (.cells c t fr)):cF S w' v xs:=⟨uP h.1 h.2 hk,h.2⟩
theorem Df{α:Type}{RR:(Nat->Prop)->World->Value->α->Prop}(hR:∀{S w w' u x},RR S w u x->(∀b c t fr,S b->w.heap[b]?=some (.cells c t fr)->w'.heap[b]?=some (.cells c t fr))->RR S w' u x){e:TypeId}{S:Nat->Prop}{w w':World}{v:Value}{xs:List α}(h:gD RR e S w v xs)
  (hk:∀b c t fr,S b->w.heap[b]?=some (.cells c t fr)->w'.heap[b]?=some (.cells c t fr)):gD RR e S w' v xs:=by
 obtain⟨h1,us,Z,h2,h3,h4⟩:=h;exact⟨h1,us,Z,uP h2 h1 hk,h3,fun j a b=>hR (h4 j a b) (fun b' c t fr hb=>hk b' c t fr hb.1)⟩
theorem Jt{S:Nat->Prop}{w w':World}{v:Value}{xs:List (List Int)}(h:ko S w v xs)(hk:∀b c t fr,S b->w.heap[b]?=some (.cells c t fr)->w'.heap[b]?=some (.cells c t fr)):ko S w' v xs:=
 Df (RR:=cF) (fun h hk=>Js h hk) h hk
theorem qx{S:Nat->Prop}{w w':World}{v:Value}{xs:ah.bK}(h:bL S w v xs)(hk:∀b c t fr,S b->w.heap[b]?=some (.cells c t fr)->w'.heap[b]?=some (.cells c t fr)):bL S w' v xs:=
 Df (RR:=ko) (fun h hk=>Jt h hk) h hk
theorem QB{w:World}{p:Addr}{v:Value}(h:w.cell? p=some v):∃o,w.heap[p.block]?=some o/\¬book o:=by
 have hlt:=zBl w p h;refine⟨w.heap[p.block],Array.getElem?_eq_getElem hlt,fun hb=>?_⟩;unfold World.cell? at h;rw[Array.getElem?_eq_getElem hlt] at h;generalize w.heap[p.block]=o at*;cases o<;>simp_all [book]
theorem Ju(x:ah.bD)(W:ah.bK)(s:Sub.S)(hc:aF.jD x W s=0)(hval:Sub.valid (aF.wrong (aF.bT x) W) s=true)(jM:∀k i j:Nat,(ah.fd x k j).kind=7-> -1000<=aF.mq W k i j/\aF.mq W k i j<=1000)
  (v u t:Value)(U:Nat->Prop)(tb B:Nat)(w:World)(ha:l6 tb x W v u B w)(hs:aP U w t s):
  Calls Tryz.prog 42 #[v,u,t] w fun e w'=>∃r,e=.returned (.tuple #[r,.int .i64 0])/\bL (w.heap.size<=·) w' r (aF.iW x W s)/\BL w w':=by
 obtain⟨hfw,hfit⟩:=gy hc
 have hok:ah.okB x=true:=by
  unfold aF.jD at hc;by_cases h1:ah.okB x=true
  ·exact h1
  ·rw[if_neg h1] at hc;omega
 obtain⟨ak,ck,al,cl,ar,cr,rfl, -⟩:=ha.vY.form;obtain⟨aw,cw,rfl,hsw, -, -⟩:=ha.sG.form;obtain⟨K,hK⟩:=nmE W.length;have hlen:=hfw.len;have hK6:K<=6:=by have:=hfw.af3;omega
 obtain⟨w1,hw1⟩:=nmE ((bE w x.af6 (.slice ak x.af3.length ck) (.slice al x.af7.length cl) (.slice ar x.af8.length cr)).alloc (.cells #[.slice aw W.length cw] 30));have aW:Hid (Below w.heap.size w w1):=hid (by rw[hw1];exact(aQ ..).alloc (by simp[bE]) _);have HX:Hid (∀V,BL w1 V->V.heap[w.heap.size]?=some (.cells #[.int .i64 x.af6,.slice ak x.af3.length ck,.slice al x.af7.length cl,.slice ar x.af8.length cr] 27 (0,0))):=hid (fun V hV=>(hV.block _ (by rw[hw1];simp[bE];omega)).trans (by rw[hw1];exact aG _ (bf ..)));have HU:Hid (∀V,BL w1 V->V.heap[w.heap.size+1]?=some (.cells #[.slice aw W.length cw] 30 (0,0))):=hid (fun V hV=>(hV.block _ (by rw[hw1];simp[bE])).trans (by rw[hw1];exact aD _ _ (by simp[bE])));have hz1:w.heap.size+2<=w1.heap.size:=by rw[hw1];simp[bE]
 unfold bE at hw1;have HW1:=hid hw1;clear hw1;have IY:=hid (fun(X:World) (hX:BL w X)=>lm x W s hc _ _ t _ _ U tb X (ha.next hX).vY (ha.next hX).sG (hs.keep (aA.below hX)) (ha.next hX).laid (ha.next hX).tab);have Ef:=hid (fun(X:World) (hX:BL w X)=>Jm x W s hc _ _ t U tb B X (ha.next hX) (hs.keep (aA.below hX)));have LW:=hid hval;have Jv:=hid ha;have HS:=hid (aP.mono (S':=(·<w.heap.size)) hs (fun b hb _=>hb));obtain⟨uj,cs,rfl,hss, -, -⟩:=hs.form;have qu:=hid hfw;have Bn:=hid hfit;have Vv:=hid hok;have Ni:=hid hK;have kN:=hid jM;have hmm:= @run_makeMap Tryz.prog;have hmk:=fun X=>qG (P:=Tryz.prog) (t:=30) (e:=115) (b:=24) (by kernel_rfl) (by kernel_rfl) (by omega) K (by omega) X;rw[<-hK] at hsw HU HW1 IY Ef;clear hs ha hfw hfit hok hc hval jM hlen;obtain⟨⟨y0,y1,y2,y3⟩, -⟩:=aO (HX.out w1 aj);have u0:=(one_cell (HU.out w1 aj)).1;rw[<-callsIn_wide (n:=5)];refine callsIn_of_wp_marks Tryz.func42 rfl trivial ?_ rfl;simp only[Tryz.ntmps42,List.size_toArray,List.length_cons,List.length_nil,Nat.reduceAdd,Nat.reduceSub,Array.replicate_succ,Array.replicate_zero,List.push_toArray,List.append_toArray,List.nil_append,List.cons_append];rw[wpIn_wide];rw[<-hK];clear hK;go_upto_region 1 with fail;rw[<-HW1.out];go_wp2_with fail;refine(IY.out w1 aW.out).mono ?_;rintro e w2 ⟨rfl,hb⟩;have cU:Hid (BL w1 w2):=hid hb;have bB:=bq aW hb;clear hb y0 y1 y2 y3 u0;obtain⟨⟨y0,y1,y2,y3⟩, -⟩:=aO (HX.out w2 cU.out);have u0:=(one_cell (HU.out w2 cU.out)).1;go_wp2_with fail;refine(Ef.out w2 bB.out).mono ?_;rintro e w3 ⟨rfl,hb⟩;rw[LW.out];have dD:=bq cU hb;have bG:=bq bB hb;have A5:=dD.out.size;clear hb y0 y1 y2 y3 u0;obtain⟨wa,hwa⟩:=nmE ((w3.alloc (.map #[] 0)).alloc (.cells #[.map (some w3.heap.size)] 154));have HBa:Hid (Below w3.heap.size w3 wa):=hid (by rw[hwa];exact(aj.alloc aB _).alloc (by simp) _);have HMa:Hid (wa.heap[w3.heap.size+1]?=some (.cells #[.map (some w3.heap.size)] 154 (0,0))):=hid (by rw[hwa];exact aD _ _ (by simp))
 have VU:Hid (cT wa w3.heap.size 0 (fun _ _=>0)):=hid (by
  have h0:=cT.made w3
  rw[hwa]
  exact h0.keep ((aj.alloc aB _).block _ h0.lt))
 have HZa:Hid (wa.heap.size=w3.heap.size+2):=hid (by rw[hwa];simp);have HWa:=hid hwa;clear hwa;go_upto_region 7 with fail;rw[<-HWa.out];obtain⟨w4,hw4⟩:=nmE ((wa.alloc (.cells (eC K) 115)).alloc (.cells #[.slice (some ⟨wa.heap.size,0,none⟩) K K] 30));have YL:Hid (Below wa.heap.size wa w4):=hid (by rw[hw4];exact(aj.alloc aB _).alloc (by simp) _);have dO:=bq HBa YL.out;have Rm:Hid (w4.heap[w3.heap.size+1]?=some (.cells #[.map (some w3.heap.size)] 154 (0,0))):=hid ((YL.out.block _ (ay HMa.out)).trans HMa.out);have HO4:Hid (w4.heap[w3.heap.size+3]?=some (.cells #[.slice (some ⟨wa.heap.size,0,none⟩) K K] 30 (0,0))):=hid (by rw[hw4];exact aD _ _ (by simp[HZa.out]));have Eg:Hid (cT w4 w3.heap.size 0 (fun _ _=>0)):=hid (VU.out.keep (YL.out.block _ VU.out.lt))
 have HV4:Hid (bL (fun b=>b=w3.heap.size+2) w4 (.slice (some ⟨wa.heap.size,0,none⟩) K K) (aF.kJ W K [])):=hid (by
  have h0:=wQ wa K (by omega)
  have h1:=bM.mono (S':=fun b=>b=w3.heap.size+2) h0 (fun b hlt (hb:wa.heap.size<=b)=>by
   rw[World.size_alloc] at hlt;have:=HZa.out;omega)
  rw[aF.Qx,hw4]
  exact bM.keep h1 (aA.below (aj.alloc aB _)))
 have Na:w3.heap.size+4=w4.heap.size:=by rw[hw4];simp[HZa.out]
 have zV:=hid hw4;have HZ4:=hid Na;have hz4':w3.heap.size+4<=w4.heap.size:=by omega
 clear hw4 Na;have u0:=(one_cell (HU.out wa (dD.out.trans (HBa.out.mono A5)))).1;go_upto_region 8 with fail;rw[<-zV.out];rw[HZa.out] at HO4 HV4 ⊢;clear u0 hmk hmm;go_wp2_with fail;refine(qp _ _ _ _).mono ?_;rintro e w5 ⟨rfl,jO⟩;have gL:BL w4 w5:=by rw[jO];exact aj.alloc aB _
 have Ar:w5.heap[w4.heap.size]?=some (.cells #[.slice uj s.length cs] 45 (0,0)):=by rw[jO];exact aD _ _ rfl
 have Nb:=ay Ar;have hzw:w.heap.size+2<=w5.heap.size:=by omega
 have dP:Hid (BL w3 w5):=hid (dO.out.trans (gL.mono (by omega)));have BI:Hid (BL w w5):=hid (bG.out.trans (dP.out.mono (by omega)));have fS:Hid (BL w1 w5):=hid (dD.out.trans (dP.out.mono (by omega)));have NF:Hid (w5.heap[w3.heap.size+1]?=some (.cells #[.map (some w3.heap.size)] 154 (0,0))):=hid ((gL.block _ (by omega)).trans Rm.out);have Yf:Hid (w5.heap[w3.heap.size+3]?=some (.cells #[.slice (some ⟨w3.heap.size+2,0,none⟩) K K] 30 (0,0))):=hid ((gL.block _ (by omega)).trans HO4.out);have KA:Hid (cT w5 w3.heap.size 0 (fun _ _=>0)):=hid (Eg.out.keep (gL.block _ (by omega)));have HV5:Hid (bL (fun b=>b=w3.heap.size+2\/w5.heap.size<=b) w5 (.slice (some ⟨w3.heap.size+2,0,none⟩) K K) (aF.kJ W K [])):=hid (bM.mono (bM.keep HV4.out (aA.below gL)) (fun b _ hb=>.inl hb))
 have FP:Hid (qn (α:=Nat×Nat) Tryz.prog w.heap.size w5.heap.size 107 #[.pointer (some ⟨w4.heap.size,0,none⟩)] (fun x=> #[.agg #[.int .i64 (x.1:Int),.int .i64 (x.2:Int)]]) (fun pre x _=>pre++[x]<+:Sub.kept s) (fun b o=>(b=w3.heap.size\/b=w3.heap.size+2\/w5.heap.size<=b)/\¬book o) (fun _ _=>False) (fun xs _=>xs=Sub.kept s) w5):=
  hid (nL s w.heap.size w5.heap.size w4.heap.size _ (·<w.heap.size) _ w5 (by omega) (HS.out.keep (aA.below BI.out)) Ar (fun o h=>by rcases h.1 with h|h|h<;>omega) (fun Y ht=>aA.aM ht.1 (fun _ h=>h)))
 clear jO gL Ar;go_wp2;rw[<-wpIn_wide (n:=5)]
 refine kI (α:=Nat×Nat) (n0:=w.heap.size) (gf:=107) rfl (aZ Tryz.func107 (by kernel_rfl) rfl) (fun _=>rfl) FP.out (by omega) (fun _ _ h=>h.elim) (fun _ _ h=>h.2)
  (fun pre Y=>aJ (fun b o=>((b=w3.heap.size\/b=w3.heap.size+2\/w5.heap.size<=b)/\¬book o)\/aS w5.heap.size b o) w.heap.size w5 Y/\bL (fun b=>b=w3.heap.size+2\/w5.heap.size<=b) Y (.slice (some ⟨w3.heap.size+2,0,none⟩) K K) (aF.kJ W K pre)/\
   ∃F,cT Y w3.heap.size pre.length F/\∀p∈pre,F p.1 p.2=(aF.dK s p.1 p.2:Nat)) (fun _ _=>False)
  (fun pre A B h ht=> ?hI) (fun _ _ _ h _=>h) (fun _ _ _ h _=>h) ⟨aJ.refl _ _ _,HV5.out,_,KA.out,fun p hp=>absurd hp (by simp)⟩ ?jh ?hdone ?hstop
 case hI=>
  have ht':=ht.mono (A':=aS w5.heap.size) (fun b o h=>h.elim False.elim id);refine⟨h.1.trans (ht.mono (fun b o h=>h.elim False.elim .inr)),qx h.2.1 (fun b c t fr _ hb=>ht'.2 _ _ hb (by simp[aS,book])),?_⟩;obtain⟨F,f1,f2⟩:=h.2.2;refine⟨F,f1.keep ?_,f2⟩;have ho:A.heap[w3.heap.size]?=some (A.heap[w3.heap.size]'f1.lt):=Array.getElem?_eq_getElem f1.lt;rw[ho];exact ht'.2 _ _ ho (fun h=>f1.obj ho h.2)
 case jh=>
  rintro l pre y Y hlr ⟨hI1,qU,F,Gu,hI4⟩ Jl;obtain⟨k,i⟩:=y;simp only[List.zip_toArray,List.zip_cons_cons,List.zip_nil_left];have hsY:=hI1.1.size;gi_wp2;refine⟨(aJ.refl _ _ _).alloc (by omega) _,fun Y2 ht2 hs2 hl2=>?_⟩;have pT:Hid (Y2.heap[Y.heap.size]?=some (.cells #[.int .i64 (k:Int),.int .i64 (i:Int)] 87 (0,0))):=hid (ht2.2 _ _ (aD _ _ rfl) (by simp[aS,book]));have mV:Hid (aJ (fun b o=>((b=w3.heap.size\/b=w3.heap.size+2\/w5.heap.size<=b)/\¬book o)\/aS w5.heap.size b o) w.heap.size w5 Y2):=hid ((hI1.alloc (by omega) _).trans (ht2.mono (fun b o h=>.inr h)));have sS:Hid (∀b o,Y.heap[b]?=some o->¬book o->Y2.heap[b]?=some o):=hid (fun b o h hb=>ht2.2 _ _ (aG _ h) (fun h2=>hb h2.2));have LB:Hid (bL (fun b=>b=w3.heap.size+2\/w5.heap.size<=b) Y2 (.slice (some ⟨w3.heap.size+2,0,none⟩) K K) (aF.kJ W K pre)):=hid (qx qU (fun b c t fr _ hb=>sS.out _ _ hb (by simp[book])))
  have Nj:Hid (cT Y2 w3.heap.size pre.length F):=hid (Gu.keep (by
   have ho:Y.heap[w3.heap.size]?=some (Y.heap[w3.heap.size]'Gu.lt):=Array.getElem?_eq_getElem Gu.lt
   rw[ho]
   exact sS.out _ _ ho (Gu.obj ho)))
  have uU:=hid hI4
  have Uh:∀b c t fr,b≠w3.heap.size->b≠w3.heap.size+2->b<w5.heap.size->w5.heap[b]?=some (.cells c t fr)->Y2.heap[b]?=some (.cells c t fr):=fun b c t fr h1 h2 h3 hb=>mV.out.2 _ _ hb (by
   rintro (h|h)
   ·rcases h.1 with h|h|h<;>omega
   ·simp[aS,book] at h)
  have vf:Hid (Y2.heap[w3.heap.size+1]?=some (.cells #[.map (some w3.heap.size)] 154 (0,0))):=hid (Uh _ _ _ _ (by omega) (by omega) (by omega) NF.out);have zu:Hid (Y2.heap[w3.heap.size+3]?=some (.cells #[.slice (some ⟨w3.heap.size+2,0,none⟩) K K] 30 (0,0))):=hid (Uh _ _ _ _ (by omega) (by omega) (by omega) Yf.out);have A6:Hid (Y2.heap[w.heap.size+1]?=some (.cells #[.slice aw K cw] 30 (0,0))):=hid (Uh _ _ _ _ (by omega) (by omega) (by omega) (HU.out w5 fS.out));have hmem:(k,i)∈Sub.kept s:=Jl.subset (by simp);obtain⟨mg,yq⟩:=aF.vJ Bn.out (Sub.cO.1 hmem);have DW:i<W[k].length:=by unfold aF.bH at yq;rwa [Sub.aR mg] at yq
  have hkK:k<K:=by rw[Ni.out];exact mg
  have hkP:k<(aF.kJ W K pre).length:=by rw[aF.FT];exact hkK
  have hnew:=aF.Uf Bn.out Jl;have HGp:=hid Jl
  have hpl:pre.length<=512:=by
   have h1:=Jl.length_le;have h2:=iE Bn.out;have h3:=qu.out.tot;rw[zLa] at h1;unfold Sub.size at h2;omega
  obtain⟨gb,R8,uu,TT,e1,e2,e3,Gg,hcg,hfg,Ee,ET, -,hback⟩:=gD.borrow fE LB.out k hkP
  have hgg:w3.heap.size+2=gb:=by
   simp only[Value.slice.injEq,Option.some.injEq,Addr.mk.injEq] at e1;exact e1.1.1
  subst hgg;obtain⟨nu,hnu⟩:=nmE ((aF.kJ W K pre)[k].length);have acg:nu=aF.dK s k i:=by rw[hnu,aF.yO,zLm];exact hnew
  obtain⟨ua,uc,rfl,hua, -, -⟩:=(ko.sl Ee).form;rw[<-hnu] at Ee hcg hua hback;have HUc:=hid hcg;have ach:=hid acg
  have hnl:nu<=512:=by
   have:=aF.yM s k i;have h4:W[k].length<=ah.total W:=gJ mg;have h5:=qu.out.tot;omega
  have yg:Hid (pu (k:Int)/\pu (i:Int)):=hid ⟨⟨by omega,by omega⟩,⟨by omega,by have h4:W[k].length<=ah.total W:=gJ mg;have h5:=qu.out.tot;omega⟩⟩;have aci:Hid (pu (nu:Int)):=hid ⟨by omega,by omega⟩;have Xh:dG (some ⟨w3.heap.size+2,0,none⟩) K:=fun _=>⟨_,_,rfl⟩;have hk0:(0:Int)<=(k:Int):=by omega
  have hk1:(k:Int)<(K:Int):=by omega
  have hsz2:w5.heap.size<=Y2.heap.size:=mV.out.1.size;have Ui:=hid DW;have YM:=hid mg;clear hI1 qU Gu hI4 hs2 ht2 Uh hmem yq hnew Jl e1 e2 e3 hcg hfg Ee ET hback hnu acg DW;gi_wp2;have hqm:=hqC Y2 ⟨w3.heap.size+1,0,none⟩ (.map (some w3.heap.size)) fun xh=>(one_cell ((xh.2.block _ (ay vf.out)).trans vf.out)).1;have MW:=hqC Y2 ⟨w3.heap.size+3,0,none⟩ (.slice (some ⟨w3.heap.size+2,0,none⟩) K K) fun xh=>(one_cell ((xh.2.block _ (ay zu.out)).trans zu.out)).1;have Ak:=hqC Y2 ⟨Y.heap.size,0,none⟩ (.int .i64 (k:Int)) fun xh=>(nN ((xh.2.block _ (ay pT.out)).trans pT.out)).1.1;have Al:=hqC Y2 ⟨Y.heap.size,1,none⟩ (.int .i64 (i:Int)) fun xh=>(nN ((xh.2.block _ (ay pT.out)).trans pT.out)).1.2;have hqu:=hqC Y2 ⟨w3.heap.size+2,k,none⟩ (.slice ua nu uc) fun xh=>(World.cell?_of_block (w:=Y2) (a:=⟨w3.heap.size+2,k,none⟩) (xh.2.block _ (zBl Y2 ⟨w3.heap.size+2,k,none⟩ HUc.out))).trans HUc.out;refine mE 8 (.quiet 0 (.quiet 1 (.quiet 2 (.quiet 3 (.quiet 4 (.quiet 5 (.quiet 6 (.quiet 7 .done)))))))) (BL Y2) (by kernel_rfl) (by kernel_rfl) (by kernel_rfl) (af5 aj 1) ?_;intro KK hKK;have lP:Hid (BL Y2 (Y2.drewN 1)):=hid (af5 aj 1);have rO:Hid (cT (Y2.drewN 1) w3.heap.size pre.length F):=hid (Nj.out.keep rfl);generalize Y2.drewN 1=Y3 at*;obtain⟨Y4,hput,hC4,hT4⟩:=rO.out.put (by omega) (v:=(nu:Int)) yg.out.1 yg.out.2 aci.out;unfold lW at hput;have Eg:=hid hC4;have JX:=hid hT4;clear hC4 hT4
  iterate 8
   refine ai rfl ?_
   intro hne
   go_big_quiet_step (fail)
   refine zWq ?_
   clear hne
  refine aL ?_;try simp only[zDs,zDz]
  clear hqm MW Ak Al hqu;have hob:∀b o,b=w3.heap.size->Y3.heap[b]?=some o->¬book o:=fun b o e ho=>by subst e;exact rO.out.obj ho
  have Uj:Hid (aJ (fun b o=>(b=w3.heap.size\/b=w3.heap.size+2\/w5.heap.size<=b)/\¬book o) w.heap.size Y2 Y4):=hid ((aJ.aM lP.out (by omega)).trans (aJ.dM JX.out (by have:=lP.out.size;omega) (fun b (e:b=w3.heap.size)=>by omega) (fun b o (e:b=w3.heap.size) ho=>⟨.inl e,hob b o e ho⟩)));have Uk:Hid (∀b,b≠w3.heap.size->b<Y2.heap.size->Y4.heap[b]?=Y2.heap[b]?):=hid (fun b h1 h2=>(JX.out.block b h1 (by have:=lP.out.size;omega)).trans (lP.out.block b h2));have hz24:Y2.heap.size<=Y4.heap.size:=by have:=lP.out.size;have:=JX.out.size;omega
  clear hob rO lP;go_wp2;refine hKK _ _ ?_;clear hKK;have HV4b:Hid (bL (fun b=>b=w3.heap.size+2\/w5.heap.size<=b) Y4 (.slice (some ⟨w3.heap.size+2,0,none⟩) K K) (aF.kJ W K pre)):=hid (bM.keep LB.out (fun b hb hlt=>Uk.out b (by rcases hb with h|h<;>omega) hlt));have acj:Hid (Y4.heap[w3.heap.size+3]?=some (.cells #[.slice (some ⟨w3.heap.size+2,0,none⟩) K K] 30 (0,0))):=hid ((Uk.out _ (by omega) (ay zu.out)).trans zu.out);have acn:Hid (Y4.heap[w.heap.size+1]?=some (.cells #[.slice aw K cw] 30 (0,0))):=hid ((Uk.out _ (by omega) (ay A6.out)).trans A6.out);have QC:Hid (Y4.heap[Y.heap.size]?=some (.cells #[.int .i64 (k:Int),.int .i64 (i:Int)] 87 (0,0))):=hid ((Uk.out _ (by omega) (ay pT.out)).trans pT.out);have aco:Hid (BL w Y4):=hid (BI.out.trans (mV.out.1.trans Uj.out.1));have acp:k<(aF.kJ W K pre).length:=by rw[aF.FT];exact hkK
  obtain⟨gb,R8,uu,TT,e1,e2,e3,Gg,hcg,hfg,Ee,ET, -,hback⟩:=gD.borrow fE HV4b.out k acp
  have hgg:w3.heap.size+2=gb:=by
   simp only[Value.slice.injEq,Option.some.injEq,Addr.mk.injEq] at e1;exact e1.1.1
  subst hgg;obtain⟨va,vc,rfl,SV, -, -⟩:=(ko.sl Ee).form
  have BJ:Hid (∀b,some b=(Value.slice va (aF.kJ W K pre)[k].length vc).ownBlock->w5.heap.size<=b/\b≠Y.heap.size/\TT b/\∃c,Y4.heap[b]?=some (.cells c 22 (0,0))):=hid (fun b hb=>by
   obtain⟨hr1,us,Z,xR, -⟩:=Ee;have hTb:=hr1 b hb.symm;have h3:=ET b hTb;rcases xR.2 with⟨h0,_⟩|⟨g2,c2,cur,hv2,hb2,hg2,_⟩
   ·rw[h0] at hb;cases hb
   ·rw[hv2] at hb
    cases hb;refine⟨by rcases h3.1 with h|h<;>omega,fun e=>?_,hTb,_,hg2⟩;have e':g2=Y.heap.size:=e;rw[e'] at hg2;rw[QC.out] at hg2;cases hg2)
  obtain⟨nv,hnv⟩:=nmE ((aF.kJ W K pre)[k].length)
  have hnvl:nv<=512:=by
   rw[hnv,aF.yO,zLm];exact Nat.le_trans (List.length_filter_le _ _) hpl
  rw[<-hnv] at Ee hcg SV hback BJ;have HNv:=hid hnv;clear hnv;have ZU:=hid Ee;have K8:=hid ET;have OQ:=hid hback;obtain⟨uk,Am,EN⟩:=Jv.out.sG.lW YM.out;obtain⟨ka,kc,rfl,hka, -, -⟩:=Am.form;obtain⟨ui,Ao,Yt⟩:=Am.lW Ui.out;obtain⟨ra,rc,rfl,hra, -, -⟩:=Ao.form;have Gh:Hid (∀V,BL w V->aA (·<B) w V):=hid (fun V hV=>aA.aM (hV.mono Jv.out.le) (fun _ h=>h))
  have hrl:W[k][i].length<=100:=by
   have h1:=qu.out.jc k YM.out _ (zGm Ui.out);have h2:=qu.out.af4 k;omega
  have VG:=hid (fun V (hV:BL w V)=>KU W[k][i] (by omega) _ _ V (Ao.keep (Gh.out V hV)));have yp:Hid (W[k][i]=aF.Jp W k i):=hid (by unfold aF.Jp;rw[Sub.aR YM.out,Sub.aR Ui.out];rfl);have hi0:(0:Int)<=(i:Int):=by omega
  have hi1:(i:Int)<(W[k].length:Int):=by have:=Ui.out;omega
  have ud:Hid (∀V,Turns (fun b=>some b=(Value.slice va nv vc).ownBlock) Y4 V->BL w V):=hid (fun V hV=>aco.out.trans (hV.below aco.out.size (fun b hb=>by have:=(BJ.out b hb).1;omega)));have HCg:=hid hcg;have hskv:dG (some ⟨w3.heap.size+2,0,none⟩) K:=fun _=>⟨_,_,rfl⟩;have HHuk:=hid EN;have HHui:=hid Yt;clear e1 e2 e3 hcg hfg Ee ET hback Am Ao EN Yt hput;generalize W[k][i]=row at*;generalize W[k].length=nk at*;generalize hrn:row.length=nrw at*;have HRn:=hid hrn;clear hrn;obtain⟨Φ,hΦ⟩:∃Φ:World->Prop,Φ=fun V=>Turns (fun b=>some b=(Value.slice va nv vc).ownBlock) Y4 V:=⟨_,rfl⟩;have Qp:Hid (∀V,Φ V->Turns (fun b=>some b=(Value.slice va nv vc).ownBlock) Y4 V):=hid (by rw[hΦ];exact fun _ h=>h);have ES:Hid (∀V,Turns (fun b=>some b=(Value.slice va nv vc).ownBlock) Y4 V->Φ V):=hid (by rw[hΦ];exact fun _ h=>h);clear hΦ;gi_wp2;have MW:∀xh:Held Φ,xh.1.cell? ⟨w3.heap.size+3,0,none⟩=some (.slice (some ⟨w3.heap.size+2,0,none⟩) K K):=fun xh=>(one_cell (((Qp.out _ xh.2).block _ (fun hb=>by have:=(BJ.out _ hb).1;omega) (ay acj.out)).trans acj.out)).1;have hqw:∀xh:Held Φ,xh.1.cell? ⟨w.heap.size+1,0,none⟩=some (.slice aw K cw):=fun xh=>(one_cell (((Qp.out _ xh.2).block _ (fun hb=>by have:=(BJ.out _ hb).1;omega) (ay acn.out)).trans acn.out)).1;have Ak:∀xh:Held Φ,xh.1.cell? ⟨Y.heap.size,0,none⟩=some (.int .i64 (k:Int)):=fun xh=>(nN (((Qp.out _ xh.2).block _ (fun hb=>(BJ.out _ hb).2.1 rfl) (ay QC.out)).trans QC.out)).1.1;have Al:∀xh:Held Φ,xh.1.cell? ⟨Y.heap.size,1,none⟩=some (.int .i64 (i:Int)):=fun xh=>(nN (((Qp.out _ xh.2).block _ (fun hb=>(BJ.out _ hb).2.1 rfl) (ay QC.out)).trans QC.out)).1.2;have hqu:∀xh:Held Φ,xh.1.cell? ⟨w3.heap.size+2,k,none⟩=some (.slice va nv vc):=fun xh=>(World.cell?_of_block (w:=Y4) (a:=⟨w3.heap.size+2,k,none⟩) ((Qp.out _ xh.2).block (w3.heap.size+2) (fun hb=>by have:=(BJ.out _ hb).1;omega) (zBl Y4 ⟨w3.heap.size+2,k,none⟩ HCg.out))).trans HCg.out;have hqk:∀xh:Held Φ,xh.1.cell? ⟨aY aw,bC aw+k,none⟩=some (.slice ka nk kc):=fun xh=>HHuk.out xh.1 (Gh.out _ (ud.out _ (Qp.out _ xh.2)));have hqi:∀xh:Held Φ,xh.1.cell? ⟨aY ka,bC ka+i,none⟩=some (.slice ra nrw rc):=fun xh=>HHui.out xh.1 (Gh.out _ (ud.out _ (Qp.out _ xh.2)));refine mE 20 (.quiet 0 (.quiet 1 (.quiet 2 (.quiet 3 (.quiet 4 (.quiet 5 (.quiet 6 (.quiet 7 (.quiet 8 (.quiet 9 (.quiet 10 (.quiet 11 (.quiet 12 (.quiet 13 (.quiet 14 (.quiet 15 (.quiet 16 (.one 17 (.one 18 (.one 19 .done)))))))))))))))))))) Φ (by kernel_rfl) (by kernel_rfl) (by kernel_rfl) (ES.out _ (Turns.aM (af5 aj 1))) ?_;intro KK hKK;have lP:Hid (BL Y4 (Y4.drewN 1)):=hid (af5 aj 1);generalize Y4.drewN 1=Y5 at*
  iterate 17
   refine ai rfl ?_
   intro hne
   go_big_quiet_step (fail)
   refine zWq ?_
   clear hne
  refine aH rfl ?_;go_wp2_with fail;refine(VG.out Y5 (ud.out _ (Turns.aM lP.out))).mono ?_;rintro e Y6 ⟨xv,rfl,hx,lN⟩;obtain⟨xa,xc,rfl, -, -, -⟩:=(cF.sl hx).form;have jC:=bq lP lN;have hz45:=lP.out.size;have HX6:Hid (cF (fun b=>Y4.heap.size<=b) Y6 (.slice xa row.length xc) row):=hid (bg.mono hx (fun b _ (hb:Y5.heap.size<=b)=>by show Y4.heap.size<=b;omega));clear hx lN lP;go_wp2_with fail;refine aC Φ (fun _ h=>h) (ES.out _ (Turns.aM jC.out)) ?_;refine aH rfl ?_;go_wp2_with fail;refine aC Φ (fun _ h=>h) (ES.out _ ((Turns.aM jC.out).alloc _)) ?_;refine aH rfl ?_;clear MW hqw Ak Al hqu hqk hqi;have hb6':=jC.out;have hnv1:=HRn.out;go_wp2_with (at_builtin;go_must (refine nV (v:=.slice va nv vc) bg rfl _ _ rfl Tryz.UE (by rfl) ZU.out hb6' (by rfl) row HX6.out rfl (by have:=HNv.out;omega) ?_));intro v' Y7 hR7 qX;obtain⟨fa,fl,fc,rfl⟩:∃a l c,v'=.slice a l c:=by obtain⟨a,c,e,_⟩:=(ko.sl hR7).form;exact⟨_,_,_,e⟩
  have YN:Hid (Turns (fun b=>some b=(Value.slice va nv vc).ownBlock) Y4 Y7):=hid ((Turns.aM jC.out).trans qX);obtain⟨k1,k2,k3,k4⟩:=OQ.out Y7 _ _ (YN.out.mono (fun b _ hb=>(BJ.out b hb).2.2.1)) hR7
  have HV8:Hid (bL (fun b=>b=w3.heap.size+2\/w5.heap.size<=b) (Y7.setCell ⟨w3.heap.size+2,k,none⟩ (.slice fa fl fc)) (.slice (some ⟨w3.heap.size+2,0,none⟩) K K) (aF.kJ W K (pre++[(k,i)]))):=hid (by
   rw[aF.Mu acp,<-yp.out]
   refine bM.mono k3 (fun b _ hb=>?_)
   rcases hb with hb|hb
   ·exact hb.1
   ·exact .inr (by have:=Uj.out.1.size;omega))
  have acq:Hid (aJ (fun b o=>(b=w3.heap.size\/b=w3.heap.size+2\/w5.heap.size<=b)/\¬book o) w.heap.size Y4 (Y7.setCell ⟨w3.heap.size+2,k,none⟩ (.slice fa fl fc))):=hid (by
   obtain⟨og,hog,hogb⟩:=QB k1
   refine aJ.setCell (p:=⟨w3.heap.size+2,k,none⟩) (aJ.dM YN.out (by omega) (fun b hb=>by have:=(BJ.out b hb).1;omega) (fun b o hb ho=>?_)) hog ⟨.inr (.inl rfl),hogb⟩ (by show w.heap.size<=w3.heap.size+2;omega) _
   obtain⟨q1, -, -,c,q2⟩:=BJ.out b hb
   rw[q2] at ho
   cases ho
   exact⟨.inr (.inr q1),by simp[book]⟩)
  have rO:Hid (cT (Y7.setCell ⟨w3.heap.size+2,k,none⟩ (.slice fa fl fc)) w3.heap.size (pre.length+1) (sy F (k:Int) (i:Int) (nu:Int))):=hid (Eg.out.keep (k4.block w3.heap.size (fun hb=>by
   rcases hb with hb|hb
   ·rcases (K8.out _ hb).1 with h|h<;>omega
   ·omega) Eg.out.lt))
  have HQ:Hid (QS (fun b o=>(b=w3.heap.size\/b=w3.heap.size+2\/w5.heap.size<=b)/\¬book o) w.heap.size (fun pre Y=>aJ (fun b o=>((b=w3.heap.size\/b=w3.heap.size+2\/w5.heap.size<=b)/\¬book o)\/aS w5.heap.size b o) w.heap.size w5 Y/\bL (fun b=>b=w3.heap.size+2\/w5.heap.size<=b) Y (.slice (some ⟨w3.heap.size+2,0,none⟩) K K) (aF.kJ W K pre)/\
    ∃F,cT Y w3.heap.size pre.length F/\∀p∈pre,F p.1 p.2=(aF.dK s p.1 p.2:Nat)) (fun(_:List (Nat×Nat)) _=>False) (pre++[(k,i)]) Y2 .normal {tmps:=#[],defers:=[]} (Y7.setCell ⟨w3.heap.size+2,k,none⟩ (.slice fa fl fc))):=hid (by
   refine⟨Uj.out.trans acq.out,mV.out.trans ((Uj.out.trans acq.out).mono (fun b o h=>.inl h)),HV8.out,sy F (k:Int) (i:Int) (nu:Int),?_,fun p hp=>?_⟩
   ·rw[zLa]
    exact rO.out
   ·unfold sy
    rcases List.mem_append.1 hp with hp|hp
    ·by_cases e:((p.1:Nat):Int)=(k:Int)/\((p.2:Nat):Int)=(i:Int)
     ·have e1:p.1=k:=by omega
      have e2:p.2=i:=by omega
      rw[if_pos e,ach.out,e1,e2]
     ·rw[if_neg e]
      exact uU.out p hp
    ·rw[zMs.1 hp]
     rw[if_pos ⟨rfl,rfl⟩,ach.out])
  have hph:=ES.out _ YN.out;clear hR7 qX k3 k4 HX6 OQ ZU K8 HV8 rO;go_wp2_with fail;refine aC Φ (fun _ h=>h) hph ?_;refine aL ?_;try simp only[zDs,zDz]
  go_wp2;refine hKK _ _ ?_;exact HQ.out
 case hdone=>
  rintro D xs Y hD rfl ⟨hI1,qU,F,Gu,hI4⟩ hk;have hKx:K=x.af3.length:=by rw[Ni.out];exact qu.out.len
  obtain⟨SS,hSS⟩:∃SS:Nat->Prop,SS=fun b=>(b=w3.heap.size+2\/w5.heap.size<=b)/\Ay Y b:=⟨_,rfl⟩
  have rF:bL SS Y (.slice (some ⟨w3.heap.size+2,0,none⟩) K K) (aF.tab x.af3.length (fun k=>aF.dK s k (aF.bH W k)) (fun k:Nat=>(ah.kd x k).af4.length) (aF.cell0 W s)):=by
   have h0:=DZ qU;rw[Ni.out,aF.Mv Bn.out (m:=fun k:Nat=>(ah.kd x k).af4.length) qu.out.jc,qu.out.len] at h0;rw[hSS,hKx];exact h0
  have Nn:Hid (¬SS D/\(∀b,SS b->w3.heap.size+2<=b/\b≠w3.heap.size+3/\b<Y.heap.size)):=hid (by
   rw[hSS]
   refine⟨fun h=>?_,fun b hb=>⟨by rcases hb.1 with h|h<;>omega,by rcases hb.1 with h|h<;>omega,?_⟩⟩
   ·obtain⟨c,t,fr,hc⟩:=h.2
    rw[hk] at hc;cases hc
   ·obtain⟨c,t,fr,hc⟩:=hb.2
    exact ay hc)
  have HV0:=hid rF
  have Uh:∀b c t fr,b≠w3.heap.size->b≠w3.heap.size+2->b<w5.heap.size->w5.heap[b]?=some (.cells c t fr)->Y.heap[b]?=some (.cells c t fr):=fun b c t fr h1 h2 h3 hb=>hI1.2 _ _ hb (by
   rintro (h|h)
   ·rcases h.1 with h|h|h<;>omega
   ·simp[aS,book] at h)
  have HMY:Hid (Y.heap[w3.heap.size+1]?=some (.cells #[.map (some w3.heap.size)] 154 (0,0))):=hid (Uh _ _ _ _ (by omega) (by omega) (by omega) NF.out);have HOY:Hid (Y.heap[w3.heap.size+3]?=some (.cells #[.slice (some ⟨w3.heap.size+2,0,none⟩) K K] 30 (0,0))):=hid (Uh _ _ _ _ (by omega) (by omega) (by omega) Yf.out);have HXY:Hid (Y.heap[w.heap.size]?=some (.cells #[.int .i64 x.af6,.slice ak x.af3.length ck,.slice al x.af7.length cl,.slice ar x.af8.length cr] 27 (0,0))):=hid (Uh _ _ _ _ (by omega) (by omega) (by omega) (HX.out w5 fS.out));have HCY:Hid (cT Y w3.heap.size (Sub.kept s).length F):=hid Gu;have HFY:=hid hI4;have HDY:=hid hk;have HBY:Hid (BL w Y):=hid (BI.out.trans hI1.1);have hszY:w5.heap.size<=Y.heap.size:=hI1.1.size;have hDY:D<Y.heap.size:=ay hk;clear hSS rF hI1 qU Gu hI4 hk Uh FP;have HKx:=hid hKx;clear hKx;have hx6:x.af3.length<=6:=qu.out.af3
  have Nk:=hid (fun(X:World) (hX:BL w X)=>zX x qu.out.af3 (fun k hk=>by
   obtain⟨j,hj,rfl⟩:=List.getElem_of_mem hk;rw[<-fM hj];exact qu.out.af4 j) _ _ X (Jv.out.next hX).vY)
  obtain⟨⟨y0,y1,y2,y3⟩, -⟩:=aO HXY.out;dsimp only;go_wp2_with fail;refine(Nk.out Y HBY.out).mono ?_;rintro e Z1 ⟨qa,qc,rs,rfl,hr60,Mj,hrf,hbZ⟩;have Jj:=(rP.abH (S':=fun _=>False) hrf).sl cQ (T:=fun b=>Y.heap.size<=b/\b<Z1.heap.size) (fun b _ h=>h.elim) (fun b hb=>hrf.lt b hb);have HBZ:=hid hbZ;have VK:=hid Jj;obtain⟨qo,qco,eo,MW, -, -⟩:=Jj.form;cases eo;have Bl:=hid Mj;have hzY:=hbZ.size;have HVZ:Hid (bL SS Z1 (.slice (some ⟨w3.heap.size+2,0,none⟩) K K) (aF.tab x.af3.length (fun k=>aF.dK s k (aF.bH W k)) (fun k:Nat=>(ah.kd x k).af4.length) (aF.sH x W s 0))):=hid (by rw[aF.Mw];exact bM.keep HV0.out (aA.below hbZ));clear hrf hbZ Jj Mj y0 y1 y2 y3;go_wp2;go_loopw [71] (fun jj wr=>∃j:Nat,j<=rs.length/\jj=.int .i64 j/\Hid (bL SS wr (.slice (some ⟨w3.heap.size+2,0,none⟩) K K) (aF.tab x.af3.length (fun k=>aF.dK s k (aF.bH W k)) (fun k:Nat=>(ah.kd x k).af4.length) (aF.sH x W s j)))/\Hid (Turns SS Z1 wr)) (fun jj _=>rs.length-(intOf jj).toNat);case atStart=>exact⟨0,Nat.zero_le _,rfl,HVZ,hid (Turns.refl _ _)⟩
  case round=>
   obtain⟨j,hj,rfl,HVr,Nl⟩:=hrel;by_cases hlt:j<rs.length
   ·have hj0:(0:Int)<=(j:Int):=by omega
    have hj1:(j:Int)<(rs.length:Int):=by omega
    obtain⟨-,us,Kk,hcs,TG⟩:=dA.at (dA.keep cQ VK.out (Nl.out.keep (fun b hb hS=>by have:=(Nn.out.2 b hS).2.2;have:=hb.1;omega))) hlt;obtain rfl:us=_:=TG;have y0:wr.cell? ⟨aY qa,bC qa+j*4,none⟩=some (.int .i64 (rs[j].kind:Int)):=hcs 0 _ rfl;have y1:wr.cell? ⟨aY qa,bC qa+j*4+1,none⟩=some (.int .i64 (rs[j].field:Int)):=hcs 1 _ rfl;have y2:wr.cell? ⟨aY qa,bC qa+j*4+2,none⟩=some (.int .i64 rs[j].up):=hcs 2 _ rfl;have y3:wr.cell? ⟨aY qa,bC qa+j*4+3,none⟩=some (.int .i64 rs[j].least):=hcs 3 _ rfl;have hjR:j<(aF.bT x).length:=by rw[<-Bl.out];exact hlt
    have hmem:rs[j]∈aF.bT x:=by rw[<-Bl.out];exact zGm hlt
    obtain⟨q1,q2,q3,q4,q5,q6,q7,q8⟩:=qu.out.refs _ hmem;have YO:(aF.bT x)[j]=rs[j]:=by simp only[Bl.out]
    have HHe:Hid (∀a,aF.uN x W s j rs[j].kind rs[j].field a rs[j].kind a rs[j].field=aF.cell0 W s rs[j].kind a rs[j].field):=hid (fun a=>by have:=aF.Mz (W:=W) (s:=s) hjR a;rwa [YO] at this);have Ei:Hid (∀n:Nat->Nat,aF.tab x.af3.length n (fun k:Nat=>(ah.kd x k).af4.length) (aF.uN x W s j rs[j].kind rs[j].field (n rs[j].kind))=aF.tab x.af3.length n (fun k:Nat=>(ah.kd x k).af4.length) (aF.sH x W s (j+1))):=hid (fun n=>by have:=aF.Qy (W:=W) (s:=s) (K:=x.af3.length) (n:=n) (m:=fun k:Nat=>(ah.kd x k).af4.length) hjR;rwa [YO] at this);clear hcs Kk hmem YO;generalize rs[j]=rf at*;obtain⟨rk,rj,ru,rl⟩:=rf;simp only at y0 y1 y2 y3 q1 q2 q3 q4 q5 q6 q7 q8 HHe Ei;obtain⟨m,rfl⟩:∃m:Nat,ru=(m:Int):=⟨ru.toNat,by omega⟩;have HQ8:=hid q8;have zI:=hid q7;clear q7 q8;obtain⟨Z2,hw⟩:=nmE (wr.alloc (.cells #[.int .i64 (rk:Int),.int .i64 (rj:Int),.int .i64 (m:Int),.int .i64 rl] 159));have HI2:Hid (Z2.heap[wr.heap.size]?=some (.cells #[.int .i64 (rk:Int),.int .i64 (rj:Int),.int .i64 (m:Int),.int .i64 rl] 159 (0,0))):=hid (by rw[hw];exact aD wr _ rfl);have cU:Hid (Below wr.heap.size wr Z2):=hid (by rw[hw];exact aj.alloc aB _);have mV:Hid (Turns SS Z1 Z2):=hid (by rw[hw];exact Nl.out.alloc _);have LB:Hid (bL SS Z2 (.slice (some ⟨w3.heap.size+2,0,none⟩) K K) (aF.tab x.af3.length (fun k=>aF.dK s k (aF.bH W k)) (fun k:Nat=>(ah.kd x k).af4.length) (aF.uN x W s j rk rj 0))):=hid (by rw[aF.Mx];exact bM.keep HVr.out (aA.below cU.out));have rG:Hid (∀b,b<Y.heap.size->¬SS b->Z2.heap[b]?=Y.heap[b]?):=hid (fun b h1 h2=>(mV.out.block b h2 (by omega)).trans (HBZ.out.block b h1));have zu:Hid (Z2.heap[w3.heap.size+3]?=some (.cells #[.slice (some ⟨w3.heap.size+2,0,none⟩) K K] 30 (0,0))):=hid ((rG.out _ (ay HOY.out) (fun h=>(Nn.out.2 _ h).2.1 rfl)).trans HOY.out);have vf:Hid (Z2.heap[w3.heap.size+1]?=some (.cells #[.map (some w3.heap.size)] 154 (0,0))):=hid ((rG.out _ (ay HMY.out) (fun h=>by have:=(Nn.out.2 _ h).1;omega)).trans HMY.out);have Nj:Hid (cT Z2 w3.heap.size (Sub.kept s).length F):=hid (HCY.out.keep (rG.out _ HCY.out.lt (fun h=>by have:=(Nn.out.2 _ h).1;omega)));have Hv:Y.heap.size<=wr.heap.size:=by have:=Nl.out.size;omega
    have HW2:=hid hw;clear hw;go_upto_region 15 with fail;rw[<-HW2.out];clear y0 y1 y2 y3;obtain⟨⟨y0,y1,y2,y3⟩, -⟩:=aO HI2.out;have o0:=(one_cell zu.out).1;obtain⟨go,co,ka,kc,hfo,acf,hkc,hkm,Av⟩:=qw LB.out q1;simp only[Value.slice.injEq,Option.some.injEq,Addr.mk.injEq] at hfo;obtain⟨⟨rfl, -, -⟩, -, -⟩:=hfo;have BF:=Av Z2 (fun _ _ _=>rfl);have Mt:=hid BF;have hr0:(0:Int)<=(rk:Int):=by omega
    have hr1:(rk:Int)<(K:Int):=by have:=HKx.out;omega
    clear Av;obtain⟨nr,sx⟩:=nmE (aF.dK s rk (aF.bH W rk));rw[<-sx] at BF Mt acf hkc;have Gs:=hid sx;clear sx;go_wp2;clear y0 y1 y2 y3 o0 BF;generalize LY:wr=Wb at*;go_loopw [81] (fun aa wr=>∃a:Nat,a<=nr/\aa=.int .i64 a/\Hid (bL SS wr (.slice (some ⟨w3.heap.size+2,0,none⟩) K K) (aF.tab x.af3.length (fun k=>aF.dK s k (aF.bH W k)) (fun k:Nat=>(ah.kd x k).af4.length) (aF.uN x W s j rk rj a)))/\Hid (Turns SS Z2 wr)/\Hid (wr.cell? ⟨w3.heap.size+2,rk,none⟩=some (.slice ka nr kc))) (fun aa _=>nr-(intOf aa).toNat);case atStart=>exact⟨0,Nat.zero_le _,rfl,LB,hid (Turns.refl _ _),Mt⟩
    case round=>
     obtain⟨a,ha,rfl,Ef,HTa,HGa⟩:=hrel;by_cases hat:a<nr
     ·have ha0:(0:Int)<=(a:Int):=by omega
      have ha1:(a:Int)<(nr:Int):=by omega
      have han:a<aF.dK s rk (aF.bH W rk):=by rw[<-Gs.out];exact hat
      obtain⟨go,co,gk,ck,gi,ci,hR⟩:=oG Ef.out q1 han (by omega:0<(ah.kd x rk).af4.length);have hf1:=hR.form;simp only[Value.slice.injEq,Option.some.injEq,Addr.mk.injEq] at hf1;obtain⟨⟨rfl, -, -⟩, -, -⟩:=hf1;obtain⟨r1,r2,r3, -⟩:=hR.rd wr (fun _ _ _=>rfl);have hkk:=r1.symm.trans HGa.out;simp only[Option.some.injEq,Value.slice.injEq] at hkk;obtain⟨rfl, -,rfl⟩:=hkk;obtain⟨acr,VW,VX⟩:=aF.yN han;have hlead:=aF.DR qu.out q1 q2 zI.out VX;have hkp:=aF.Aa LW.out q1 q2 zI.out VW;rw[<-HQ8.out] at hlead hkp;obtain⟨vN,hvN⟩:∃v:Nat,aF.cell0 W s rk a rj=(v:Int):=⟨(aF.cell0 W s rk a rj).toNat,by unfold aF.cell0;omega⟩
      have acs:(aF.mq W rk (aF.qm s rk (aF.bH W rk) a) rj).toNat=vN:=by
       have:aF.cell0 W s rk a rj=aF.mq W rk (aF.qm s rk (aF.bH W rk) a) rj:=rfl;omega
      rw[acs,Int.toNat_natCast] at hkp;have hFv:=HFY.out (m,vN) (Sub.cO.2 hkp);simp only at hFv;obtain⟨nw,hnw⟩:=nmE (aF.dK s m vN);rw[<-hnw] at hFv
      have hvs:vN<=512:=by
       have h1:=hlead.2.2.2;have h2:=uG W (m:Int);have h3:=qu.out.tot;have:aF.cell0 W s rk a rj=aF.mq W rk (aF.qm s rk (aF.bH W rk) a) rj:=rfl;omega
      have AV:m<=6:=by have:=qu.out.af3;omega
      have Jo:Hid (∀X,BL wr X->X.cell? ⟨gi,rj,none⟩=some (.int .i64 (vN:Int))/\X.frozen? ⟨gi,rj,none⟩=false):=hid (fun X hX=>by
       obtain⟨-, -,e3, -⟩:=hR.rd X (aA.below hX);obtain⟨e4,e5⟩:=e3 rj q2;rw[HHe.out,hvN] at e4;exact⟨e4,e5⟩)
      have uW:Hid (∀X,BL wr X->bL SS (X.setCell ⟨gi,rj,none⟩ (.int .i64 (nw:Int))) (.slice (some ⟨w3.heap.size+2,0,none⟩) K K) (aF.tab x.af3.length (fun k=>aF.dK s k (aF.bH W k)) (fun k:Nat=>(ah.kd x k).af4.length) (aF.uN x W s j rk rj (a+1)))/\Turns SS Z2 (X.setCell ⟨gi,rj,none⟩ (.int .i64 (nw:Int)))/\
        (X.setCell ⟨gi,rj,none⟩ (.int .i64 (nw:Int))).cell? ⟨w3.heap.size+2,rk,none⟩=some (.slice (some ⟨gk,0,none⟩) nr ck)):=hid (fun X hX=>by
       refine⟨?_,(HTa.out.trans (Turns.aM hX)).setCell _ _ hR.blk,?_⟩
       ·rw[<-aF.MB,<-HQ8.out,hvN,Int.toNat_natCast,Int.toNat_natCast,<-hnw]
        exact hR.set X (aA.below hX) rj q2 _
       ·rw[World.cell?_of_block (w:=X) (a:=⟨w3.heap.size+2,rk,none⟩) (zBh _ ⟨gi,rj,none⟩ _ _ (fun(e:w3.heap.size+2=gi)=>hR.ne1 e.symm))]
        rw[(hR.rd X (aA.below hX)).1,Gs.out])
      have HKa:Hid (∀b,b<Z2.heap.size->¬SS b->wr.heap[b]?=Z2.heap[b]?):=hid (fun b h1 h2=>HTa.out.block b h2 h1);have HIa:Hid (wr.heap[Wb.heap.size]?=some (.cells #[.int .i64 (rk:Int),.int .i64 (rj:Int),.int .i64 (m:Int),.int .i64 rl] 159 (0,0))):=hid ((HKa.out _ (ay HI2.out) (fun h=>by have:=(Nn.out.2 _ h).2.2;omega)).trans HI2.out);have HMa:Hid (wr.heap[w3.heap.size+1]?=some (.cells #[.map (some w3.heap.size)] 154 (0,0))):=hid ((HKa.out _ (ay vf.out) (fun h=>by have:=(Nn.out.2 _ h).1;omega)).trans vf.out);have acu:Hid (cT wr w3.heap.size (Sub.kept s).length F):=hid (Nj.out.keep (HKa.out _ Nj.out.lt (fun h=>by have:=(Nn.out.2 _ h).1;omega)))
      have L0:Hid (∀X,BL wr X->(Instr.lookup 154 (.map (some w3.heap.size)) (.agg #[.int .i64 (m:Int),.int .i64 (vN:Int)]) false).run Tryz.prog X=.ok (.int .i64 (nw:Int)) X):=hid (fun X hX=>by
       have:=(acu.out.keep (hX.block _ acu.out.lt)).look (a:=(m:Int)) (c:=(vN:Int)) ⟨by omega,by omega⟩ ⟨by omega,by omega⟩;rw[hFv] at this;exact this)
      have hrj0:(0:Int)<=(rj:Int):=by omega
      have hrj1:(rj:Int)<((ah.kd x rk).af4.length:Int):=by omega
      have hskk:dG (some ⟨gk,0,none⟩) nr:=fun _=>⟨_,_,rfl⟩;rw[<-Gs.out] at r1;clear acr VW VX hlead hkp hvN acs hFv hnw r3 hR han;go_upto_region 18 with fail;have hqm:=hqC wr ⟨w3.heap.size+1,0,none⟩ (.map (some w3.heap.size)) fun xh=>(one_cell ((xh.2.block _ (ay HMa.out)).trans HMa.out)).1;have hqb:=hqC wr ⟨Wb.heap.size,1,none⟩ (.int .i64 (rj:Int)) fun xh=>(aO ((xh.2.block _ (ay HIa.out)).trans HIa.out)).1.2.1;have SQ:=hqC wr ⟨Wb.heap.size,2,none⟩ (.int .i64 (m:Int)) fun xh=>(aO ((xh.2.block _ (ay HIa.out)).trans HIa.out)).1.2.2.1;have hqv:=hqC wr ⟨gi,rj,none⟩ (.int .i64 (vN:Int)) fun xh=>(Jo.out xh.1 xh.2).1;have hqk:∀xh:Held (BL wr),(Instr.lookup 154 (.map (some w3.heap.size)) (.agg #[.int .i64 (m:Int),.int .i64 (vN:Int)]) false).run Tryz.prog xh.1=.ok (.int .i64 (nw:Int)) xh.1:=fun xh=>L0.out xh.1 xh.2;refine agf wr 13 (.quiet 0 (.quiet 1 (.quiet 2 (.quiet 3 (.quiet 4 (.quiet 5 (.quiet 6 (.quiet 7 (.quiet 8 (.quiet 9 (.quiet 10 (.quiet 11 (.quiet 12 .done))))))))))))) mxT (by kernel_rfl) fun Z8 xE=>?_
      iterate 13
       refine ai rfl ?_
       intro hne
       go_big_quiet_step (fail)
       refine zWq ?_
       clear hne
      refine aL ?_;try simp only[zDs,zDz]
      clear hqm hqb SQ hqv hqk;obtain⟨e7,e8⟩:=Jo.out Z8 xE.out;have HN:=hid (uW.out Z8 xE.out);clear uW Jo L0;go_wp2;go_roundw;case rel=>exact⟨a+1,by omega,by go_num,hid HN.out.1,hid HN.out.2.1,hid HN.out.2.2⟩
      simp[intOf];omega
     ·obtain rfl:nr=a:=by omega
      have HN:Hid (bL SS wr (.slice (some ⟨w3.heap.size+2,0,none⟩) K K) (aF.tab x.af3.length (fun k=>aF.dK s k (aF.bH W k)) (fun k:Nat=>(ah.kd x k).af4.length) (aF.sH x W s (j+1)))):=hid (by
       have h1:=Ef.out
       rw[Gs.out] at h1
       rw[<-Ei.out (fun k=>aF.dK s k (aF.bH W k))]
       exact h1)
      go_wp2;go_roundw;case rel=>exact⟨j+1,by omega,by go_num,HN,hid (mV.out.trans HTa.out)⟩
      simp[intOf];omega
   ·obtain rfl:rs.length=j:=by omega
    have HVs:Hid (bL SS wr (.slice (some ⟨w3.heap.size+2,0,none⟩) K K) (aF.tab x.af3.length (fun k=>aF.dK s k (aF.bH W k)) (fun k:Nat=>(ah.kd x k).af4.length) (aF.gY x W s 0 0))):=hid (by
     have h1:=HVr.out
     rw[Bl.out,aF.Qz] at h1
     exact h1)
    have Hv:Y.heap.size<=wr.heap.size:=by have:=Nl.out.size;omega
    have HTy:Hid (Turns SS Y wr):=hid ((Turns.aM HBZ.out).trans Nl.out)
    have Np:Hid (∀V,Turns SS Y V->V.heap[w3.heap.size+3]?=some (.cells #[.slice (some ⟨w3.heap.size+2,0,none⟩) K K] 30 (0,0))/\V.heap[w.heap.size]?=some (.cells #[.int .i64 x.af6,.slice ak x.af3.length ck,.slice al x.af7.length cl,.slice ar x.af8.length cr] 27 (0,0))/\BL w V/\V.heap[D]?=some (.deferred (some []))):=hid (fun V hV=>
     ⟨(hV.block _ (fun h=>(Nn.out.2 _ h).2.1 rfl) (ay HOY.out)).trans HOY.out,(hV.block _ (fun h=>by have:=(Nn.out.2 _ h).1;omega) (ay HXY.out)).trans HXY.out,HBY.out.trans (hV.below HBY.out.size (fun b h=>by have:=(Nn.out.2 _ h).1;omega)),(hV.block _ Nn.out.1 hDY).trans HDY.out⟩)
    have Gq:Hid (∀V,BL w V->fV (·<B) V (.slice ak x.af3.length ck) x.af3):=hid (fun V hV=>by
     obtain⟨ak',Yc,al',LM,ar',cr',e,h1, -⟩:=(Jv.out.next hV).vY.form;simp only[Value.agg.injEq,Array.mk.injEq,List.cons.injEq,Value.slice.injEq,and_true,true_and] at e;obtain⟨⟨rfl,rfl⟩, -⟩:=e;exact h1)
    obtain⟨aK,cK,eK,hskK, -, -⟩:=(Gq.out w aj).form;cases eK;have HAd:=hid (fun(V:World) (hV:BL w V) (k i:Nat)=>Qv x Vv.out qu.out.af3 qu.out.af4 (fun k=>aF.dK s k (aF.bH W k)) (aF.gY x W s k i) k i);obtain⟨⟨y0,y1,y2,y3⟩, -⟩:=aO (Np.out wr HTy.out).2.1;go_wp2;clear y0 y1 y2 y3;generalize LY:wr=Wb at*;go_loopw [104] (fun kk wr=>∃k:Nat,k<=x.af3.length/\kk=.int .i64 k/\Hid (bL SS wr (.slice (some ⟨w3.heap.size+2,0,none⟩) K K) (aF.tab x.af3.length (fun k=>aF.dK s k (aF.bH W k)) (fun k:Nat=>(ah.kd x k).af4.length) (aF.gY x W s k 0)))/\Hid (Turns SS Y wr)) (fun kk _=>x.af3.length-(intOf kk).toNat);case atStart=>exact⟨0,Nat.zero_le _,rfl,HVs,HTy⟩
    case round=>
     obtain⟨k,hk,rfl,HVk,Gt⟩:=hrel;by_cases hlt:k<x.af3.length
     ·have hk0:(0:Int)<=(k:Int):=by omega
      have hk1:(k:Int)<(x.af3.length:Int):=by omega
      obtain⟨-, -,k0,k1,k2,uf,k3,M8⟩:=fV.at (Gq.out wr (Np.out wr Gt.out).2.2.1) hlt;obtain⟨fa,fc,rfl,hfok, -, -⟩:=M8.form;have HFv:=hid M8;have hkd:ah.kd x k=x.af3[k]:=fM hlt;have VY:x.af3[k].af4.length<=10:=by rw[<-hkd];exact qu.out.af4 k
      have uX:Hid (∀i (h:i<x.af3[k].af4.length),ah.fd x k i=x.af3[k].af4[i]):=hid (fun i h=>rI hlt h)
      have acv:Hid (∀n:Nat->Nat,aF.tab x.af3.length n (fun k:Nat=>(ah.kd x k).af4.length) (aF.gY x W s k x.af3[k].af4.length)=aF.tab x.af3.length n (fun k:Nat=>(ah.kd x k).af4.length) (aF.gY x W s (k+1) 0)):=hid (fun n=>by
       have:=aF.ME (x:=x) (W:=W) (s:=s) (n:=n) (K:=x.af3.length) (k:=k);rw[hkd] at this;exact this)
      have acw:Hid ((ah.kd x k).af4.length=x.af3[k].af4.length):=hid (by rw[hkd]);clear M8 hkd;obtain⟨fs,hfs⟩:=nmE (x.af3[k].af4);rw[<-hfs] at HFv hfok VY acv acw k3;have HFd2:Hid (∀i (h:i<fs.length),ah.fd x k i=fs[i]):=hid (by subst hfs;exact uX.out);clear hfs uX;generalize x.af3[k].name=kn at*;generalize x.af3[k].lo=kl at*;generalize x.af3[k].hi=kh at*;obtain⟨Z2,hw⟩:=nmE (wr.alloc (.cells #[.string kn,.int .i64 kl,.int .i64 kh,.slice fa fs.length fc] 102));have HI2:Hid (Z2.heap[wr.heap.size]?=some (.cells #[.string kn,.int .i64 kl,.int .i64 kh,.slice fa fs.length fc] 102 (0,0))):=hid (by rw[hw];exact aD wr _ rfl);have mV:Hid (Turns SS Y Z2):=hid (by rw[hw];exact Gt.out.alloc _);have cU:Hid (Below wr.heap.size wr Z2):=hid (by rw[hw];exact aj.alloc aB _);have LB:Hid (bL SS Z2 (.slice (some ⟨w3.heap.size+2,0,none⟩) K K) (aF.tab x.af3.length (fun k=>aF.dK s k (aF.bH W k)) (fun k:Nat=>(ah.kd x k).af4.length) (aF.gY x W s k 0))):=hid (bM.keep HVk.out (aA.below cU.out));have HW2:=hid hw;have hnK:fs.length<=10:=VY;clear hw;go_upto_region 24 with fail;rw[<-HW2.out];clear k0 k1 k2 k3;obtain⟨⟨y0,y1,y2,y3⟩, -⟩:=aO HI2.out;go_wp2;clear y0 y1 y2 y3;generalize hWc:wr=Wc at*;go_loopw [112] (fun ii wr=>∃i:Nat,i<=fs.length/\ii=.int .i64 i/\Hid (bL SS wr (.slice (some ⟨w3.heap.size+2,0,none⟩) K K) (aF.tab x.af3.length (fun k=>aF.dK s k (aF.bH W k)) (fun k:Nat=>(ah.kd x k).af4.length) (aF.gY x W s k i)))/\Hid (Turns SS Y wr)/\Hid (BL w wr)) (fun ii _=>fs.length-(intOf ii).toNat);case atStart=>exact⟨0,Nat.zero_le _,rfl,LB,mV,hid (Np.out Z2 mV.out).2.2.1⟩
      case round=>
       obtain⟨i,hi,rfl,HVi,HTi,Gi⟩:=hrel;by_cases hit:i<fs.length
       ·have hi0:(0:Int)<=(i:Int):=by omega
        have hi1:(i:Int)<(fs.length:Int):=by omega
        obtain⟨-, -,f0,f1,f2,f3,f4,f5,uw,ug,f6,f7,pq,hgs⟩:=dh.at (HFv.out.keep (fun b (hb:b<B) hlt=>by
         have h1:=((Np.out Wc Gt.out).2.2.1).block b (by have:=Jv.out.le;omega);have h2:=Gi.out.block b (by have:=Jv.out.le;omega);exact h2.trans h1.symm)) hit
        obtain⟨aw1,cw1,rfl, -, -, -⟩:=pq.form;obtain⟨ag1,cg1,rfl, -, -, -⟩:=hgs.form;have OP:ah.fd x k i=fs[i]:=HFd2.out i hit;have yg:Hid ((ah.fd x k i).kind=fs[i].kind):=hid (by rw[OP]);clear pq hgs OP;generalize fs[i]=g at*;obtain⟨gn,go,gu,gk,gl,gh,Gn,ggs⟩:=g;simp only at f0 f1 f2 f3 f4 f5 f6 f7 yg;generalize Gn.length=nw1 at*;generalize ggs.length=ng1 at*;obtain⟨Z3,hw⟩:=nmE (wr.alloc (.cells #[.string gn,.string go,.string gu,.int .i64 gk,.int .i64 gl,.int .i64 gh,.slice aw1 nw1 cw1,.slice ag1 ng1 cg1] 117));have HI3:Hid (Z3.heap[wr.heap.size]?=some (.cells #[.string gn,.string go,.string gu,.int .i64 gk,.int .i64 gl,.int .i64 gh,.slice aw1 nw1 cw1,.slice ag1 ng1 cg1] 117 (0,0))):=hid (by rw[hw];exact aD wr _ rfl);have dD:Hid (Below wr.heap.size wr Z3):=hid (by rw[hw];exact aj.alloc aB _);have xV:Hid (Turns SS Y Z3):=hid (by rw[hw];exact HTi.out.alloc _);have HV3:Hid (bL SS Z3 (.slice (some ⟨w3.heap.size+2,0,none⟩) K K) (aF.tab x.af3.length (fun k=>aF.dK s k (aF.bH W k)) (fun k:Nat=>(ah.kd x k).af4.length) (aF.gY x W s k i))):=hid (bM.keep HVi.out (aA.below dD.out));have mM:Hid (BL w Z3):=hid ((Np.out Z3 xV.out).2.2.1);have HW3:=hid hw;clear hw;go_upto_region 27 with fail;rw[<-HW3.out];clear f0 f1 f2 f3 f4 f5 f6 f7;obtain⟨⟨f0,f1,f2,f3,f4,f5,f6,f7⟩, -⟩:=dn HI3.out;by_cases h6:gk=6
        ·subst h6
         have Ng:(ah.fd x k i).kind=6:=yg.out;have hik:i<(ah.kd x k).af4.length:=by rw[acw.out];exact hit
         have HCd:Hid (CP 76 #[.agg #[.int .i64 x.af6,.slice ak x.af3.length ck,.slice al x.af7.length cl,.slice ar x.af8.length cr],.slice (some ⟨w3.heap.size+2,0,none⟩) K K,.int .i64 (k:Int),.int .i64 (i:Int)] Z3 fun e w'=>(∃r,e=.returned r)/\bL SS w' (.slice (some ⟨w3.heap.size+2,0,none⟩) K K) (aF.tab x.af3.length (fun k=>aF.dK s k (aF.bH W k)) (fun k:Nat=>(ah.kd x k).af4.length) (aF.gY x W s k (i+1)))/\Turns SS Z3 w'):=hid (by
          obtain⟨o1,o2,o3,o4,o5,o6,o7, -⟩:=aF.C4 Vv.out hlt hik Ng
          have kW:∀a,a<aF.dK s (aF.dW x k i) (aF.bH W (aF.dW x k i))->0<=aF.gY x W s k i (aF.dW x k i) a (aF.mN x k i)/\aF.gY x W s k i (aF.dW x k i) a (aF.mN x k i)<(aF.dK s k (aF.bH W k):Nat):=fun a ha=>by
           obtain⟨h1,h2,h3⟩:=aF.yN ha;have hlead:=aF.DR qu.out o1 o3 o5 h3;have hkp:=aF.Aa LW.out o1 o3 o5 h2;rw[o6] at hlead hkp;rw[Int.toNat_natCast] at hkp;rw[aF.uO (by omega)];unfold aF.oP;rw[if_pos o5,o6,Int.toNat_natCast]
           have hlt2:(aF.cell0 W s (aF.dW x k i) a (aF.mN x k i)).toNat<aF.bH W k:=by
            have h4:=hlead.2.2.2;have h5:=hlead.2.2.1;have e:ah.eV W (k:Int)=aF.bH W k:=rfl;rw[e] at h4;show (aF.mq W (aF.dW x k i) (aF.qm s (aF.dW x k i) (aF.bH W (aF.dW x k i)) a) (aF.mN x k i)).toNat<_
            omega
           have:=aF.KE hkp hlt2;have e:aF.dK s k (aF.mq W (aF.dW x k i) (aF.qm s (aF.dW x k i) (aF.bH W (aF.dW x k i)) a) (aF.mN x k i)).toNat=aF.dK s k (aF.cell0 W s (aF.dW x k i) a (aF.mN x k i)).toNat:=rfl;omega
          have hss:∀a,a<aF.dK s (aF.dW x k i) (aF.bH W (aF.dW x k i))-> -1000<=aF.gY x W s k i (aF.dW x k i) a (aF.oZ x k i)/\aF.gY x W s k i (aF.dW x k i) a (aF.oZ x k i)<=1000:=fun a ha=>by
           rw[aF.uO (by omega)];unfold aF.oP;rw[if_neg (by omega)];exact kN.out _ _ _ o4
          have FK:∀k,aF.dK s k (aF.bH W k)<=512:=fun k=>by
           have h1:=aF.yM s k (aF.bH W k);have h2:=uG W (k:Int);have h3:=qu.out.tot;have e:ah.eV W (k:Int)=aF.bH W k:=rfl;omega
          have h:=HAd.out Z3 mM.out k i hlt hik Ng FK kW hss _ _ (·<B) SS Z3 (Jv.out.next mM.out).vY HV3.out
          refine h.mono fun e w' h=>⟨h.1,?_,h.2.2⟩
          have h2:=h.2.1
          rw[aF.MF Ng o5 o4] at h2
          exact h2)
         have o0:=(one_cell (Np.out Z3 xV.out).1).1;obtain⟨⟨y0,y1,y2,y3⟩, -⟩:=aO (Np.out Z3 xV.out).2.1;clear Ng hik;go_wp2_with fail;refine HCd.out.mono ?_;rintro e Z4 ⟨⟨r4,rfl⟩,hv4,zh⟩;have HV4:=hid hv4;have JX:Hid (Turns SS Y Z4):=hid (xV.out.trans zh);clear hv4 zh o0 y0 y1 y2 y3 f0 f1 f2 f3 f4 f5 f6 f7;go_wp2;go_roundw;case rel=>exact⟨i+1,by omega,by go_num,HV4,JX,hid (Np.out Z4 JX.out).2.2.1⟩
         simp[intOf];omega
        ·have hne:(ah.fd x k i).kind≠6:=by rw[yg.out];exact h6
         have HV4:Hid (bL SS Z3 (.slice (some ⟨w3.heap.size+2,0,none⟩) K K) (aF.tab x.af3.length (fun k=>aF.dK s k (aF.bH W k)) (fun k:Nat=>(ah.kd x k).af4.length) (aF.gY x W s k (i+1)))):=hid (by rw[aF.MC hne];exact HV3.out);clear hne;go_wp2;go_roundw;case rel=>exact⟨i+1,by omega,by go_num,HV4,xV,mM⟩
         simp[intOf];omega
       ·obtain rfl:fs.length=i:=by omega
        have HN:Hid (bL SS wr (.slice (some ⟨w3.heap.size+2,0,none⟩) K K) (aF.tab x.af3.length (fun k=>aF.dK s k (aF.bH W k)) (fun k:Nat=>(ah.kd x k).af4.length) (aF.gY x W s (k+1) 0))):=hid (by
         have h1:=HVi.out
         rw[acv.out] at h1
         exact h1)
        go_wp2;go_roundw;case rel=>exact⟨k+1,by omega,by go_num,HN,HTi⟩
        simp[intOf];omega
     ·obtain rfl:x.af3.length=k:=by omega
      obtain⟨p1,p2,p3,p4⟩:=Np.out wr Gt.out
      have xZ:Hid (∀w',aJ (aS w.heap.size) w.heap.size wr w'->bL (w.heap.size<=·) w' (.slice (some ⟨w3.heap.size+2,0,none⟩) K K) (aF.iW x W s)/\BL w w'):=hid (fun w' ht=>by
       refine⟨?_,p3.trans ht.1⟩;have h1:=HVk.out;rw[aF.QA] at h1;have h2:=qx h1 (fun b c t fr _ hb=>ht.2 _ _ hb (by simp[aS,book]));unfold aF.iW;rw[qu.out.len];exact bM.mono h2 (fun b _ hb=>by have:=(Nn.out.2 b hb).1;show w.heap.size<=b;omega))
      have HM:=hid ((Marks.nil w.heap.size w5.heap.size wr).push hD (by omega) p4);have o0:=(one_cell p1).1;clear p1 p2 p3 p4;go_wp2;refine iL (v:=.tuple #[.slice (some ⟨w3.heap.size+2,0,none⟩) K K,.int .i64 0]) HM.out (fun w' ht=>⟨?_,?_⟩)
      ·simp[results,Tryz.results42,go_sem]
      ·obtain⟨k1,k2⟩:=xZ.out w' ht
       exact⟨_,rfl,k1,k2⟩
 case hstop=>
  rintro D xs Y hD h;exact h.elim
def BK(b:Bool):UInt8:=if b=true then 49 else 48
def yw(s:Sub.S):ByteArray:=⟨(s.flatten.map BK).toArray⟩
theorem QD{a b:Bool}(h:BK a=BK b):a=b:=by
 cases a<;>cases b<;>first|rfl|(exact absurd h (by decide))
theorem QE{W:ah.bK}{s t:Sub.S}(hs:Sub.Fit (aF.shape W) s)(ht:Sub.Fit (aF.shape W) t)(h:yw s=yw t):s=t:=by
 refine aF.Ae (aF.ja hs) (aF.ja ht) ?_;unfold yw at h
 have h1:s.flatten.map BK=t.flatten.map BK:=by
  have:=congrArg (fun b:ByteArray=>b.data.toList) h;simpa using this
 exact List.map_inj_right (fun a b e=>QD e)|>.1 h1
def uQ(S:Nat->Prop)(w:World)(v:Value)(xs:List UInt8):Prop:=
 w.ownsRow 0 5 1 v xs.length (xs.map fun b=>Value.int .u8 (b.toNat:Int))/\∀b,v.ownBlock=some b->S b
theorem xN:dH (α:=List UInt8) uQ:=
 ⟨fun h k=>⟨cC h.1 h.2 k,h.2⟩,fun h k=>⟨h.1,fun b hb=>k b (h.1.lt b hb).2 (h.2 b hb)⟩⟩
theorem uQ.nil(S:Nat->Prop)(w:World):uQ S w (.slice none 0 0) []:=⟨World.ownsRow_nil _ _ _ _,fun b hb=>by simp[Value.ownBlock] at hb⟩
theorem uQ.sl{S:Nat->Prop}{w:World}{v:Value}{xs:List UInt8}(h:uQ S w v xs):eX (fun _ u (x:UInt8)=>u=.int .u8 (x.toNat:Int)) S w v xs:=
 jP h.1 h.2 (by simp) (fun j h1 h2=>by simp)
theorem Tryz.acy:jt Tryz.prog 206 5 1 1:=gA (z:=.int .u8 0) (by kernel_rfl) (by kernel_rfl) rfl (by omega) (by omega)
section
variable {P:Program} {t e:TypeId} {bytes:Nat} {w:World} {ops:Array Oper} {rest:List Oper} {o:Oper} {a:Act} {Q:Exit->Act->World->Prop}
theorem xO(hgd:o.guard=none)(s x:Operand)
  (ho:o.op=.call {callee:=.builtin .append,args:=#[s,x],argTypes:=#[t,t]})(hT:jt P t 5 1 bytes)
  {S:Nat->Prop}{v:Value}{xs:List UInt8}(hs:a.eval s=v)(hown:uQ S w v xs)
  {e':TypeId} {y:UInt8} (hx:a.eval x=.slice (some ⟨w.heap.size,0,none⟩) 1 1) (hsmall:xs.length+1<=1000000000)
  (h:∀v' w',uQ (Grow S w.heap.size) w' v' (xs++[y])->Turns (fun b=>some b=v.ownBlock) w w'->wpList P ops Q rest (a.put o.dst v') w'):
  wpList P ops Q (o::rest) a (w.alloc (.cells #[.int .u8 (y.toNat:Int)] e')):=by
 have ha:BL w (w.alloc (.cells #[.int .u8 (y.toNat:Int)] e')):=aj.alloc aB _;have f2:=cC (S:=fun _=>True) hown.1 (fun _ _=>trivial) (aA.below ha);refine gB hgd s x ho hT hs f2 (some ⟨w.heap.size,0,none⟩) 1 1 hx (fun _=>⟨_,_,rfl⟩) [.int .u8 (y.toNat:Int)] rfl (jb w #[.int .u8 (y.toNat:Int)] e') (by simp[Value.oneCell']) hsmall (Nat.zero_le _) (fun v' w' g1 g2 g3=>h v' w' ⟨?_,fun b hb'=>?_⟩ ((Turns.aM ha).trans (Turns.eT g2 fun b hb'=>hb'.symm)))
 ·rw[zLa,List.map_append];exact g1
 ·rcases g3 with g3|g3
  ·rw[g3] at hb';exact .inl ⟨hown.2 b hb',(hown.1.lt b hb').2⟩
  ·rw[g3] at hb';exact .inr (by have:=zSi hb';simp at this;omega)
end
theorem acz(xs:List UInt8)(S:Nat->Prop)(w:World)(v:Value)(h:uQ S w v xs):(convert 206 9 v).run Tryz.prog w=.ok (.string ⟨xs.toArray⟩) w:=by
 by_cases h0:0<xs.length
 ·obtain⟨g,cap,rfl, -, -, -,h2⟩:=iF h.1 h0
  refine run_convert_bytes_back w _ _ 5 ⟨g,0,none⟩ cap xs (by kernel_rfl) (by kernel_rfl) (by kernel_rfl) (fun j hj=>?_);have h3:=(h2 j (by simpa using hj)).1;have e:(⟨g,0,none⟩:Addr).add j=⟨g,j,none⟩:=by rw[FJ,Nat.zero_add]
  rw[e,h3];simp
 ·obtain rfl:xs=[]:=List.eq_nil_of_length_eq_zero (by omega)
  obtain⟨a,c,rfl,hok, -, -⟩:=h.sl.form;cases a with
  |none=>exact run_convert_bytes_nil w _ 5 (by kernel_rfl) (by kernel_rfl) _ _ _ (by kernel_rfl)
  |some p=>exact run_convert_bytes_back w _ _ 5 p c [] (by kernel_rfl) (by kernel_rfl) (by kernel_rfl) (fun j hj=>absurd hj (by simp))
def gP(s:Sub.S)(k i:Nat):List UInt8:=((s.take k).flatten++(s.getD k []).take i).map BK
theorem FW(s:Sub.S):gP s 0 0=[]:=by simp[gP]
theorem FX{s:Sub.S}{k i:Nat}(hk:k<s.length)(hi:i<s[k].length):gP s k (i+1)=gP s k i++[BK s[k][i]]:=by
 unfold gP;rw[Sub.aR hk,zTs hi,<-List.append_assoc,List.map_append (l₂:=[s[k][i]])];rfl
theorem FY{s:Sub.S}{k:Nat}(hk:k<s.length):gP s k s[k].length=gP s (k+1) 0:=by
 unfold gP;rw[Sub.aR hk,List.take_length,List.take_zero,List.append_nil,zTs hk,List.flatten_append];simp only[List.flatten_cons,List.flatten_nil,List.append_nil]
theorem Jw(s:Sub.S):gP s s.length 0=s.flatten.map BK:=by simp[gP]
theorem Jy{s:Sub.S}{k i:Nat}(hk:k<=s.length):(gP s k i).length<=s.flatten.length:=by
 unfold gP;rw[zLm,zLa];by_cases h:k<s.length
 ·have e:s.flatten=(s.take k).flatten++(s[k]++(s.drop (k+1)).flatten):=by
   conv=>lhs;rw[<-List.take_append_drop k s,List.drop_eq_getElem_cons h,List.flatten_append,List.flatten_cons]
  have e2:=congrArg List.length e;rw[zLa,zLa] at e2;rw[Sub.aR h,zLt];omega
 ·have:k=s.length:=by omega
  subst this;rw[Sub.gU aB];simp
theorem KH(s:Sub.S)(kW:s.flatten.length<=100000)(v:Value)(S:Nat->Prop)(w:World)(hs:aP S w v s):
  Calls Tryz.prog 83 #[v] w fun e w'=>e=.returned (.string (yw s))/\BL w w':=by
 have HS:=hid (aP.mono (S':=(·<w.heap.size)) hs (fun b hb _=>hb));obtain⟨a,cap,rfl,hok,hc,hm⟩:=hs.form;clear hs;obtain⟨n,hn⟩:=nmE s.length;rw[<-hn] at hok hc ⊢;have HN:=hid hn;clear hn;go_enter Tryz.func83,Tryz.ntmps83;go_wp2;go_loopw [10,3] (fun kk vv wr=>∃(k:Nat) (va:Option Addr) (vn vc:Nat),k<=n/\kk=.int .i64 k/\vv=.slice va vn vc/\Hid (uQ (w.heap.size<=·) wr (.slice va vn vc) (gP s k 0))/\Hid (BL w wr)) (fun kk _ _=>n-(intOf kk).toNat);case atStart=>exact⟨0,none,0,0,Nat.zero_le _,rfl,rfl,hid (by rw[FW];exact uQ.nil _ _),hid aj⟩
 case round=>
  obtain⟨k,va,vn,vc,hk,rfl,rfl,HB,HL⟩:=hrel;by_cases hlt:k<n
  ·have hks:k<s.length:=by rw[<-HN.out];exact hlt
   have hk0:(0:Int)<=(k:Int):=by omega
   have hk1:(k:Int)<(n:Int):=by omega
   obtain⟨u,hu1,kL⟩:=HS.out.lW hks;obtain⟨ra,rc,rfl,hra,hrc,hrm⟩:=hu1.form;have x0:=kL wr (aA.below HL.out);have HR:=hid hu1;obtain⟨m,hmm⟩:=nmE (s[k].length);rw[<-hmm] at hra hrc x0;have HM:=hid hmm;clear hu1 kL hmm;go_wp2;clear x0;generalize LY:wr=Wb at*;go_loopw [16,3] (fun ii vv wr=>∃(i:Nat) (va:Option Addr) (vn vc:Nat),i<=m/\ii=.int .i64 i/\vv=.slice va vn vc/\Hid (uQ (w.heap.size<=·) wr (.slice va vn vc) (gP s k i))/\Hid (BL w wr)) (fun ii _ _=>m-(intOf ii).toNat);case atStart=>exact⟨0,va,vn,vc,Nat.zero_le _,rfl,rfl,HB,HL⟩
   case round=>
    obtain⟨i,va,vn,vc,hi,rfl,rfl,HB,HL⟩:=hrel;by_cases hit:i<m
    ·have hi0:(0:Int)<=(i:Int):=by omega
     have hi1:(i:Int)<(m:Int):=by omega
     have hik:i<s[k].length:=by have:=HM.out;omega
     obtain⟨ub,TL,kL⟩:=HR.out.lW hik;obtain rfl:ub=_:=TL;have x0:=kL wr (aA.below HL.out);have uW:=hid (FX hks hik);have hbl:(gP s k i).length+1<=1000000000:=by have:=Jy (s:=s) (k:=k) (i:=i) (by omega);omega
     have hzl:=HL.out.size;clear kL;generalize s[k][i]=kp at*;cases kp with
     |true=>
      go_wp2_with (at_builtin;go_must (refine xO (y:=49) rfl _ _ rfl Tryz.acy rfl HB.out rfl hbl ?_))
      intro v' w8 mK A4
      obtain⟨fa,fl,fc,rfl⟩:∃a l c,v'=.slice a l c:=by obtain⟨a,c,e, -⟩:=mK.sl.form;exact⟨_,_,_,e⟩
      have lP:Hid (uQ (w.heap.size<=·) w8 (.slice fa fl fc) (gP s k (i+1))):=hid (by rw[uW.out];exact xN.mono mK (fun b _ hb=>eO hzl b hb))
      have xE:Hid (BL w w8):=hid (HL.out.trans (A4.below hzl (fun b hb=>HB.out.2 b hb.symm)))
      clear mK A4 HB
      go_wp2
      go_roundw
      case rel=>exact⟨i+1,fa,fl,fc,by omega,by go_num,rfl,lP,xE⟩
      simp[intOf];omega
     |false=>
      go_wp2_with (at_builtin;go_must (refine xO (y:=48) rfl _ _ rfl Tryz.acy rfl HB.out rfl hbl ?_))
      intro v' w8 mK A4
      obtain⟨fa,fl,fc,rfl⟩:∃a l c,v'=.slice a l c:=by obtain⟨a,c,e, -⟩:=mK.sl.form;exact⟨_,_,_,e⟩
      have lP:Hid (uQ (w.heap.size<=·) w8 (.slice fa fl fc) (gP s k (i+1))):=hid (by rw[uW.out];exact xN.mono mK (fun b _ hb=>eO hzl b hb))
      have xE:Hid (BL w w8):=hid (HL.out.trans (A4.below hzl (fun b hb=>HB.out.2 b hb.symm)))
      clear mK A4 HB
      go_wp2
      go_roundw
      case rel=>exact⟨i+1,fa,fl,fc,by omega,by go_num,rfl,lP,xE⟩
      simp[intOf];omega
    ·obtain rfl:m=i:=by omega
     have lP:Hid (uQ (w.heap.size<=·) wr (.slice va vn vc) (gP s (k+1) 0)):=hid (by rw[<-FY hks,<-HM.out];exact HB.out);go_wp2;go_roundw;case rel=>exact⟨k+1,va,vn,vc,by omega,by go_num,rfl,lP,HL⟩
     simp[intOf];omega
  ·obtain rfl:n=k:=by omega
   have hb:=HB.out;rw[HN.out,Jw] at hb;have hcv:=acz _ _ _ _ hb;have hkk:yw s=⟨(s.flatten.map BK).toArray⟩:=rfl;rw[<-hkk] at hcv;clear hb hkk;go_wp2;go_ret;exact⟨rfl,HL.out⟩
def l7(l:List (Nat×Nat)):List (Int×Int):=l.map fun p=>((p.1:Int),(p.2:Int))
theorem jl(l:List (Nat×Nat)):(l7 l).length=l.length:=by simp[l7]
theorem Dg(s:Sub.S)(kW:Sub.size s<=100000)(v:Value)(S:Nat->Prop)(w:World)(hs:aP S w v s):
  Calls Tryz.prog 60 #[v] w fun e w'=>∃a c,e=.returned (.slice a (Sub.kept s).length c)/\G7 w.heap.size w' (.slice a (Sub.kept s).length c) (l7 (Sub.kept s))/\BL w w':=by
 have HS:=hid (aP.mono (S':=(·<w.heap.size)) hs (fun b hb _=>hb));obtain⟨a,cap,rfl,hok,hc,hm⟩:=hs.form;clear hs;obtain⟨n,hn⟩:=nmE s.length;rw[<-hn] at hok hc ⊢;have HN:=hid hn;clear hn;go_enter Tryz.func60,Tryz.ntmps60;go_wp2;go_loopw [10,3] (fun kk vv wr=>∃(k:Nat) (zs:List (Int×Int)) (va:Option Addr) (vc:Nat),k<=n/\kk=.int .i64 k/\vv=.slice va zs.length vc/\Hid (zs=l7 (Sub.gW s k))/\Hid (G7 w.heap.size wr (.slice va zs.length vc) zs)/\Hid (BL w wr)) (fun kk _ _=>n-(intOf kk).toNat);case atStart=>exact⟨0,[],none,0,Nat.zero_le _,rfl,rfl,hid rfl,hid (cG.nil _ _ _ _ _ _),hid aj⟩
 case round=>
  obtain⟨k,zs,va,vc,hk,rfl,rfl,HZ,HB,HL⟩:=hrel;by_cases hlt:k<n
  ·have hks:k<s.length:=by rw[<-HN.out];exact hlt
   have hk0:(0:Int)<=(k:Int):=by omega
   have hk1:(k:Int)<(n:Int):=by omega
   obtain⟨u,hu1,kL⟩:=HS.out.lW hks;obtain⟨ra,rc,rfl,hra,hrc,hrm⟩:=hu1.form;have x0:=kL wr (aA.below HL.out);have HR:=hid hu1;obtain⟨m,hmm⟩:=nmE (s[k].length);rw[<-hmm] at hra hrc x0;have HM:=hid hmm;have HG:Hid (s.getD k []=s[k]):=hid (Sub.aR hks);clear hu1 kL hmm;go_wp2;clear x0;generalize LY:wr=Wb at*;go_loopw [17,3] (fun ii vv wr=>∃(i:Nat) (zs:List (Int×Int)) (va:Option Addr) (vc:Nat),i<=m/\ii=.int .i64 i/\vv=.slice va zs.length vc/\Hid (zs=l7 (Sub.gW s k++Sub.kT k s[k] i))/\Hid (G7 w.heap.size wr (.slice va zs.length vc) zs)/\Hid (BL w wr)) (fun ii _ _=>m-(intOf ii).toNat);case atStart=>exact⟨0,zs,va,vc,Nat.zero_le _,rfl,rfl,hid (by rw[Sub.sC,List.append_nil];exact HZ.out),HB,HL⟩
   case round=>
    obtain⟨i,zs,va,vc,hi,rfl,rfl,HZ,HB,HL⟩:=hrel;by_cases hit:i<m
    ·have hi0:(0:Int)<=(i:Int):=by omega
     have hi1:(i:Int)<(m:Int):=by omega
     have hik:i<s[k].length:=by have:=HM.out;omega
     obtain⟨ub,TL,kL⟩:=HR.out.lW hik;obtain rfl:ub=_:=TL;have x0:=kL wr (aA.below HL.out);have hsu:=Sub.lZ k s[k] i;rw[Sub.aR hik] at hsu;have hpre:=(Sub.Ai (s:=s) (k:=k) (i:=i) hks (by rw[HG.out];omega)).length_le;rw[HG.out] at hpre
     have hzl:zs.length<=100000:=by
      rw[HZ.out,jl];exact Nat.le_trans hpre kW
     have hz2:=HL.out.size;clear kL hpre;generalize s[k][i]=kp at*;cases kp with
     |true=>
      rw[if_pos rfl] at hsu
      have TM:=hid hsu
      clear hsu
      go_wp2_with (at_builtin;go_must (refine cD dx rfl _ _ rfl Tryz.Vl rfl HB.out (us:=[.int .i64 (k:Int),.int .i64 (i:Int)]) rfl rfl rfl ((k:Int),(i:Int)) rfl tH (by omega) (by omega) ?_))
      intro v' w6 how ht hn
      obtain⟨z2,A5⟩:=nmE (zs++[((k:Int),(i:Int))])
      rw[<-A5] at how
      obtain⟨a',c',rfl, -⟩:=how.form
      have qJ:Hid (BL w w6):=hid (HL.out.trans (ht.below hz2 (fun b hb=>by have:=(HB.out.lt b hb.symm).1;omega)))
      have HO6:=hid how
      have Rp:Hid (z2=l7 (Sub.gW s k++Sub.kT k s[k] (i+1))):=hid (by rw[A5,HZ.out,TM.out,<-List.append_assoc];simp[l7])
      clear how ht hn A5
      go_wp2
      go_roundw
      case rel=>exact⟨i+1,z2,a',c',by omega,by go_num,rfl,Rp,HO6,qJ⟩
      simp[intOf];omega
     |false=>
      rw[if_neg (by simp),List.append_nil] at hsu
      have Rp:Hid (zs=l7 (Sub.gW s k++Sub.kT k s[k] (i+1))):=hid (by rw[hsu];exact HZ.out)
      clear hsu
      go_wp2
      go_roundw
      case rel=>exact⟨i+1,zs,va,vc,by omega,by go_num,rfl,Rp,HB,HL⟩
      simp[intOf];omega
    ·obtain rfl:m=i:=by omega
     have Rp:Hid (zs=l7 (Sub.gW s (k+1))):=hid (by
      rw[Sub.j5,HG.out,<-Sub.nK,<-HM.out]
      exact HZ.out)
     go_wp2;go_roundw;case rel=>exact⟨k+1,zs,va,vc,by omega,by go_num,rfl,Rp,HB,HL⟩
     simp[intOf];omega
  ·obtain rfl:n=k:=by omega
   have Rp:Hid (zs=l7 (Sub.kept s)):=hid (by rw[HZ.out,HN.out,Sub.qQ]);have kZ:Hid (zs.length=(Sub.kept s).length):=hid (by rw[Rp.out,jl]);go_wp2;go_ret;exact⟨va,vc,by rw[kZ.out];rfl,by rw[<-kZ.out,<-Rp.out];exact HB.out,HL.out⟩
open Go.Maps (Keyed)
def QF(v:Value):Option (DataW Nat×List MemPlace):=match v with
 | .bool x=>some (.lit (.bool x),[])
 |_=>none
theorem MG{v:Value}{x:Bool}{ps:List MemPlace}(h:QF v=some (.lit (.bool x),ps)):v=.bool x:=by
 unfold QF at h;split at h
 ·simp at h
  rw[h.1]
 ·cases h
theorem QG:Tryz.prog.underlying 9=some .string:=by kernel_rfl
theorem YP:Maps.Keyed Tryz.prog 9:=Maps.string_keyed QG
theorem QH:Tryz.prog.underlying 168=some (.map 9 4):=by kernel_rfl
theorem acA(w:World):(zeroValue 4).run Tryz.prog w=.ok (.bool false) w:=by kernel_rfl
theorem YQ{s:List UInt8}(h:s.length<=1000000):keyOf Tryz.prog 9 (.string ⟨s.toArray⟩)=some (.string s):=by
 have h1:=WideMaps.keyOf_string_mk QG (s:=⟨s.toArray⟩) (by have:maxLen=9223372036854775807:=rfl;simp[ByteArray.size];omega);simpa using h1
theorem YR{s:List UInt8}(h:s.length<=1000000):WideAt.IsKeyLit (.string s):=YP.key (YQ h)
def sI(w:World)(b n:Nat)(ks:List (List UInt8)):Prop:=
 ∃D:DataW Nat,w.ownsMap Tryz.prog 9 QF b n D/\∀t:List UInt8,t.length<=1000000->D.atKey (.string t) (.lit (.bool false))=.lit (.bool (decide (t∈ks)))
theorem sI.made(w:World):sI (w.alloc (.map #[] 0)) w.heap.size 0 []:=⟨.map [],World.ownsMap_made _ _ _ _,fun t _=>by rfl⟩
theorem sI.keep{w w':World}{b n:Nat}{ks:List (List UInt8)}(h:sI w b n ks)(hk:w'.heap[b]?=w.heap[b]?):sI w' b n ks:=by
 obtain⟨D,⟨es,clock,hb,F,r⟩,r2⟩:=h;exact⟨D,⟨es,clock,by rw[hk];exact hb,F,r⟩,r2⟩
theorem sI.lt{w:World}{b n:Nat}{ks:List (List UInt8)}(h:sI w b n ks):b<w.heap.size:=by
 obtain⟨D,h1, -⟩:=h;exact h1.lt
theorem sI.look{w:World}{b n:Nat}{ks:List (List UInt8)}(h:sI w b n ks){t:List UInt8}(ht:t.length<=1000000):
  (Instr.lookup 168 (.map (some b)) (.string ⟨t.toArray⟩) false).run Tryz.prog w=.ok (.bool (decide (t∈ks))) w:=by
 obtain⟨D,h1,h2⟩:=h;obtain⟨v,ps,hrun,hv⟩:=h1.lookup YP QH (z:=.bool false) (acA w) (zd:=.lit (.bool false)) (zp:=[]) rfl (YQ ht);rw[h2 t ht] at hv;rw[MG hv] at hrun;exact hrun
theorem sI.put{w:World}{b n:Nat}{ks:List (List UInt8)}(h:sI w b n ks)(hn:n<=1000000){t:List UInt8}(ht:t.length<=1000000):
  ∃w',(Instr.mapUpdate 168 (.map (some b)) (.string ⟨t.toArray⟩) (.bool true)).run Tryz.prog w=.ok () w'/\sI w' b (n+1) (ks++[t])/\Turns (·=b) w w':=by
 obtain⟨D,h1,h2⟩:=h;have kW:n<maxLen:=by have:maxLen=9223372036854775807:=rfl;omega
 obtain⟨w',hrun,how,hg⟩:=h1.update YP QH kW (YQ ht) (val:=.bool true) (d:=.lit (.bool true)) (ps:=[]) rfl;refine⟨w',hrun,⟨_,how,fun u hu=>?_⟩,Turns.eT hg (fun b' e=>by cases e;rfl)⟩;by_cases e:u=t
 ·subst e
  rw[Maps.atKey_put_same h1.isMap (YR hu)];simp
 ·rw[Maps.atKey_put_other (fun h=>e (by injection h)),h2 u hu]
  simp[e]
end Go.Proofs.YtobgljfnfpolkaaGreatDoor
