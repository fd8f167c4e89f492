/- Part 18 of the walks and plain laws that the proof needs (packed). -/
import Derived.Test.YtohddpbgflgiaaaGreatDoorQ1
import Derived.Test.YtohddpbgflgiaaaGreatDoorQ6
import Derived.Test.YtohddpbgflgiaaaGreatDoorQ13
import Derived.Test.YtohddpbgflgiaaaGreatDoorQ15
import Derived.Test.YtohddpbgflgiaaaGreatDoorQ16
import Derived.Test.YtohddpbgflgiaaaGreatDoorQ17
set_option linter.all false
set_option maxRecDepth 100000
set_option maxHeartbeats 8000000
open Go.Proofs.Tryz
namespace Go.Proofs.YtohddpbgflgiaaaGreatDoor
open Go.RowKit
namespace Cz
theorem aa8{ks:iQ}{w:Wd}{A:List (List (List Nat))}(h:rD (sorts ks w) 1 [[]]=some A):canon ks w=best (A.map (bN ks w))/\∀a∈A,a.length=w.length/\∀k,k<w.length->(a.getD k []).Perm (List.range (len w k)):=by
 obtain⟨b,c⟩:=RZ (sorts ks w) 1 [[]] aD;rw[Nat.one_mul] at b c;by_cases d:720<arr (sorts ks w)
 ·rw[c d aD] at h;cases h
 ·rw[b aD] at h
  obtain rfl:A=lK (sorts ks w) []:=by have:=oO h;rw[<-this];simp
  refine⟨by unfold canon;rw[if_neg d],fun a i=>?_⟩;obtain⟨e,f⟩:=vJ.1 i;obtain⟨j,l⟩:=DY ks w;rw[j] at e f;exact⟨e,fun k g=>by have:=(f k g).1;rwa [l k g] at this⟩
theorem aa9{ks:iQ}{w:Wd}(h:rD (sorts ks w) 1 [[]]=none):canon ks w=none:=by
 rw[<-U7];unfold P5;rw[h]
theorem adb{s:Row}{S:List Row}{n:Nat}{all:List (List (List Nat))}(h:¬720<n*(kE s).length):rD (s::S) n all=rD S (n*(kE s).length) (all.flatMap fun a=>(kE s).map fun o=>a++[o]):=by
 rw[rD,if_neg h]
theorem VE(l:Row):0<(kE l).length:=by
 obtain⟨a,b⟩:=RY l;by_cases h:eO (fun _=>0) l<=5000
 ·rw[a h,sH];exact sI _ _
 ·exact Nat.lt_of_le_of_lt (zxa _) (b aD)
theorem VF{l:List Wd}{b v:Wd}(h:best l=some b):best (l++[v])=some (if sC v b<0 then v else b):=by
 unfold best at h ⊢;rw[List.foldl_append,h];simp only[List.foldl_cons,List.foldl_nil];split<;>rfl
end Cz
structure FT(x:aC.cE)(W c:aC.dw):Prop where
 len:c.length=W.length
 lens:∀k,k<W.length->Cz.len c k=Cz.len W k
 rows:∀k i,k<W.length->i<Cz.len W k->(Cz.row c k i).length=(aC.kd x k).aF.length
theorem FT.of{x:aC.cE}{W:aC.dw}(j:bU.kV x W){a:List (List Nat)}(g:∀k,k<W.length->(a.getD k []).Perm (List.range (Cz.len W k))):FT x W (Cz.bN (aM x) W a):=by
 have e:∀k,k<W.length->(Cz.bN (aM x) W a).getD k []=(a.getD k []).map fun i=>(List.range (Cz.row W k i).length).map fun f=>Cz.val (aM x) a k f (Cz.cell W k i f):=fun k b=>by
  unfold Cz.bN;rw[Cz.eW _ _ _ b]
 have h:∀k,k<W.length->(a.getD k []).length=Cz.len W k:=fun k b=>by have:=(g k b).length_eq;simpa using this
 refine⟨by simp[Cz.bN],fun k b=>?_,fun k i b l=>?_⟩
 ·unfold Cz.len
  rw[e k b,sM,h k b];rfl
 ·have c:i<(a.getD k []).length:=by rw[h k b];exact l
  have m:(a.getD k [])[i]<Cz.len W k:=by have:=(g k b).mem_iff.1 (eV c);simpa using this
  unfold Cz.row;rw[e k b,Cz.bh (by rw[sM];exact c),zxo,sM,List.length_range];have d:(a.getD k [])[i]<W[k].length:=by rw[<-fD b];exact m
  rw[uP b d];exact j.lX k b _ (eV d)
theorem FT.cmp{x:aC.cE}{W c d:aC.dw}(b:FT x W c)(hd:FT x W d):Cz.di (Cz.flat c) (Cz.flat d)=Cz.sC c d:=
 Cz.aaH c d (by rw[b.len,hd.len]) fun k a=>by
  rw[b.len] at a;exact⟨by rw[b.lens k a,hd.lens k a],fun i e=>by rw[b.lens k a] at e;rw[b.rows k i a e,hd.rows k i a e]⟩
theorem EI:∀(l:List (List Int)),(∀r∈l,r.length<=10)->l.flatten.length<=10*l.length
 |[],_=>by simp
 |r::l,h=>by
  have b:=h r bH;have c:=EI l fun q a=>h q (by simp[a]);rw[al0,rK,zxg];omega
theorem FT.num{x:aC.cE}{W c:aC.dw}(d:bU.kV x W)(a:FT x W c):c.length<=6/\(∀k (h:k<c.length),c[k].length<=512)/\(Cz.flat c).length<=100000:=by
 have f:∀k (h:k<c.length),c[k].length=Cz.len W k:=fun k h=>by
  rw[<-a.lens k (by rw[<-a.len];exact h),fD h]
 have l:∀k,k<W.length->Cz.len W k<=512:=fun k b=>by rw[fD b];exact zxb (gq b) d.tot
 have e:c.map List.length=W.map List.length:=by
  refine alW (by simp[a.len]) fun k h1 h2=>?_;simp only[zxo];rw[f k Wz,fD ah7]
 have n:c.flatten.length<=512:=by
  rw[List.length_flatten,e];exact d.tot
 refine⟨by rw[a.len,d.len];exact d.ah,fun k h=>by rw[f k h];exact l k (by rw[<-a.len];exact h),?_⟩
 have:=EI c.flatten fun r g=>by
  obtain⟨R,m,g⟩:=List.mem_flatten.1 g;obtain⟨k,b,rfl⟩:=zxf m;obtain⟨i,j,rfl⟩:=zxf g;have:=a.rows k i (by rw[<-a.len];exact b) (by rw[<-f k b];exact j);rw[uP b j] at this;rw[this];exact d.aF k
 unfold Cz.flat;omega
def uR(w0:World)(u:Value)(x:List Int):Prop:=∀V,BL w0 V->bB dr V u x
theorem uR.one{w0:World}{u:Value}{x:List Int}(h:uR w0 u x):u.oneCell'=true:=by
 obtain⟨a,c,rfl, -⟩:=h w0 aG;rfl
theorem uR.next{w0 w1:World}{u:Value}{x:List Int}(h:uR w0 u x)(a:BL w0 w1):uR w1 u x:=fun V b=>h V (bO a b)
theorem uR.of{S:Nat->Prop}{w0:World}{u:Value}{x:List Int}(h:bB S w0 u x):uR w0 u x:=fun V a=>bB.mono (bB.keep h (aH.below a)) (fun _ _ _=>trivial)
abbrev uS(w0:World)(S:Nat->Prop):World->Value->List (List Int)->Prop:=eA (fun _ u (x:List Int)=>uR w0 u x) S
theorem uT(w0:World):fA (fun S=>uS w0 S):=⟨fun h k=>eA.keep h k fun _ _ h=>h,fun h k=>eA.mono h k fun _ _ h=>h⟩
theorem uU(w0:World):fA (fun _ _ u (x:List Int)=>uR w0 u x):=⟨fun h _=>h,fun h _=>h⟩
abbrev alK(w0:World)(S:Nat->Prop):World->Value->List (List (List Int))->Prop:=eA (uS w0 S) S
theorem alK.keep{w0:World}{S:Nat->Prop}{w w':World}{v:Value}{xs:List (List (List Int))}(h:alK w0 S w v xs)(a:aH S w w'):alK w0 S w' v xs:=eA.keep h a fun _ _ h=>eA.keep h a fun _ _ h=>h
theorem uS.rows{w0:World}{S:Nat->Prop}{w:World}{v:Value}{xs:List (List Int)}(h:uS w0 S w v xs)(a:BL w0 w):cG dr w v xs:=eA.mono h (fun _ _ _=>trivial) fun _ _ h=>h w a
theorem uS.of{w0:World}{S:Nat->Prop}{v:Value}{xs:List (List Int)}(h:cG S w0 v xs):uS w0 S w0 v xs:=eA.mono h (fun _ _ h=>h) fun _ _ h=>uR.of h
theorem qi{P:Program}{t e:TypeId}{bytes:Nat}{w w0:World}{f:Array Oper}{rest:List Oper}{o:Oper}{a:Act}{Q:Exit->Act->World->Prop}(n:o.guard=none)(s x:Operand)
  (C:o.op=.call {callee:=.builtin .append,args:=#[s,x],argTypes:=#[t,t]})(D:kF P t e 1 bytes)
  {base:Nat}{v:Value}{xs:List (List Int)}(E:a.eval s=v)(g:fG (fun _ _ u x=>uR w0 u x) base e w v xs)
  {p:Option Addr}{m c:Nat}(hx:a.eval x=.slice p m c){S:Nat->Prop}{ys:List (List Int)}(F:uS w0 S w (.slice p m c) ys)
  (b:xs.length+m<=1000000000)(d:base<=w.heap.size)
  (h:∀k i,fG (fun _ _ u x=>uR w0 u x) base e i k (xs++ys)->w.grownBy i v.ownBlock->wpList P f Q rest (a.put o.dst k) i):
  wpList P f Q (o::rest) a w:=by
 obtain⟨q,G,y,H⟩:=g;obtain⟨rfl,r,z,A,I,B⟩:=eA.news F;refine amL n s x C D E G p _ c hx r z (by rw[A,Nat.mul_one]) I (fun u J=>?_) b d (fun k i K L _=>h k i ⟨q++z,by rw[rK];exact K,by simp[y,A],fun j M i2=>?_⟩ L)
 ·obtain⟨j,l,rfl⟩:=zxf J
  exact(B j l aD).one
 ·by_cases l:j<q.length
  ·rw[Xi l,Xi aD]
   exact H j l aD
  ·rw[zAr aD,zAr aD]
   have:=B (j-q.length) (by simp at M;omega) (by simp at i2;omega);simpa [y] using this
theorem Tryz.appO:kF prog 32 42 1 24:=jV (z:=.slice none 0 0) zK zK rfl aD aD
theorem ahB{w0:World}(V:World)(e:TypeId){u:Value}{x:List Int}(h:uR w0 u x):uS w0 (·=V.heap.size) (V.alloc (.cells #[u] e)) (.slice (some ⟨V.heap.size,0,none⟩) 1 1) [x]:=by
 refine⟨_,_,rfl,fun _=>⟨_,_,rfl⟩,aL,Qu,fun _=>rfl,fun j hj=>?_⟩;obtain rfl:j=0:=BI
 exact⟨u,bH,h⟩
theorem alg(w0 V:World)(e:TypeId){B:Nat}(hB:B<=V.heap.size):fG (fun _ _ u x=>uR w0 u x) B e (V.alloc (.cells #[] e)) (.slice (some ⟨V.heap.size,0,none⟩) 0 0) []:=
 ⟨[],World.ownsRow_made V #[] 0 hB (zxa _) rfl,rfl,fun j h=>absurd h bH⟩
def VG(c:Int)(r:Option Cz.Wd)(w:World)(e:Ending)(w':World):Prop:=
 (match r with
  |some v=>∃u,e=.returned (.tuple #[u,.int .i64 0])/\bK (w.heap.size<=·) w' u v
  |none=>e=.returned (.tuple #[.slice none 0 0,.int .i64 c]))/\BL w w'
def M8(x:aC.cE)(W:aC.dw):Option Cz.Wd:=if bU.kB x W=true then Cz.canon (aM x) W else none
def ade(x:aC.cE)(W:aC.dw):Int:=if bU.kB x W=true then 4 else 2
theorem al2{p:Prop}(h:p:=by
  refine aN (BL wr) (fun _ h=>h) (bO fH.out Cn.out) ?_
  refine aZ rfl ?_
  go_wp2_with (at_builtin;go_must (refine qi rfl _ _ rfl Tryz.mB rfl PE.out rfl Dc.out ah5 Cn.out.size ?_))
  intro v10 mL alh ali
  have nE:=Cn.out.grown ali Cn.out.size (fun b hb=>by obtain⟨_,h2, -⟩:=PE.out;exact(h2.lt b hb).1)
  have hbr:=bO fH.out nE
  have adf:=fG.sl (uU w6) alh
  rw[show dm a1++[gG o1]=dm (a1++[o1]) from by simp[dm]] at adf
  obtain⟨a10,c10,rfl, -, -, -⟩:=adf.form
  have HU:=hid (eA.mono (R':=fun _ u (x:List Int)=>uR w6 u x) (S':=fun b=>w6.heap.size<=b/\some b≠v1.ownBlock) adf (fun b _ hb=>HI.out.fresh HB.out.size b alE) fun _ _ h=>h)
  have HI2:=hid (fG.below (uT w6) HI.out hbr)
  have cH:=aR HB hbr
  refine aN (BL wr) (fun _ h=>h) hbr ?_
  generalize (dm (a1++[o1])).length=l10 at*
  refine aZ rfl ?_
  go_wp2_with fail
  refine aN (BL wr) (fun _ h=>h) (hbr.alloc hbr.size _) ?_
  refine bG ?_
  try simp only[jW,jH]
  go_wp2_with (at_builtin;go_must (refine jO (uT w6) rfl _ _ rfl Tryz.appO rfl HI2.out rfl (dm (a1++[o1])) HU.out rfl (by rw[sM];omega) cH.out.size cH.out aL ?_))
  intro v11 EQ ahC I3 _
  rw[show NY.map dm++[dm (a1++[o1])]=(NY++[a1++[o1]]).map dm from by simp] at ahC
  have HI11:=hid ahC
  have I4:=hid I3
  have ahD:(NY++[a1++[o1]]).length=i*q+(j+1):=by rw[rK,ahE];rfl
  go_wp2
  go_roundw
  case rel=>exact⟨j+1,_,_,aD,zG,rfl,ahD,HNy,HI11,I4⟩
  exact zI):p:=h
theorem Qn(x:aC.cE)(hx:aC.okB x=true)(am:aC.eT x)(af:∀k (h:k<x.ah.length),0<x.ah[k].aF.length)(W:aC.dw)(hs:bU.kV x W)(ag:bU.kB x W=true->Cz.nH (aM x) W)(v u:Value)(S T:Nat->Prop)(w:World)(hv:dO S w v x)(hW:bK T w u W):
  CP 24 #[v,u] w (VG (ade x W) (M8 x W) w):=by
 replace hv:=hv.mono (S':=dr) (fun _ _ _=>trivial);replace hW:=hW.mono (S':=dr) (fun _ _ _=>trivial);obtain⟨ak,ck,al,cl,ar,cr,w1,rfl,a4,bL,HK,cM,HV,cO,cP,cQ,bX,bY,qC⟩:=jC w x v dr hv;obtain⟨aw,cw,rfl,bZ, -, -⟩:=hW.form;have E2:=hid (fun V (d:BL w1 V)=>hW.keep (aH.below (bO bL.out d)));have JV:=hid (fun V (d:BL w1 V)=>EB x hx _ dr V (HV.out V d));have an:=hid (fun V (d:BL w1 V)=>am3 x W hs _ _ dr V (HV.out V d) (E2.out V d));have Bj:=hid (fun(J:bU.kB x W=true) (V:World) (d:BL w1 V)=>Qj x am af W (bU.qV.2 ⟨hs,J⟩) _ _ dr dr V (HV.out V d) (E2.out V d));have J3:=hid (fun(J:bU.kB x W=true) (V:World) (d:BL w1 V) (a:List (List Nat)) (b0:a.length=W.length) (hp:∀k,k<W.length->(a.getD k []).Perm (List.range (Cz.len W k))) (z:Value) (hz:cG dr V z (dm a))=>EH x am W (bU.qV.2 ⟨hs,J⟩) (ag J) a b0 hp _ _ z dr dr dr V (HV.out V d) (E2.out V d) hz);have GA:=hid hs;obtain⟨bl,ap⟩:=bJ (bU.kB x W);have vQ:=hid ap;rw[<-ap] at an;have HW:=hid a4;obtain⟨y0,y1,y2,y3⟩:=b4z (HK.out w1 aG);clear hv hW bX bY qC a4 hs ag af am hx ap HV;go_enter func24,ntmps24;go_upto_region 1 with fail;rw[HW.out];clear HW;go_wp2_with fail;refine(JV.out w1 aG).mono ?_;rintro e w2 ⟨rfl,a5⟩;have cH:=hid a5;clear y0 y1 y2 y3 a5;obtain⟨y0,y1,y2,y3⟩:=b4z (HK.out w2 cH.out);go_wp2_with fail;refine(an.out w2 cH.out).mono ?_;rintro e w3 ⟨rfl,a6⟩;have cN:=aR cH a6;clear y0 y1 y2 y3 a6 JV an cH;obtain⟨y0,y1,y2,y3⟩:=b4z (HK.out w3 cN.out);cases bl
 ·go_wp2
  go_ret2;refine⟨?_,bO bL.out cN.out⟩;unfold M8 ade;rw[<-vQ.out];rfl
 ·have J:=vQ.out.symm
  have HR:Hid (M8 x W=Cz.canon (aM x) W):=hid (by unfold M8;rw[if_pos J]);have GH:Hid (ade x W=4):=hid (by unfold ade;rw[if_pos J]);replace J3:=hid (J3.out J);replace Bj:=hid (Bj.out J);clear J vQ;go_wp2_with fail;refine(Bj.out w3 cN.out).mono ?_;rintro e w4 ⟨z4,rfl,h4,a7⟩;obtain⟨X,hX⟩:=bJ (Cz.sorts (aM x) W);have HX:=hid hX;have s:=Cz.DY (aM x) W;rw[<-hX] at h4 s;obtain⟨n,hn⟩:=bJ W.length;have HN:=hid hn;have cR:n<=6:=by rw[hn,GA.out.len];exact GA.out.ah
  have Yq:X.length=n:=by rw[s.1,hn]
  have a8:=hid Yq
  have Wp:Hid (∀k (h:k<X.length),X[k].length<=512):=hid (fun k h=>by
   have h2:=s.2 k (by rw[<-s.1];exact h);rw[Cz.bh h,fD (by rw[<-s.1];exact h)] at h2;rw[h2];exact zxb (gq (by rw[<-s.1];exact h)) GA.out.tot)
  obtain⟨az,cz,rfl,hsz, -, -⟩:=h4.form;rw[Yq] at h4 hsz ⊢;have HZ:=hid (fun V (h:BL w4 V)=>cG.keep h4 (aH.below h));have gX:=aR cN a7;obtain⟨w5,rI⟩:=bJ (w4.alloc (.cells #[.slice none 0 0] 42));have jZ:BL w4 w5:=by rw[rI];exact aG.alloc aL _
  have f:alK w5 dr w5 (.slice (some ⟨w4.heap.size,0,none⟩) 1 1) (([[]]:List (List (List Nat))).map dm):=by
   refine⟨_,_,rfl,fun _=>⟨_,_,rfl⟩,aL,Qu,fun _=>trivial,fun j hj=>?_⟩;obtain rfl:j=0:=BI
   exact⟨.slice none 0 0,by rw[rI];simp,eA.nil _ _ _⟩
  have yG:Hid (∃w0,BL w4 w0/\BL w0 w5/\alK w0 dr w5 (.slice (some ⟨w4.heap.size,0,none⟩) 1 1) (([[]]:List (List (List Nat))).map dm)):=hid ⟨w5,jZ,aG,f⟩;have iH:=hid jZ;have a9:Hid (Cz.rD (X.drop 0) 1 [[]]=Cz.rD (Cz.sorts (aM x) W) 1 [[]]):=hid (by rw[<-hX];rfl);have ba:Hid (∀a∈([[]]:List (List (List Nat))),a.length=0):=hid bH;rw[<-hn] at bZ;clear hX h4 a7 Yq s hn y0 y1 y2 y3 jZ f Bj;go_upto_region 7 with fail;rw[<-rI];clear rI;rw[<-HN.out] at J3 ⊢;go_upto_region 9 with fail;go_loopw [7,8,9,10,11,12,13] (fun c pp kk _ _ _ _ wr=>∃(k p:Nat) (A:List (List (List Nat))) (v0:Value),k<=n/\kk=.int .i64 (k:Int)/\pp=.int .i64 (p:Int)/\v0=c/\1<=p/\p<=720/\A.length=p/\Hid (Cz.rD (X.drop k) p A=Cz.rD (Cz.sorts (aM x) W) 1 [[]])/\Hid (∀a∈A,a.length=k)/\Hid (∃w0,BL w4 w0/\BL w0 wr/\alK w0 dr wr v0 (A.map dm))/\Hid (BL w4 wr)) (fun _ _ kk _ _ _ _ _=>n-(intOf kk).toNat);case atStart=>exact⟨0,1,[[]],_,zxa _,rfl,rfl,rfl,aL,aD,rfl,a9,ba,yG,iH⟩
  case round=>
   clear a9 ba yG iH;obtain⟨k,p,A,v0,hk,rfl,rfl,rfl,bc,b1,t,HC,HE,HA,HB⟩:=hrel;by_cases b2:k<n
   ·have cS:=zN k
    have cT:=zL k n
    have aq:k<X.length:=by rw[a8.out];exact b2
    obtain⟨zr,b3, -,OB⟩:=(HZ.out wr HB.out).at aq;have HO:=hid (M5 X[k] (Wp.out k aq) zr _ wr OB);have ES:Hid (X.drop k=X[k]::X.drop (k+1)):=hid (zxe aq);clear OB;go_wp2_with fail;refine HO.out.mono ?_;rintro e w6 ⟨zo,rfl,Tq,h6,oH⟩;rw[ES.out] at HC;clear HO ES b3;generalize X[k]=sk at*;obtain⟨m,au⟩:=bJ (Cz.kE sk);have N:=hid au;have av:=Cz.VE sk;rw[<-au] at h6 Tq av;obtain⟨ao,co,rfl,yp, -, -⟩:=h6.form;obtain⟨q,hq⟩:=bJ m.length;rw[jk,<-hq] at h6 yp ⊢;rw[<-hq] at Tq av;have HQ:=hid hq;clear au hq;have cU:p*q<=720*5512:=Nat.mul_le_mul b1 Tq
    have cV:IntKind.i64.wrap ((p:Int)*(q:Int))=((p*q:Nat):Int):=by
     rw[<-Int.natCast_mul];exact IntWalk.i64_in _ aD
    by_cases aj:720<p*q
    ·have b4:(720:Int)<((p*q:Nat):Int):=by omega
     have xJ:Hid (Cz.canon (aM x) W=none):=hid (by
      apply Cz.aa9
      rw[<-HC.out,Cz.rD,if_pos (by rw[<-N.out,<-HQ.out];exact aj)])
     have I5:=hid (bL.out.trans ((bO gX.out (bO HB.out oH)).mono bL.out.size));go_wp2;go_ret2;refine⟨?_,I5.out⟩;rw[HR.out,xJ.out,GH.out];exact rfl
    ·have b4:¬(720:Int)<((p*q:Nat):Int):=by omega
     have Wn:Hid (Cz.rD (X.drop (k+1)) (p*q) (A.flatMap fun a=>m.map fun o=>a++[o])=Cz.rD (Cz.sorts (aM x) W) 1 [[]]):=hid (by
      rw[<-HC.out,Cz.adb (by rw[<-N.out,<-HQ.out];exact aj),<-N.out,<-HQ.out])
     have mA:=aR HB oH
     have ax:Hid (alK w6 dr w6 v0 (A.map dm)):=hid (by
      obtain⟨w0,g1,g2,g3⟩:=HA.out
      exact eA.mono (alK.keep g3 (aH.below oH)) (fun _ _ h=>h) fun _ _ h=>eA.mono h (fun _ _ h=>h) fun _ _ h=>h.next (bO g2 oH))
     have Wq:Hid (uS w6 dr w6 (.slice ao q co) (dm m)):=hid (uS.of (cG.mono h6 (S':=dr) fun _ _ _=>trivial));obtain⟨c,O,rfl,bd, -, -⟩:=ax.out.form;rw[sM,t] at ax bd ⊢;have J4:=hid t;clear t HC HA h6 oH N HB;go_upto_region 17 with fail;go_loopw [11,12,13] (fun nn ii _ wr=>∃(i:Nat) (r:List (List (List Nat))) (v1:Value),i<=p/\ii=.int .i64 (i:Int)/\v1=nn/\r.length=i*q/\Hid (r=(A.take i).flatMap fun a=>m.map fun o=>a++[o])/\Hid (fG (fun S=>uS w6 S) w6.heap.size 42 wr v1 (r.map dm))/\Hid (BL w6 wr)) (fun _ ii _ _=>p-(intOf ii).toNat);case atStart=>exact⟨0,[],_,zxa _,rfl,rfl,bH,hid rfl,hid (fG.nil _ _ _ _),hid aG⟩
     case round=>
      obtain⟨i,r,v1,hi,rfl,rfl,b5,ay,HI,HB⟩:=hrel;by_cases hit:i<p
      ·have cW:=zN i
       have b6:=zL i p
       have K:i<A.length:=by rw[J4.out];exact hit
       have cX:i*q+q<=p*q:=by rw[<-Nat.succ_mul];exact Nat.mul_le_mul_right q hit
       obtain⟨ai,ci,cY,aA,be⟩:∃ai ci,dV ai k/\w6.cell? ⟨bM c,bT c+i,none⟩=some (.slice ai k ci)/\uS w6 dr w6 (.slice ai k ci) (dm A[i]):=by
        obtain⟨u,h1, -,h2⟩:=ax.out.at (show i<(A.map dm).length by rw[sM];exact K);rw[show (A.map dm)[i]'(by rw[sM];exact K)=dm A[i] from zxo _] at h2;obtain⟨ai,ci,rfl,h3, -, -⟩:=h2.form;rw[jk,HE.out _ (eV K)] at h1 h2 h3;exact⟨ai,ci,h3,h1,h2⟩
       have b7:=hid (fun V (h:BL w6 V)=>(h.cell (p:=⟨bM c,bT c+i,none⟩) (kK _ _ aA)).trans aA);have b8:=hid (fun V (h:BL w6 V)=>eA.keep be (aH.below h) fun _ _ h=>h);have HAi:Hid (A[i].length=k):=hid (HE.out _ (eV K))
       have b9:Hid ((r++m.map fun o=>A[i]++[o])=(A.take (i+1)).flatMap fun a=>m.map fun o=>a++[o]):=hid (by
        rw[yh K,List.flatMap_append,<-ay.out];simp)
       have bf:Hid (r=r++(m.take 0).map fun o=>A[i]++[o]):=hid bH;have cb:r.length=i*q+0:=aD
       clear aA be ay;generalize A[i]=a1 at*;go_upto_region 20 with fail;go_loopw [11,13] (fun nn jj wr=>∃(j:Nat) (NY:List (List (List Nat))) (v1:Value),j<=q/\jj=.int .i64 (j:Int)/\v1=nn/\NY.length=i*q+j/\Hid (NY=r++(m.take j).map fun o=>a1++[o])/\Hid (fG (fun S=>uS w6 S) w6.heap.size 42 wr v1 (NY.map dm))/\Hid (BL w6 wr)) (fun _ jj _=>q-(intOf jj).toNat);case atStart=>exact⟨0,r,_,zxa _,rfl,rfl,cb,bf,HI,HB⟩
       case round=>
        clear bf HI HB;obtain⟨j,NY,v1,hj,rfl,rfl,ahE,aB,HI,HB⟩:=hrel;by_cases cc:j<q
        ·have cZ:=zN j
         have c2:=zL j q
         have aE:j<m.length:=by rw[<-HQ.out];exact cc
         obtain⟨uo,aI, -,P⟩:=Wq.out.at (show j<(dm m).length by rw[jk];exact aE);rw[EF _ aE] at P;obtain⟨y,D,rfl, -, -, -⟩:=(P w6 aG).form;generalize (gG m[j]).length=E at*;have EZ:=hid (fun V (h:BL w6 V)=>(h.cell (p:=⟨bM ao,bT ao+j,none⟩) (kK _ _ aI)).trans aI);have aK:=hid P
         have HNy:Hid (NY++[a1++[m[j]]]=r++(m.take (j+1)).map fun o=>a1++[o]):=hid (by
          rw[aB.out,yh aE,zxj,zxm];rfl)
         clear aI P aB;generalize m[j]=o1 at*;have rW:=eC wr ⟨bM c,bT c+i,none⟩ (.slice ai k ci) fun xh=>b7.out _ (bO HB.out xh.2);have tZ:=eC wr ⟨bM ao,bT ao+j,none⟩ (.slice y E D) fun xh=>EZ.out _ (bO HB.out xh.2);go_upto_region 22 with fail;refine bq 14 (iq.lV [0,2,3,4,5,7,8,9,10] (.two 1 11 (.two 6 11 (.one 11 (.one 12 (.one 13 .done))) (.one 6 (.one 12 (.one 13 .done)))) (.one 1 (.one 6 (.one 12 (.one 13 .done)))))) (BL wr) nK zK (aJ aG 1) ?_;have fH:=hid (aJ (Below.refl wr.heap.size wr) 1);generalize wr.drewN 1=w8 at*
         iterate 9 refine gF ?_
         clear rW tZ;have aO:=hid (fun V (h:BL w8 V)=>b8.out V (bO HB.out (bO fH.out h)));obtain⟨L,G⟩:=bJ (w8.alloc (.cells #[] 22));obtain⟨wb,H⟩:=bJ (w8.alloc (.cells #[.slice y E D] 22));have aP:BL w8 L:=by rw[G];exact aG.alloc aL _
         have Q:BL w8 wb:=by rw[H];exact aG.alloc aL _
         have bg:wb.heap.size=w8.heap.size+1:=by rw[H];simp
         have bi:L.heap.size=w8.heap.size+1:=by rw[G];simp
         have aQ:fG (fun _ _ u x=>uR w6 u x) w8.heap.size 22 L (.slice (some ⟨w8.heap.size,0,none⟩) 0 0) []:=by rw[G];exact alg w6 w8 _ aL
         have bj:uS w6 (·=w8.heap.size) wb (.slice (some ⟨w8.heap.size,0,none⟩) 1 1) [gG o1]:=by rw[H];exact ahB w8 _ aK.out
         obtain⟨aS,R⟩:=bJ (L.alloc (.cells #[.slice y E D] 22));obtain⟨aT,U⟩:=bJ (wb.alloc (.cells #[] 22));have Y:BL L aS:=by rw[R];exact aG.alloc aL _
         have adj:BL wb aT:=by rw[U];exact aG.alloc aL _
         have bk:=fG.below (uU w6) aQ Y;have bm:fG (fun _ _ u x=>uR w6 u x) w8.heap.size 22 aT (.slice (some ⟨wb.heap.size,0,none⟩) 0 0) []:=by rw[U];exact alg w6 wb _ Q.size
         have bn:uS w6 (·=L.heap.size) aS (.slice (some ⟨L.heap.size,0,none⟩) 1 1) [gG o1]:=by rw[R];exact ahB L _ aK.out
         have bo:=eA.keep bj (aH.below adj) fun _ _ h=>h;have cd:=hid aQ;have bp:=hid bk;have br:=hid bm;have bs:=hid bn;have bt:=hid bo;have aU:=hid aP;have aV:=hid (bO aP Y);have aW:=hid (bO Q adj);have ce:=hid Q;have I:=hid bi;have Z:=hid bg;have bu:Hid (L.heap.size<=aS.heap.size):=hid Y.size;have bv:Hid (wb.heap.size<=aT.heap.size):=hid adj.size;have cf:=hid G;have bw:=hid H;have bx:=hid R;have bz:=hid U;clear G H R U aQ bj bk bm bn bo aP Q Y adj bi bg;refine fP rfl rfl ?_ ?_;rotate_left
         ·go_wp2_with fail
          rw[<-bw.out];refine aN (BL wr) (fun _ h=>h) (bO fH.out ce.out) ?_;refine aZ rfl ?_;go_wp2_with fail;rw[<-bz.out];refine aN (BL wr) (fun _ h=>h) (bO fH.out aW.out) ?_;refine aZ rfl ?_;have F:=hid (aO.out _ aW.out);go_wp2_with (at_builtin;go_must (refine qi rfl _ _ rfl Tryz.mB rfl br.out rfl F.out jo (by have:=Z.out;have:=bv.out;omega) ?_));intro v9 wz FM g;have PE:=hid FM;have Dc:=hid (eA.keep bt.out (aH.gy g (fun b hb=>by have hb':b=w8.heap.size:=hb;have:=Z.out;simp[Value.ownBlock];omega)) fun _ _ h=>h);have Cn:=hid (aW.out.grown g (by have:=Z.out;have:=bv.out;omega) (fun b hb=>by have:=Z.out;simp[Value.ownBlock] at hb;omega));clear FM g F;exact al2
         ·go_wp2_with fail
          rw[<-cf.out];refine aN (BL wr) (fun _ h=>h) (bO fH.out aU.out) ?_;refine fP rfl rfl ?_ ?_
          ·have F:=hid (aO.out _ aU.out)
           go_wp2_with (at_builtin;go_must (refine qi rfl _ _ rfl Tryz.mB rfl cd.out rfl F.out jo (by have:=I.out;omega) ?_));intro v9 M FM g;have CW:=aU.out.grown g (by have:=I.out;omega) (fun b hb=>by simp[Value.ownBlock] at hb;omega);refine aN (BL wr) (fun _ h=>h) (bO fH.out CW) ?_;refine aZ rfl ?_;go_wp2_with fail;have cg:uS w6 (·=M.heap.size) (M.alloc (.cells #[.slice y E D] 22)) (.slice (some ⟨M.heap.size,0,none⟩) 1 1) [gG o1]:=ahB M _ aK.out;have bA:BL M (M.alloc (.cells #[.slice y E D] 22)):=aG.alloc aL _;have PE:=hid (fG.below (uU w6) FM bA);have Dc:=hid cg;have Cn:=hid (bO CW bA);generalize M.alloc (.cells #[.slice y E D] 22)=wz at*;generalize M.heap.size=g9 at*;exact al2
          ·go_wp2_with fail
           rw[<-bx.out];refine aN (BL wr) (fun _ h=>h) (bO fH.out aV.out) ?_;refine aZ rfl ?_;have F:=hid (aO.out _ aV.out);go_wp2_with (at_builtin;go_must (refine qi rfl _ _ rfl Tryz.mB rfl bp.out rfl F.out jo (by have:=I.out;have:=bu.out;omega) ?_));intro v9 wz FM g;have PE:=hid FM;have Dc:=hid (eA.keep bs.out (aH.gy g (fun b hb=>by have hb':b=L.heap.size:=hb;have:=I.out;simp[Value.ownBlock];omega)) fun _ _ h=>h);have Cn:=hid (aV.out.grown g (by have:=I.out;have:=bu.out;omega) (fun b hb=>by simp[Value.ownBlock] at hb;omega));exact al2
        ·obtain rfl:j=q:=by omega
         have ab:Hid (NY=(A.take (i+1)).flatMap fun a=>m.map fun o=>a++[o]):=hid (by
          rw[aB.out,<-b9.out,HQ.out,zxw])
         have bD:NY.length=(i+1)*j:=by rw[ahE,Nat.succ_mul]
         go_wp2;go_roundw;case rel=>exact⟨i+1,NY,_,aD,zG,rfl,bD,ab,HI,HB⟩
         exact zI
      ·obtain rfl:i=p:=by omega
       have ab:Hid (r=A.flatMap fun a=>m.map fun o=>a++[o]):=hid (by rw[ay.out,<-J4.out,zxw]);have GJ:Hid (Cz.rD (X.drop (k+1)) (i*q) r=Cz.rD (Cz.sorts (aM x) W) 1 [[]]):=hid (by rw[ab.out];exact Wn.out)
       have ch:Hid (∀a∈r,a.length=k+1):=hid (fun a ha=>by
        rw[ab.out] at ha;obtain⟨b,hb,ha⟩:=List.mem_flatMap.1 ha;obtain⟨o, -,rfl⟩:=List.mem_map.1 ha;rw[rK,HE.out b hb];rfl)
       have sU:Hid (∃w0,BL w4 w0/\BL w0 wr/\alK w0 dr wr v1 (r.map dm)):=hid ⟨w6,mA.out,HB.out,eA.mono (fG.sl (uT w6) HI.out) (fun _ _ _=>trivial) fun _ _ h=>eA.mono h (fun _ _ _=>trivial) fun _ _ h=>h⟩;have cH:=aR mA HB.out;have cj:1<=i*q:=Nat.mul_pos bc av;go_wp2;go_roundw;case rel=>exact⟨k+1,i*q,r,_,aD,zG,rfl,rfl,cj,aD,b5,GJ,ch,sU,cH⟩
       exact zI
   ·have cm:n=k:=by omega
    subst cm;obtain⟨cn,bE⟩:=Cz.aa8 (A:=A) (ks:=aM x) (w:=W) (by rw[<-HC.out,List.drop_of_length_le (by rw[a8.out];exact aL)];rfl);have cp:=hid cn;have aX:=hid bE;have bF:Hid (∀a∈A,FT x W (Cz.bN (aM x) W a)):=hid (fun a ha=>FT.of GA.out (bE a ha).2)
    have cq:Hid (∀i (hi:i<A.length),∃u,∀V,BL wr V->∃c O,v0=.slice c p O/\V.cell? ⟨bM c,bT c+i,none⟩=some u/\cG dr V u (dm A[i])):=hid (fun i hi=>by
     obtain⟨w0,g1,g2,g3⟩:=HA.out;obtain⟨c,O,rfl, -, -, -⟩:=g3.form;obtain⟨u,h1, -,h2⟩:=g3.at (show i<(A.map dm).length by rw[sM];exact hi);rw[show (A.map dm)[i]'(by rw[sM];exact hi)=dm A[i] from zxo _] at h2;exact⟨u,fun V d=>⟨c,O,by rw[sM,t],(d.cell (p:=⟨bM c,bT c+i,none⟩) (kK _ _ h1)).trans h1,uS.rows (eA.keep h2 (aH.below d) fun _ _ h=>h) (bO g2 d)⟩⟩)
    obtain⟨c,O,rfl,bd⟩:∃c O,v0=.slice c p O/\dV c p:=by
     obtain⟨w0,g1,g2,g3⟩:=HA.out;obtain⟨c,O,rfl,h, -, -⟩:=g3.form;rw[sM,t] at h ⊢;exact⟨c,O,rfl,h⟩
    have bI:Hid (∀i (hi:i<A.length),∃u,∀V,BL wr V->V.cell? ⟨bM c,bT c+i,none⟩=some u/\cG dr V u (dm A[i])):=hid (fun i hi=>by
     obtain⟨u,h⟩:=cq.out i hi;refine⟨u,fun V d=>?_⟩;obtain⟨a',c',e,h1,h2⟩:=h V d;cases e;exact⟨h1,h2⟩)
    have J4:=hid t;have lP:=aR gX HB.out;have f:0<A.length:=aD
    obtain⟨u0,bP⟩:=bI.out 0 f;have cs:=hid bP;have c0:=(bP wr aG).1;simp only[Nat.add_zero] at c0;have c3:=zL 0 p
    have cL:0<p:=aD
    obtain⟨y0,y1,y2,y3⟩:=b4z (HK.out wr lP.out);go_upto_region 24 with fail;refine fB 5 nK zK ?_;simp only[List.take_succ_cons,List.take_zero,jW,jH];repeat (go_big_quiet_step (fail))
    refine iU ?_;go_wp2_with fail;have l:=aJ (Below.refl wr.heap.size wr) 1;refine(J3.out _ (bO lP.out l) A[0] (by rw[HN.out];exact(aX.out _ (eV f)).1) (fun k hk=>(aX.out _ (eV f)).2 k (by rw[<-HN.out];exact hk)) u0 (cs.out _ l).2).mono ?_;rintro e w7 ⟨r7,rfl,h7,mI⟩;have ct:=bO l mI;have cu:Hid (bK (w1.heap.size<=·) w7 r7 (Cz.bN (aM x) W A[0])):=hid (bK.mono h7 (fun b _ hb=>by have:=lP.out.size;have:=l.size;have hb':(wr.drewN 1).heap.size<=b:=hb;show w1.heap.size<=b;omega));have jb:=hid ct
    have cv:Hid (Cz.best ((A.take 1).map (Cz.bN (aM x) W))=some (Cz.bN (aM x) W A[0])):=hid (by
     rw[yh f];rfl)
    have BZ:=hid (bF.out _ (eV f));generalize c4:wr=wq at*;go_upto_region 26 with fail;go_loopw [14,15,16] (fun bb ii _ wr=>∃(i:Nat) (B:aC.dw) (vb:Value),i<=p/\1<=i/\ii=.int .i64 (i:Int)/\vb=bb/\Hid (Cz.best ((A.take i).map (Cz.bN (aM x) W))=some B)/\Hid (FT x W B)/\Hid (bK (w1.heap.size<=·) wr vb B)/\Hid (BL wq wr)) (fun _ ii _ _=>p-(intOf ii).toNat);case atStart=>exact⟨1,_,_,bc,aL,rfl,rfl,cv,BZ,cu,jb⟩
    case round=>
     obtain⟨i,B,vb,hi,b6,rfl,rfl,I5,aY,bQ,xX⟩:=hrel;by_cases hit:i<p
     ·have c5:=zN i
      have c6:=zL i p
      have K:i<A.length:=by rw[J4.out];exact hit
      obtain⟨u1,bR⟩:=bI.out i K;have cx:=hid bR;have c1:=(bR wr xX.out).1;have kM:=aR lP xX.out;obtain⟨y0,y1,y2,y3⟩:=b4z (HK.out wr kM.out)
      have BU:Hid (∀b,b=Cz.bN (aM x) W A[i]->Cz.best ((A.take (i+1)).map (Cz.bN (aM x) W))=some (if Cz.sC b B<0 then b else B)):=hid (by
       rintro b rfl
       rw[yh K,zxj,List.map_singleton]
       exact Cz.VF I5.out)
      have a0:=hid (bF.out _ (eV K));have bS:=(aX.out _ (eV K));have cy:=hid (fun V (d:BL wr V)=>J3.out V (bO kM.out d) A[i] (by rw[HN.out];exact bS.1) (fun k hk=>bS.2 k (by rw[<-HN.out];exact hk)) u1 (cx.out V (bO xX.out d)).2);go_upto_region 28 with fail;refine fB 6 nK zK ?_;simp only[List.take_succ_cons,List.take_zero,jW,jH];repeat (go_big_quiet_step (fail))
      refine iU ?_;have l:=aJ (Below.refl wr.heap.size wr) 1;go_wp2_with fail;refine(cy.out _ l).mono ?_;rintro e w7 ⟨r7,rfl,h7,mI⟩;have Nf:=bO l mI;have Gh:Hid (bK (w1.heap.size<=·) w7 r7 (Cz.bN (aM x) W A[i])):=hid (bK.mono h7 (fun b _ hb=>by have:=kM.out.size;have:=l.size;have hb':(wr.drewN 1).heap.size<=b:=hb;show w1.heap.size<=b;omega));have jb:=hid Nf;have bV:=hid (bK.keep bQ.out (aH.below Nf));have ad:=hid (BU.out _ rfl);generalize Cz.bN (aM x) W A[i]=C at*;have cA:=hid (a0.out.cmp aY.out);have a2:=hid (a0.out.num GA.out);have a3:=hid (aY.out.num GA.out);go_wp2_with fail;refine(alT C a2.out.1 a2.out.2.1 a2.out.2.2 r7 _ w7 Gh.out).mono ?_;rintro e w8 ⟨f1,rfl,h8,mz⟩;have cB:=hid h8;have ou:=hid mz;go_wp2_with fail;refine(alT B a3.out.1 a3.out.2.1 a3.out.2.2 vb _ w8 (bK.keep bV.out (aH.below ou.out))).mono ?_;rintro e M ⟨f2,rfl,h9,CW⟩;have cC:=hid h9;have pX:=hid CW;go_wp2_with fail;refine(Ih (Cz.flat C) (Cz.flat B) f1 f2 _ _ M (bB.keep cB.out (aH.below pX.out)) cC.out).mono ?_;rintro e mL ⟨rfl,cD⟩;have nE:=ou.out.trans ((bO pX.out (rF cD)).mono ou.out.size);have cF:=hid (bK.keep Gh.out (aH.below nE));have cI:=hid (bK.keep bV.out (aH.below nE));have BU:=hid (bO xX.out (bO jb.out nE));rw[cA.out];by_cases ae:Cz.sC C B<0
      ·rw[decide_eq_true ae]
       rw[if_pos ae] at ad;go_wp2;go_roundw;case rel=>exact⟨i+1,C,_,aD,aD,zG,rfl,ad,a0,cF,BU⟩
       exact zI
      ·rw[decide_eq_false ae]
       rw[if_neg ae] at ad;go_wp2;go_roundw;case rel=>exact⟨i+1,B,_,aD,aD,zG,rfl,ad,aY,cI,BU⟩
       exact zI
     ·obtain rfl:i=p:=by omega
      have cJ:Hid (M8 x W=some B):=hid (by rw[HR.out,cp.out,<-I5.out,<-J4.out,zxw]);have bW:=hid (bO bL.out (bO lP.out xX.out));have cK:=hid (bK.mono bQ.out (S':=(w.heap.size<=·)) (fun b _ hb=>by have:=bL.out.size;have hb':w1.heap.size<=b:=hb;show w.heap.size<=b;omega));go_wp2;go_ret2;refine⟨?_,bW.out⟩;rw[cJ.out];exact⟨_,rfl,cK.out⟩
theorem Qo(x:aC.cE)(hx:aC.okB x=true)(t:0<x.ah.length)(k:Option Addr)(l:Nat)(v:Value)(S:Nat->Prop)(w:World)(m:dO S w v x):
  CP 24 #[v,.slice k 0 l] w (VG 2 none w):=by
 obtain⟨F,G,H,I,J,K,w1,rfl,a,u,n,y,c,z,A,B,d,f,C⟩:=jC w x v S m;have D:=hid (fun V (g:BL w1 V)=>EB x hx _ S V (c.out V g));have h:=hid (fun V (g:BL w1 V)=>am2 x t k l _ S V (c.out V g));have o:=hid a;obtain⟨p,q,r,s⟩:=b4z (n.out w1 aG);clear m d f C a hx c;go_enter func24,ntmps24;go_upto_region 1 with fail;rw[o.out];clear o;go_wp2_with fail;refine(D.out w1 aG).mono ?_;rintro e w2 ⟨rfl,b⟩;have i:=hid b;clear p q r s b;obtain⟨p,q,r,s⟩:=b4z (n.out w2 i.out);go_wp2_with fail;refine(h.out w2 i.out).mono ?_;rintro e w3 ⟨rfl,j⟩;have E:=aR i j;go_wp2;go_ret2;exact⟨rfl,bO u.out E.out⟩
def alw(x:aC.cE)(w:World)(e:Ending)(w':World):Prop:=∃(r:Value) (W:aC.dw),e=.returned r/\Cz.nH (aM x) W/\(∀k,Cz.len W k<=5)/\cM (w.heap.size<=·) w' r W/\BL w w'
theorem AB{x:aC.cE}{W:aC.dw}(h:aC.Jk x W)(k:Nat):Cz.len W k<=5:=by
 unfold Cz.len;by_cases a:k<W.length
 ·rw[Cz.bh a];exact h.five k a
 ·rw[iY,zxr aD];simp
structure qy(x:aC.cE)(n:Nat)(v:Value)(B:Nat)(w1 wr:World)(W:aC.dw):Prop where
 len:W.length=n
 fit:Cz.nH (aM x) W
 five:∀k,Cz.len W k<=5
 own:cM (B<=·) wr v W
 below:Below B w1 wr
theorem qy.row{x:aC.cE}{n:Nat}{v:Value}{B:Nat}{w1 wr:World}{W:aC.dw}(h:qy x n v B w1 wr W){k i:Nat}(b:k<W.length)(c:i<W[k].length):∃a:k<x.ah.length,W[k][i].length=x.ah[k].aF.length:=by
 have a:k<x.ah.length:=by have:=h.fit.lk;rw[jc] at this;omega
 have:=h.fit.r k i b (by rw[fD b];exact c);rw[uP b c,dJ x a,dH a] at this;exact⟨a,this⟩
theorem qy.set{x:aC.cE}{n:Nat}{v:Value}{B:Nat}{w1 wr:World}{W:aC.dw}(h:qy x n v B w1 wr W){k i f:Nat}(c:k<W.length)(d:i<W[k].length)(m:f<W[k][i].length)(e:(aC.fd x k f).kind≠1){X:World}{y:Int}(g:cM (B<=·) X v (Cz.lM W k i f y))(j:Below B w1 X):qy x n v B w1 X (Cz.lM W k i f y):=by
 obtain⟨a,o⟩:=h.row c d;have b:f<(aC.kd x k).aF.length:=by rw[dH a];omega
 refine⟨by unfold Cz.lM;rw[zxl];exact h.len,Cz.aai h.fit c (by rw[fD c];exact d) (by rw[dJ x a];exact b) ?_ y,fun l=>by rw[Cz.mh];exact h.five l,g,j⟩;rw[mg x a b];unfold iE;split
 ·omega
 ·first
  |omega
  |(rw[if_neg e];omega)
theorem abd(x:aC.cE)(C:aC.eT x)(h6:x.ah.length<=6)(c:∀k∈x.ah,k.aF.length<=10)(L:List Int)(hL:Fit L)(v u:Value)(S T:Nat->Prop)(w:World)(D:dO S w v x)(hu:bB T w u L):
  CP 20 #[v,u] w (alw x w):=by
 obtain⟨ak,ck,al,cl,ar,cr,w1,rfl,E,N,V,ax,HV,X,ay,az,F,Y,qC⟩:=jC w x v S D;have HT:=hid (fun(k t:Nat) (O:k<x.ah.length) (ht:t<x.ah[k].aF.length)=>F.Vd O ht);have HM:=hid (LW x C aD (fun k O=>zxb (c k O) aD) L hL _ u S T w1 (HV.out w1 aG) (bB.keep hu (aH.below N.out)));have Z:=hid c;have HW:=hid E;obtain⟨y0,y1,y2,y3⟩:=b4z (V.out w1 aG);clear D hu F Y qC E C c HV;go_enter func20,ntmps20;go_upto_region 1 with fail;rw[HW.out];clear HW;go_wp2_with fail;refine HM.out.mono ?_;rintro e w2 ⟨r2,W,rfl,j,h2,G⟩;obtain⟨d,l,rfl,H, -, -⟩:=(cM.sl h2).form;have m:=j.len;have A:Hid (∃W,qy x x.ah.length (.slice d x.ah.length l) w1.heap.size w1 w2 W):=hid ⟨W,m,Md j,AB j,by rw[<-m];exact h2,G⟩;rw[m] at H ⊢;obtain⟨n,hn⟩:=bJ x.ah.length;have HN:=hid hn;dsimp only[sBx] at V A ⊢;rw[<-hn] at h6 X H V A ⊢;clear j h2 G hn m y0 y1 y2 y3;go_upto_region 3 with fail;go_loopw [6,7,8] (fun kk _ _ wr=>∃k:Nat,k<=n/\kk=.int .i64 (k:Int)/\Hid (∃W,qy x n (.slice d n l) w1.heap.size w1 wr W)) (fun kk _ _ _=>n-(intOf kk).toNat);case atStart=>exact⟨0,zxa _,rfl,A⟩
 case round=>
  clear A;obtain⟨k,O,rfl,HR⟩:=hrel;by_cases hkt:k<n
  ·have aA:=zN k
   have aB:=zL k n
   have p:k<x.ah.length:=abx
   generalize wr=wo at*;go_upto_region 6 with fail;go_loopw [7,8] (fun ii _ wr=>∃i:Nat,i<=5/\ii=.int .i64 (i:Int)/\Hid (∃W,qy x n (.slice d n l) w1.heap.size w1 wr W)) (fun ii _ _=>5-(intOf ii).toNat);case atStart=>exact⟨0,zxa _,rfl,HR⟩
   case round=>
    clear HR;obtain⟨i,hi,rfl,HR⟩:=hrel;obtain⟨W,a⟩:=HR.out;have g:k<W.length:=by rw[a.len];exact hkt
    have h5:=a.five k;rw[fD g] at h5;obtain⟨ao,co,yp,ho, -⟩:=(cM.sl a.own).tab g;have c0:=ho wr aG;obtain⟨P,q⟩:=bJ (W[k].length);have A:Hid (i<P->∃W,i<Cz.len W k/\qy x n (.slice d n l) w1.heap.size w1 wr W):=hid (fun h=>⟨W,by rw[fD g,<-q];exact h,a⟩);rw[<-q] at c0 yp h5;clear ho a q;by_cases hit:i<P
    ·have aE:=zN i
     have aa:=zL i P
     have vw:=hid (A.out hit);go_upto_region 9 with fail;clear HR A c0;generalize wr=wi at*;go_loopw [8] (fun ff wr=>∃f:Nat,f<=10/\ff=.int .i64 (f:Int)/\Hid (∃W,i<Cz.len W k/\qy x n (.slice d n l) w1.heap.size w1 wr W)) (fun ff _=>10-(intOf ff).toNat);case atStart=>exact⟨0,zxa _,rfl,vw⟩
     case round=>
      clear vw;obtain⟨f,hf,rfl,HR⟩:=hrel;obtain⟨W,B,a⟩:=HR.out;have g:k<W.length:=by rw[a.len];exact hkt
      rw[fD g] at B;obtain⟨ap,r⟩:=a.row g B;have c:=Z.out _ (eV p);rw[<-r] at c;obtain⟨ab,ad,ae,ag,aq,au, -,hc⟩:=(cM.sl a.own).rec g B;obtain⟨c1,c2, -⟩:=hc wr aG;have aI:=zN i
      have aK:(i:Int)<(W[k].length:Int):=aD
      have Q:=hid a.below;by_cases s:f<W[k][i].length
      ·have aL:=zN f
       have aM:(f:Int)<(W[k][i].length:Int):=aD
       have rG:f<x.ah[k].aF.length:=aD
       obtain⟨go,ai,gk,I,gi,ci,D,⟨r1,r2,r3⟩,o,s1, -⟩:=xY a.own g B aD;obtain⟨J, -, -⟩:d=some ⟨go,0,none⟩/\n=W.length/\l=ai:=by simpa using D
       have K:wr.cell? ⟨bM d,bT d+k,none⟩=some (.slice (some ⟨gk,0,none⟩) W[k].length I):=by rw[J];simpa using r1
       obtain⟨rfl,rfl⟩:ab=some ⟨gk,0,none⟩/\ad=I:=by have:=c1.symm.trans K;simpa using this
       obtain⟨rfl,rfl⟩:ae=some ⟨gi,0,none⟩/\ag=ci:=tG
       simp only[fK,fL,zxn] at c2;obtain⟨r4,r5⟩:=r3 f s;obtain⟨af,cf,Cv,Nt,aN,aO,aj, -, -, -, -, -,hT⟩:=HT.out k f p rG;obtain⟨k3, -, -, -,g3, -⟩:=hT wr (bO N.out Q.out);obtain⟨y0,y1,y2,y3⟩:=b4z (V.out wr Q.out);have Cg:aC.fd x k f=x.ah[k].aF[f]:=iX p rG
       have nM:Hid ((x.ah[k].aF[f]).kind≠1->∀y,∃W,i<Cz.len W k/\qy x n (.slice d n l) w1.heap.size w1 ((wr.drewN 1).setCell ⟨gi,f,none⟩ (.int .i64 y)) W):=hid (fun h y=>by
        have R:=aJ (Below.refl wr.heap.size wr) 1;exact⟨_,by rw[Cz.mh,fD g];exact B,a.set g B s abz (o _ (aH.below R) f s y) (Q.out.trans (((Turns.bg R).setCell (S:=(w1.heap.size<=·)) _ _ s1).below Q.out.size (fun b h=>h)))⟩)
       obtain⟨nf,M⟩:=bJ (x.ah[k].aF.length);rw[<-M] at k3 aj rG;have av:=zL f nf
       clear o hT Cg r1 r2 r3 K J D r hc s1 M;generalize W[k][i][f]=z at*;generalize W[k][i].length=nr at*;generalize W[k].length=am at*;clear a;generalize x.ah[k].aF[f].kind=gk at*;by_cases U:gk=1
       ·subst U
        go_wp2;go_roundw;case rel=>exact⟨f+1,aD,zG,HR⟩
        exact zI
       ·have e1:(gk !=1)=true:=by simpa using U
        have an:=hid (nM.out U);clear nM U;go_upto_region 12 with fail;refine fB 20 nK zK ?_;simp only[List.take_succ_cons,List.take_zero,jW,jH];repeat (go_big_quiet_step (fail))
        refine iU ?_;go_wp2;go_roundw;case rel=>exact⟨f+1,aD,zG,hid (an.out _)⟩
        exact zI
      ·have qg:¬(f:Int)<(W[k][i].length:Int):=by omega
       have C5:Hid (∃W,qy x n (.slice d n l) w1.heap.size w1 wr W):=hid ⟨W,a⟩;clear hc a r;generalize W[k][i].length=nr at*;generalize W[k].length=am at*;go_wp2;go_roundw;case rel=>exact⟨i+1,aD,zG,C5⟩
       exact zI
    ·have aa:¬(i:Int)<(P:Int):=by omega
     go_wp2;go_roundw;case rel=>exact⟨k+1,aD,zG,HR⟩
     exact zI
  ·obtain rfl:k=n:=by omega
   obtain⟨W,a⟩:=HR.out;have HE:Hid (alw x w (.returned (.slice d k l)) wr):=hid ⟨_,W,rfl,a.fit,a.five,bZ.mono a.own (fun b _ R=>by have:=N.out.size;have aP:w1.heap.size<=b:=R;show w.heap.size<=b;omega),bO N.out a.below⟩;clear a;go_wp2;go_ret;exact HE.out
def abe(o:List Nat)(j i:Nat):List Nat:=o.take j++i::o.drop j
theorem VI{o:List Nat}{i:Nat}(h:o.Perm (List.range i))(j:Nat):(abe o j i).Perm (List.range (i+1)):=by
 unfold abe;rw[zxs];refine List.perm_middle.trans ?_;rw[List.take_append_drop];exact(List.perm_append_singleton i o).symm.trans (h.append_right [i])
theorem VJ(o:List Nat)(j i:Nat):(gG o).take j++(i:Int)::(gG o).drop j=gG (abe o j i):=by simp[gG,abe]
theorem EJ(b o l:Nat):(⟨b,o,none⟩:Addr).add (l*1)=⟨b,o+l,none⟩:=by
 unfold Addr.add;by_cases h:l=0
 ·subst h;simp
 ·simp[h]
theorem eA.rest{α:Type}{R:World->Value->α->Prop}{S:Nat->Prop}{w:World}{a:Option Addr}{n cap:Nat}{xs:List α}(h:eA R S w (.slice a n cap) xs){l:Nat}(t:l<=xs.length):
  eA R S w (sliced a l n cap 1) (xs.drop l):=by
 obtain⟨v,f,e,d,x,y,i,k⟩:=h;cases e;have c:(xs.drop l).length=xs.length-l:=List.length_drop;by_cases g:cap=l
 ·have m:xs.drop l=[]:=by
   apply zxh
   omega
  rw[m];unfold sliced;rw[if_pos g];refine⟨a,cap-l,?_,fun h=>absurd h bH,zxa _,aD,fun h=>absurd h bH,fun j h=>absurd h bH⟩;rw[show xs.length-l=0 by omega];simp
 ·unfold sliced
  rw[if_neg g];refine⟨a.map (·.add (l*1)),cap-l,by rw[c],fun p=>?_,aD,aD,fun p=>?_,fun j q=>?_⟩
  ·obtain⟨b,o,rfl⟩:=d aD
   exact⟨b,o+l,by rw[Option.map_some,EJ]⟩
  ·obtain⟨b,o,rfl⟩:=d aD
   have:=i aD;rw[Option.map_some,EJ];exact this
  ·rw[c] at q
   obtain⟨b,o,rfl⟩:=d aD;obtain⟨u,r,s⟩:=k (l+j) aD;refine⟨u,?_,?_⟩
   ·rw[Option.map_some,EJ]
    show w.cell? ⟨b,o+l+j,none⟩=some u
    rw[Nat.add_assoc];exact r
   ·rw[List.getElem_drop]
    exact s
theorem bp.cut{S:Nat->Prop}{w:World}{v:Value}{xs:List Int}(h:bp S w v xs){j:Nat}(i:j<=xs.length):∃a c at' m n o,v=.slice a xs.length c/\
  (∀X,(Instr.slice 22 (.slice a xs.length c) none (some (.int .i64 (j:Int))) none).run prog X=.ok (.slice at' j m) X)/\
  (∀X,(Instr.slice 22 (.slice a xs.length c) (some (.int .i64 (j:Int))) none none).run prog X=.ok (.slice n (xs.length-j) o) X)/\
  bp S w (.slice at' j m) (xs.take j)/\bB S w (.slice n (xs.length-j) o) (xs.drop j):=by
 obtain⟨a,c,rfl,t,p,q⟩:=(bp.sl h).form;have hd:=eA.rest (bp.sl h) i;have d:∀X,(sizeOf (prog.elem 22)).run prog X=.ok 1 X:=fun X=>rfl;refine⟨a,c,a,c,_,_,rfl,fun X=>?_,fun X=>?_,?_,hd⟩
 ·rw[run_slice_h X 22 a xs.length c zK .i64 _ aD aD,d]
  simp only[Result.andThen,sliced,zxk,Nat.sub_zero,Nat.zero_mul];congr 2;split
  ·rfl
  ·cases a with
   |none=>rfl
   |some a=>simp[Addr.add]
 ·rw[run_slice_l X 22 a xs.length c zK .i64 _ aD aD,d]
  simp only[Result.andThen,sliced,zxk]
 ·obtain⟨⟨C,f⟩,u⟩:=h
  have x:(Value.slice a j c).ownBlock=(Value.slice a xs.length c).ownBlock:=by cases a<;>rfl
  refine⟨⟨bH,?_⟩,fun b k=>u b (by rw[<-x];exact k)⟩;rw[VQ,Nat.min_eq_left i];rcases f with⟨f,D⟩|⟨g,r,l,y,k,z,E,A,B,s⟩
  ·simp only[Value.slice.injEq] at f
   obtain⟨rfl,e,rfl⟩:=f;exact .inl ⟨by rw[show j=0 by omega],aD⟩
  ·cases y
   refine .inr ⟨g,c,l,rfl,k,z,aD,A,B,?_⟩;simp only[Nat.mul_one] at s ⊢;rw[List.map_take,<-s,List.take_take,Nat.min_eq_left i]
def afd(x:aC.cE)(W:aC.dw)(w:World)(e:Ending)(w':World):Prop:=∃(r:Value) (b:aC.dw) (a:List (List Nat)),e=.returned r/\Cz.rH (aM x) a W b/\cM (w.heap.size<=·) w' r b/\BL w w'
structure adl(W:aC.dw)(k:Nat)(OS:List (List Nat)):Prop where
 len:OS.length=k
 perm:∀q,q<k->(OS.getD q []).Perm (List.range (Cz.len W q))
theorem adl.snoc{W:aC.dw}{k:Nat}{a:List (List Nat)}(h:adl W k a){o:List Nat}(b:o.Perm (List.range (Cz.len W k))):adl W (k+1) (a++[o]) where
 len:=by simp[h.len]
 perm q hq:=by
  rw[iY];by_cases e:q=k
  ·subst e
   rw[List.getElem?_append_right (by rw[h.len];exact aL),h.len,Nat.sub_self];exact b
  ·rw[List.getElem?_append_left (by rw[h.len];omega),<-iY]
   exact h.perm q aD
theorem qy.keys{x:aC.cE}{n:Nat}{v:Value}{B:Nat}{w1 wr:World}{W d:aC.dw}(h:qy x n v B w1 wr W)(e:Cz.oD (aM x) d W){k i f:Nat}(b:k<W.length)(c:i<W[k].length)(g:f<W[k][i].length)(j:(aC.fd x k f).kind=0)(y:Int):Cz.oD (aM x) d (Cz.lM W k i f y):=by
 obtain⟨a,l⟩:=h.row b c;refine e.set b (by rw[fD b];exact c) (by rw[uP b c];exact g) ?_ y;rw[mg x a (by rw[dH a];omega)];unfold iE;rw[if_pos j]
theorem M9(x:aC.cE)(ax:aC.eT x)(W:aC.dw)(hf:bU.jE x W)(F:Cz.nH (aM x) W)(Y:∀k,Cz.len W k<=5)(J:∀k∈x.ah,k.aF.length<=10)(L:List Int)(hL:Fit L)(v u z:Value)(S T Z:Nat->Prop)(w:World)(hv:dO S w v x)(hW:bK T w u W)(hz:bB Z w z L):
  CP 21 #[v,u,z] w (afd x W w):=by
 replace hv:=hv.mono (S':=dr) (fun _ _ _=>trivial);replace hW:=hW.mono (S':=dr) (fun _ _ _=>trivial);obtain⟨ak,ck,al,cl,ar,cr,w1,rfl,ae,bL,HK,bS,HV,bf,bV,bW,ay,bh,qC⟩:=jC w x v dr hv;obtain⟨aw,cw,rfl,bi, -, -⟩:=hW.form;have E2:=hid (fun V (r:BL w1 V)=>hW.keep (aH.below (bO bL.out r)));have bj:=hid (fun V (r:BL w1 V)=>bB.keep hz (aH.below (bO bL.out r)));have Nn:=hid (fun(a:Nat) (m:Int) (hm:1<=m) (bX:m<=1000) (V:World) (r:BL w1 V)=>Dd L hL z (a:Int) m _ V (bj.out V r) hm aD aD);have J3:=hid (fun V (r:BL w1 V) (a:List (List Nat)) (G:a.length=W.length) (hp:∀k,k<W.length->(a.getD k []).Perm (List.range (Cz.len W k))) (q:Value) (hq:cG dr V q (dm a))=>wX x ax W hf F a G hp _ _ q dr dr dr V (HV.out V r) (E2.out V r) hq);have HT:=hid (fun(k t:Nat) (hk:k<x.ah.length) (ht:t<x.ah[k].aF.length)=>ay.Vd hk ht);have bk:=hid J;have H5:=hid Y;have pW:=hid F;have ag:W.length=x.ah.length:=hf.len;have h6:W.length<=6:=by rw[ag];exact hf.ah
 obtain⟨n,hn⟩:=bJ W.length;have HN:=hid hn;have Je:Hid (n=x.ah.length):=hid (hn.trans ag);have K:=Je.out;rw[<-hn] at E2 J3 bi h6 ⊢;dsimp only[sBx] at *;rw[<-K] at HK bf ae;rw[<-K];rw[<-K] at J3;have az:=hid ae;clear hv hW hz ay bh qC ae hf F ax Y J hn K ag HV;go_enter func21,ntmps21;go_upto_region 1 with fail;rw[az.out];clear az;go_upto_region 4 with fail;go_loopw [7,8,9,10,11,12,13] (fun oo M kk _ _ _ _ wr=>∃(k a:Nat) (s:List (List Nat)) (v0:Value),k<=n/\a<=5*k/\kk=.int .i64 (k:Int)/\M=.int .i64 (a:Int)/\v0=oo/\Hid (adl W k s)/\Hid (fE (w1.heap.size<=·) wr v0 (dm s))/\Hid (BL w1 wr)) (fun _ _ kk _ _ _ _ _=>n-(intOf kk).toNat);case atStart=>exact⟨0,0,[],_,zxa _,zxa _,rfl,rfl,rfl,hid ⟨rfl,fun q h=>absurd h aD⟩,hid (jv.nil _ _ _ _),hid aG⟩
 case round=>
  obtain⟨k,a,s,v0,hk,ha,rfl,rfl,rfl,HO,HR,D⟩:=hrel;by_cases hkt:k<n
  ·have bl:=zN k
   have bm:=zL k n
   have B:k<W.length:=abx
   obtain⟨ao,co,yp,ho, -⟩:=(E2.out w1 aG).tab B;have Y:=H5.out k;rw[fD B] at Y;have pQ:Hid (Cz.len W k=W[k].length):=hid (fD B);obtain⟨I,C⟩:=bJ (W[k].length);rw[<-C] at ho yp Y pQ;have bn:=hid ho;clear ho C;generalize wr=N at*;go_upto_region 8 with fail;go_loopw [8,10,11,12,13] (fun M oo ii _ _ wr=>∃(i a:Nat) (O:List Nat) (v1:Value),i<=I/\a<=5*k+i/\ii=.int .i64 (i:Int)/\M=.int .i64 (a:Int)/\v1=oo/\Hid (O.Perm (List.range i))/\Hid (bp (N.heap.size<=·) wr v1 (gG O))/\Hid (BL N wr)) (fun _ _ ii _ _ _=>I-(intOf ii).toNat);case atStart=>exact⟨0,a,[],_,zxa _,aD,rfl,rfl,rfl,hid bH,hid (bp.nil _ _),hid aG⟩
   case round=>
    clear ha;obtain⟨i,a,O,v1,hi,ha,rfl,rfl,rfl,HP,HI,kQ⟩:=hrel;have lP:=aR D kQ.out;have c0:=bn.out wr lP.out;by_cases hit:i<I
    ·have bo:=zN i
     have aA:=zL i I
     have E6:=hid (Nn.out a ((i:Int)+1) aD aD wr lP.out);go_upto_region 10 with fail;go_wp2_with fail;refine E6.out.mono ?_;rintro e w2 ⟨zj,rfl,bY,b0,rfl⟩;obtain⟨j,rfl⟩:∃j:Nat,zj=(j:Int):=⟨zj.toNat,aD⟩;have br:j<=i:=aD
     have E:(gG O).length=i:=by rw[lH,HP.out.length_eq,List.length_range]
     have aB:((gG O).drop j).length=i-j:=by rw[List.length_drop,E]
     have aE:((gG O).take j).length=j:=by rw[VQ,E];omega
     obtain⟨av,cv,at',ct,ad,cd,aI,aK,aO,aP,ai⟩:=HI.out.cut (j:=j) (by rw[E];exact br);rw[E] at aI aK aO ai;subst aI;have G:BL wr (wr.alloc (.cells #[] 3)):=aG.alloc aL _;have aQ:bB (N.heap.size<=·) (wr.alloc (.cells #[] 3)) (.slice ad (i-j) cd) ((gG O).drop j):=bB.keep ai (aH.below G);have hI:=pP wr;have aj:=hid aP;have UD:=hid E;have bs:=hid aB;have aS:=hid aE;clear aP ai E aB aE c0 E6;go_wp2_with (at_builtin;go_must (refine dI rfl _ _ rfl Tryz.jG rfl hI aG rfl aQ jo ?_));intro v3 w3 Ca aT;have am:Hid (bp (wr.heap.size<=·) w3 v3 ((gG O).drop j)):=hid (by simpa using aW.mono Ca (fun b _ c=>eE bH b c));have cN:Hid (BL wr w3):=hid (G.trans (aT.below bH (fun b c=>by simp[Value.ownBlock] at c;omega)));clear hI Ca aQ aT G;have aU:=hid (aW.keep aj.out (aH.below cN.out));obtain⟨a3,c3,rfl, -, -, -⟩:=(bp.sl am.out).form;rw[bs.out] at am ⊢;go_wp2_with (at_builtin;go_must (refine dI rfl _ _ rfl Tryz.jG rfl aU.out (aG.alloc aL _) rfl (lg dr w3 _ (i:Int) rfl trivial) (by rw[aS.out];omega) ?_));intro v4 w4 aV tT;have an:BL w3 (w3.alloc (.cells #[.int .i64 (i:Int)] 3)):=aG.alloc aL _;have H:∀b,some b=(Value.slice at' j ct).ownBlock->N.heap.size<=b/\b<wr.heap.size:=fun b c=>⟨aj.out.2 b c.symm,(aj.out.1.lt b c.symm).2⟩;have aX:bB (wr.heap.size<=·) w4 (.slice a3 (i-j) c3) ((gG O).drop j):=((bp.sl am.out).keep (aH.below an)).keep (tT.keep (fun b c h=>by have:=(H b h).2;have aY:wr.heap.size<=b:=c;omega))
     have gX:Hid (BL N w4):=hid (by
      have h3:=bO kQ.out cN.out
      have h4:=bO h3 an
      exact h4.trans (tT.below h4.size (fun b c=>(H b c).1)))
     have a1:Hid (bp (N.heap.size<=·) w4 v4 ((gG O).take j++[(i:Int)])):=hid (aW.mono aV (fun b _ c=>eE (by have:=cN.out.size;have:=kQ.out.size;omega) b c));clear aV tT an;have a2:((gG O).take j++[(i:Int)]).length+(i-j)<=1000000000:=by rw[rK,aS.out];simp;omega
     go_wp2_with (at_builtin;go_must (refine dI rfl _ _ rfl Tryz.jG rfl a1.out aG rfl aX a2 ?_));intro v5 w5 Nl A1;rw[VJ] at Nl;have qf:Hid (bp (N.heap.size<=·) w5 v5 (gG (abe O j i))):=hid (aW.mono Nl (fun b _ c=>eE gX.out.size b c));have iH:Hid (BL N w5):=hid (gX.out.trans (A1.below gX.out.size (fun b c=>a1.out.2 b c.symm)));have bt:=hid (VI HP.out j);clear Nl A1 aX H a2 aK aO;go_wp2;go_roundw;case rel=>exact⟨i+1,a+1,_,v5,aD,aD,zG,zG,rfl,bt,qf,iH⟩
     exact zI
    ·obtain rfl:i=I:=by omega
     obtain⟨av,cv,rfl, -, -, -⟩:=(bp.sl HI.out).form;have vX:(dm s).length+1<=1000000000:=by rw[jk,HO.out.len];omega
     have mz:=kQ.out;go_wp2_with (at_builtin;go_must (refine iM aW rfl _ _ rfl Tryz.mB rfl HR.out mz rfl (gG O) HI.out rfl vX ?_));intro v6 w6 a4 tg
     have bu:Hid (fE (w1.heap.size<=·) w6 v6 (dm (s++[O]))):=hid (by
      rw[show dm (s++[O])=dm s++[gG O] by simp[dm]]
      exact cW.mono a4 (fun b _ c=>eE D.out.size b c))
     have mA:Hid (BL w1 w6):=hid (lP.out.trans (tg.below lP.out.size (fun b c=>HR.out.1 b c.symm)));have Wq:=hid (HO.out.snoc (o:=O) (by rw[pQ.out];exact HP.out));clear a4 tg vX mz;go_wp2;go_roundw;case rel=>exact⟨k+1,a,_,v6,aD,aD,zG,rfl,rfl,Wq,bu,mA⟩
     exact zI
  ·obtain rfl:k=n:=by omega
   obtain⟨a0,c0,rfl, -, -, -⟩:=(fE.sl HR.out).form;obtain⟨y0,y1,y2,y3⟩:=b4z (HK.out wr D.out);have HC:=hid (J3.out wr D.out s HO.out.len HO.out.perm _ (cG.mono (fE.sl HR.out) (fun _ _ _=>trivial)));have Ns:Hid (Cz.rH (aM x) s W (Cz.bN (aM x) W s)):=hid (Cz.Jh pW.out (fun q hq=>HO.out.perm q (by rw[HN.out];exact hq)));clear J3;go_wp2_with fail;refine HC.out.mono ?_;rintro e w2 ⟨r2,rfl,P,a5⟩;have Nb:=bO D.out a5;obtain⟨A,Q,rfl,a6, -, -⟩:=(cM.sl P).form;have R:(Cz.bN (aM x) W s).length=k:=by rw[Ns.out.l];exact HN.out.symm
   have jm:Hid (∃d,Cz.oD (aM x) (Cz.bN (aM x) W s) d/\qy x k (.slice A k Q) w1.heap.size w1 w2 d):=hid ⟨_,Cz.oD.refl _ _,R,Ns.out.fit,fun q=>by
    by_cases hq:q<W.length
    ·rw[Ns.out.n q hq];exact H5.out q
    ·unfold Cz.len;rw[iY,zxr (by rw[Ns.out.l];omega)];simp,by
    rw[R] at P;exact bZ.mono P (fun b _ c=>by have:=D.out.size;have aY:wr.heap.size<=b:=c;show w1.heap.size<=b;omega),Nb⟩
   rw[R] at a6 ⊢;obtain⟨n,C⟩:=bJ k;clear P a5 Nb R HO HR HC y0 y1 y2 y3 H5 pW D hkt;generalize wr=N at*;go_upto_region 17 with fail;go_loopw [8,15,16,17] (fun M kk _ _ wr=>∃(q a:Nat),q<=k/\a<=5*k+50*q/\kk=.int .i64 (q:Int)/\M=.int .i64 (a:Int)/\Hid (∃d,Cz.oD (aM x) (Cz.bN (aM x) W s) d/\qy x k (.slice A k Q) w1.heap.size w1 wr d)) (fun _ kk _ _ _=>k-(intOf kk).toNat);case atStart=>exact⟨0,a,zxa _,aD,rfl,rfl,jm⟩
   case round=>
    clear jm;obtain⟨q,a,hq,ha,rfl,rfl,HR⟩:=hrel;by_cases Vh:q<k
    ·have bl:=zN q
     have bm:=zL q k
     have ap:q<x.ah.length:=by rw[<-Je.out];exact Vh
     generalize wr=wp at*;go_upto_region 20 with fail;go_loopw [8,16,17] (fun M ii _ wr=>∃(i a:Nat),i<=5/\a<=5*k+50*q+10*i/\ii=.int .i64 (i:Int)/\M=.int .i64 (a:Int)/\Hid (∃d,Cz.oD (aM x) (Cz.bN (aM x) W s) d/\qy x k (.slice A k Q) w1.heap.size w1 wr d)) (fun _ ii _ _=>5-(intOf ii).toNat);case atStart=>exact⟨0,a,zxa _,aD,rfl,rfl,HR⟩
     case round=>
      clear HR ha;obtain⟨i,a,hi,ha,rfl,rfl,HR⟩:=hrel;obtain⟨V,r,g⟩:=HR.out;have B:q<V.length:=by rw[g.len];exact Vh
      have Y:=g.five q;rw[fD B] at Y;obtain⟨ao,co,yp,ho, -⟩:=(cM.sl g.own).tab B;have c0:=ho wr aG;obtain⟨I,C⟩:=bJ (V[q].length);have jm:Hid (i<I->∃d,i<Cz.len d q/\Cz.oD (aM x) (Cz.bN (aM x) W s) d/\qy x k (.slice A k Q) w1.heap.size w1 wr d):=hid (fun h=>⟨V,by rw[fD B,<-C];exact h,r,g⟩);rw[<-C] at c0 yp Y;clear ho g r C B;by_cases hit:i<I
      ·have bo:=zN i
       have aA:=zL i I
       have vw:=hid (jm.out hit);go_upto_region 23 with fail;clear HR jm c0;generalize wr=wi at*;go_loopw [8,17] (fun M ff wr=>∃(f a:Nat),f<=10/\a<=5*k+50*q+10*i+f/\ff=.int .i64 (f:Int)/\M=.int .i64 (a:Int)/\Hid (∃d,i<Cz.len d q/\Cz.oD (aM x) (Cz.bN (aM x) W s) d/\qy x k (.slice A k Q) w1.heap.size w1 wr d)) (fun _ ff _=>10-(intOf ff).toNat);case atStart=>exact⟨0,a,zxa _,aD,rfl,rfl,vw⟩
       case round=>
        clear vw ha;obtain⟨f,a,hf,ha,rfl,rfl,HR⟩:=hrel;obtain⟨V,ox,r,g⟩:=HR.out;have B:q<V.length:=by rw[g.len];exact Vh
        rw[fD B] at ox;obtain⟨bI,aq⟩:=g.row B ox;have J:=bk.out _ (eV ap);rw[<-aq] at J;obtain⟨bv,a7,bw,a8,bP,bQ, -,hc⟩:=(cM.sl g.own).rec B ox;obtain⟨c1,c2, -⟩:=hc wr aG;have b1:=zN i
        have b2:(i:Int)<(V[q].length:Int):=aD
        have D:=hid g.below;by_cases U:f<V[q][i].length
        ·have b3:=zN f
         have b4:(f:Int)<(V[q][i].length:Int):=aD
         have rG:f<x.ah[q].aF.length:=aD
         obtain⟨go,bx,gk,a9,gi,ci,hv,⟨r1,r2,r3⟩,ab,s1, -, -,l1,l2,l3⟩:=xY g.own B ox aD;obtain⟨au, -, -⟩:A=some ⟨go,0,none⟩/\k=V.length/\Q=bx:=by simpa using hv
         have ba:wr.cell? ⟨bM A,bT A+q,none⟩=some (.slice (some ⟨gk,0,none⟩) V[q].length a9):=by rw[au];simpa using r1
         obtain⟨rfl,rfl⟩:bv=some ⟨gk,0,none⟩/\a7=a9:=by have:=c1.symm.trans ba;simpa using this
         obtain⟨rfl,rfl⟩:bw=some ⟨gi,0,none⟩/\a8=ci:=tG
         simp only[fK,fL,zxn] at c2;obtain⟨r4,r5⟩:=r3 f U;obtain⟨af,cf,b5,b6,b7,b8,bz, -, -, -, -, -,hT⟩:=HT.out q f ap rG;obtain⟨k3, -, -, -,g3, -⟩:=hT wr (bO bL.out D.out);obtain⟨y0,y1,y2,y3⟩:=b4z (HK.out wr D.out);have Cg:aC.fd x q f=x.ah[q].aF[f]:=iX ap rG
         have nM:Hid ((x.ah[q].aF[f]).kind=0->∀y,∃d,i<Cz.len d q/\Cz.oD (aM x) (Cz.bN (aM x) W s) d/\qy x k (.slice A k Q) w1.heap.size w1 ((wr.drewN 1).setCell ⟨gi,f,none⟩ (.int .i64 y)) d):=hid (fun h y=>by
          have c:=aJ (Below.refl wr.heap.size wr) 1;exact⟨_,by rw[Cz.mh,fD B];exact ox,g.keys r B ox U abz y,g.set B ox U (by rw[Cg,h];omega) (ab _ (aH.below c) f U y) (D.out.trans (((Turns.bg c).setCell (S:=(w1.heap.size<=·)) _ _ s1).below D.out.size (fun b h=>h)))⟩)
         obtain⟨nf,bb⟩:=bJ (x.ah[q].aF.length);rw[<-bb] at k3 bz rG;have bR:=zL f nf
         have bc:bM A<wr.heap.size:=by rw[au];exact l1
         have X:=hid (show bM A<wr.heap.size/\gk<wr.heap.size/\gi<wr.heap.size from ⟨bc,l2,l3⟩);clear ab hT Cg r1 r2 r3 ba au hv aq hc s1 bb r l1 l2 l3 bc;generalize V[q][i][f]=z at*;generalize V[q][i].length=nr at*;generalize V[q].length=bd at*;clear g;generalize x.ah[q].aF[f].kind=be at*;by_cases h1:be=0
         ·subst h1
          have bA:=hid (nM.out rfl);have bD:=hid c1;have bE:=hid c2;have zu:=hid r4;have bF:=hid r5;clear nM HR;go_upto_region 26 with fail;have O7:=eC wr ⟨bM A,bT A+q,none⟩ (.slice (some ⟨gk,0,none⟩) bd a7) fun xh=>(xh.2.cell (p:=⟨bM A,bT A+q,none⟩) X.out.1).trans bD.out;have O8:=eC wr ⟨gk,i,none⟩ (.slice (some ⟨gi,0,none⟩) nr a8) fun xh=>(xh.2.cell (p:=⟨gk,i,none⟩) X.out.2.1).trans bE.out;clear r4 r5 c1 c2 y0 y1 y2 y3 k3 g3;refine bq 12 (iq.lV [0,1,2,3,4,5,6,7,8,9] (.one 10 (.quiet 11 .done))) (BL wr) nK zK (aJ aG 1) ?_;have fH:=hid (aJ (Below.refl wr.heap.size wr) 1);generalize wr.drewN 1=w8 at*;have sU:=hid (Nn.out a 50 aD aD w8 (bO D.out fH.out))
          iterate 10 refine gF ?_
          refine aZ rfl ?_;go_wp2_with fail;refine sU.out.mono ?_;rintro e w9 ⟨zj,rfl, -, -,rfl⟩;go_wp2_with fail;refine aN (BL wr) (fun _ h=>h) fH.out ?_;refine gF ?_;refine bG ?_;try simp only[jW,jH]
          have r4:w8.cell? ⟨gi,f,none⟩=some (.int .i64 z):=(fH.out.cell (p:=⟨gi,f,none⟩) X.out.2.2).trans zu.out;have r5:w8.frozen? ⟨gi,f,none⟩=false:=(World.frozen?_of_block (a:=⟨gi,f,none⟩) (fH.out.block _ X.out.2.2)).trans bF.out;clear O7 O8 sU;go_wp2;go_roundw;case rel=>exact⟨f+1,a+1,aD,aD,zG,zG,hid (bA.out _)⟩
          exact zI
         ·have e1:(be==0)=false:=by simpa using h1
          clear nM h1;go_wp2;go_roundw;case rel=>exact⟨f+1,a,aD,aD,zG,rfl,HR⟩
          exact zI
        ·have qg:¬(f:Int)<(V[q][i].length:Int):=by omega
         have C5:Hid (∃d,Cz.oD (aM x) (Cz.bN (aM x) W s) d/\qy x k (.slice A k Q) w1.heap.size w1 wr d):=hid ⟨V,r,g⟩;clear hc g aq r;generalize V[q][i].length=nr at*;generalize V[q].length=bd at*;go_wp2;go_roundw;case rel=>exact⟨i+1,a,aD,aD,zG,rfl,C5⟩
         exact zI
      ·have aA:¬(i:Int)<(I:Int):=by omega
       go_wp2;go_roundw;case rel=>exact⟨q+1,a,aD,aD,zG,rfl,HR⟩
       exact zI
    ·obtain rfl:q=k:=by omega
     obtain⟨V,r,g⟩:=HR.out;have HE:Hid (afd x W w (.returned (.slice A q Q)) wr):=hid ⟨_,V,s,rfl,Ns.out.keys r,bZ.mono g.own (fun b _ c=>by have:=bL.out.size;have aY:w1.heap.size<=b:=c;show w.heap.size<=b;omega),bO bL.out g.below⟩;clear g r;go_wp2;go_ret;exact HE.out
theorem alL{x:aC.cE}(o:aC.eT x){W:aC.dw}(h:bU.jE x W):Cz.nH (aM x) W where
 lk:=by rw[jc];exact h.len
 code:=Mc x
 r k i hk hi:=by
  have a:i<W[k].length:=by rw[<-fD hk];exact hi
  rw[uP hk a,dJ x WR];exact h.lX k hk _ (eV a)
 ref k i f hk hi hf hr:=by
  have b:k<x.ah.length:=WR
  have a:i<W[k].length:=by rw[<-fD hk];exact hi
  rw[dJ x b] at hf;rw[mg x b hf] at hr ⊢
  have d:(aC.fd x k f).kind=1:=by
   unfold iE at hr;split at hr
   ·omega
   ·split at hr
    ·assumption
    ·omega
  have e:iE x k f=aC.eD x k f:=by unfold iE;rw[if_neg aD,if_pos d]
  rw[e] at hr ⊢;have c:=h.lead _ (bU.KY b hf d) i hk a;obtain⟨-, -,j,l, -⟩:=h.refs _ (bU.KY b hf d);simp only at c j l;have m:bU.wM W k i f=Cz.cell W k i f:=rfl;rw[m] at c;have g:(aC.eD x k f).toNat<W.length:=aD
  refine⟨g,c.1,?_⟩;have n:=c.2;unfold aC.gK at n;unfold Cz.len;omega
def AF(x:aC.cE)(W:aC.dw):Bool:=decide (W.length=x.ah.length)&&bU.kB x W
def zJ(x:aC.cE)(W:aC.dw):Int:=if AF x W=true then 4 else 2
def tD(x:aC.cE)(W:aC.dw):Option Cz.Wd:=if AF x W=true then Cz.canon (aM x) W else none
theorem Cw(x:aC.cE)(W:aC.dw):zJ x W≠0:=by unfold zJ;split<;>decide
def abf(x:aC.cE)(W:aC.dw):Prop:=W=[]\/(bU.kV x W/\∀k,Cz.len W k<=5)
theorem adn{x:aC.cE}(a:aC.eT x){W:aC.dw}(b:bU.kV x W)(h:AF x W=true):Cz.nH (aM x) W:=by
 unfold AF at h;simp only[pR,oW] at h;exact alL a (bU.qV.2 ⟨b,h.2⟩)
theorem EK{W:aC.dw}(g:W.length<=6)(d:∀k,Cz.len W k<=5):aC.total W<=512:=by
 unfold aC.total
 have key:∀l:List Nat,(∀y∈l,y<=5)->l.sum<=5*l.length:=by
  intro l;induction l with
  |nil=>intro _;simp
  |cons a l ih=>
   intro h
   have c:=h a (List.mem_cons_self ..)
   have i:=ih (fun y b=>h y (List.mem_cons_of_mem _ b))
   simp only[List.sum_cons,zxg]
   omega
 have c:=key (W.map List.length) (fun y b=>by
  obtain⟨r,e,rfl⟩:=List.mem_map.1 b;obtain⟨k,f,rfl⟩:=zxf e;rw[<-fD f];exact d k)
 rw[sM] at c;omega
theorem EL{x:aC.cE}(a:aC.okB x=true)(b:aC.eT x)(c:x.ah.length<=6){W:aC.dw}(h:Cz.nH (aM x) W)(d:∀k,Cz.len W k<=5):bU.jE x W:=
 bU.YL a (Me b h (EK (by rw[h.lk,jc];exact c) d))
theorem VK(x:aC.cE)(r:0<x.ah.length)(c:Option Addr)(d:Nat)(v:Value)(S:Nat->Prop)(w:World)(h:dO S w v x):
  CB 104 #[v,.slice c 0 d] w (.bool false):=by
 obtain⟨s,t,u,y,z,A,w1,rfl,a,i,j,B,C,k,l,m,n,o,D⟩:=jC w x v S h;obtain⟨w2,hw2⟩:=bJ (w1.alloc (.cells #[.slice c 0 d] 33));have e:Hid (Below w1.heap.size w1 w2):=hid Ii;have z0:w2.cell? ⟨w1.heap.size,0,none⟩=some (.slice c 0 d):=by rw[hw2];exact aP (bD _ _ rfl) 0
 obtain⟨E,F,G,H⟩:=b4z (j.out w2 e.out);have I:¬x.ah.length=0:=aD
 have p:((0:Int)==(x.ah.length:Int))=false:=jo
 have q:((0:Int) !=(x.ah.length:Int))=true:=jo
 have f:w1.heap.size=w.heap.size+1:=by rw[<-a];simp
 rw[f] at z0;have g:=hid a;have b:=hid hw2;clear a hw2 f;go_enter func104,ntmps104;go_upto_region 1 with fail;rw[g.out,<-b.out];clear g b;go_wp2;go_ret;exact⟨rfl,bO i.out e.out⟩
theorem abg(x:aC.cE)(e:aC.okB x=true)(p:aC.eT x)(f:∀k∈x.ah,k.aF.length<=10)(t:x.ah.length<=6)(h0:0<x.ah.length)(W:aC.dw)(b:abf x W)
  (g i j c:Option Addr)(l m n d tb:Nat)(w:World)(q:tu tb x W (.agg (sBx x g i j l m n)) (.slice c W.length d) w.heap.size w):
  CP 9 #[(.agg (sBx x g i j l m n)),.slice c W.length d] w (mM (zJ x W) (tD x W) w):=by
 have o:W.length<=6:=by
  rcases b with rfl|⟨a, -⟩
  ·simp
  ·rw[a.len];exact t
 have r:∀k,Cz.len W k<=5:=by
  rcases b with rfl|⟨-,h⟩
  ·intro k;simp[Cz.len]
  ·exact h
 refine Ia x e p (fun k u=>zxb (f k u) aD) aD W (AF x W) aD (fun h=>?_) (fun k=>zxb (r k) aD) (EK o r) g i j c l m n d tb w (fun h X v=>?_) q
 ·rcases b with rfl|⟨a, -⟩
  ·unfold AF at h
   simp only[pR,oW,List.length_nil] at h;omega
  ·exact adn p a h
 ·have hA:=q.next v
  rcases b with rfl|⟨a, -⟩
  ·exact VK x h0 c d _ _ X hA.xk
  ·have s:=GL x W a _ _ _ X hA.xk hA.ze
   unfold AF at h;rw[decide_eq_true a.len,Bool.true_and] at h;rw[h] at s;exact s
theorem abh(x:aC.cE)(a:aC.okB x=true)(d:aC.eT x)(h0:0<x.ah.length)(b:∀k (h:k<x.ah.length),0<x.ah[k].aF.length)(W:aC.dw)(i:abf x W)(v u:Value)(S T:Nat->Prop)(w:World)(f:dO S w v x)(g:bK T w u W):
  CP 24 #[v,u] w (VG (zJ x W) (tD x W) w):=by
 rcases i with rfl|⟨c, -⟩
 ·have e:AF x []=false:=by unfold AF;rw[decide_eq_false jo];rfl
  obtain⟨j,l,rfl, -, -, -⟩:=g.form;unfold zJ tD;rw[e];exact Qo x a h0 j l v S w f
 ·have e:AF x W=bU.kB x W:=by unfold AF;rw[decide_eq_true c.len,Bool.true_and]
  unfold zJ tD;rw[e];exact Qn x a d b W c (fun h=>alL d (bU.qV.2 ⟨c,h⟩)) v u S T w f g
theorem abj{W:aC.dw}{k i:Nat}(d:k<W.length)(c:i<W[k].length)(f:Nat)(y:Int)(b:Nat)(g:b<(Cz.lM W k i f y).length):∃h:b<W.length,∀r∈(Cz.lM W k i f y)[b],∃j∈W[b],r.length=j.length:=by
 have m:(Cz.lM W k i f y).length=W.length:=by unfold Cz.lM;rw[zxl]
 refine⟨aD,fun r a=>?_⟩;have e:=RX d c f y;simp only[e] at a;rw[List.getElem_set] at a;split at a
 ·rename_i l
  subst l;rcases List.mem_or_eq_of_mem_set a with h|h
  ·exact⟨r,h,rfl⟩
  ·exact⟨W[k][i],eV c,by rw[h,zxl]⟩
 ·exact⟨r,a,rfl⟩
theorem VL{x:aC.cE}{W:aC.dw}(h:bU.kV x W){k i:Nat}(c:k<W.length)(d:i<W[k].length)(f:Nat)(y:Int):bU.kV x (Cz.lM W k i f y) where
 ah:=h.ah
 aF:=h.aF
 refs:=h.refs
 len:=by rw[<-h.len];unfold Cz.lM;rw[zxl]
 lX k' hk' r hr:=by
  obtain⟨g,a⟩:=abj c d f y k' hk';obtain⟨j,b,e⟩:=a r hr;rw[e];exact h.lX k' g j b
 tot:=by
  have:=PY (W:=W) k i f y;have a:Cz.total W<=512:=h.tot;show Cz.total _<=512
  rw[this];exact a
structure ado(x:aC.cE)(A TA B TB O:aC.dw):Prop where
 a:bU.jE x A/\∀k,Cz.len A k<=5
 b:bU.jE x B/\∀k,Cz.len B k<=5
 ta:∃o,Cz.rH (aM x) o A TA
 tb:∃o,Cz.rH (aM x) o B TB
 o:bU.kV x O/\∀k,Cz.len O k<=5
def afe(x:aC.cE)(w:World)(e:Ending)(w':World):Prop:=∃v A a B b O,e=.returned v/\ado x A a B b O/\eA (bK dr) dr w' v [A,a,B,b,O,[]]/\BL w w'
theorem eA.laid{α:Type}{R:World->Value->α->Prop}(w:World)(us:List Value)(xs:List α)(t:TypeId)(d:us.length=xs.length)(e:xs.length<=1000)(h:∀j (f:j<us.length) (g:j<xs.length),R (w.alloc (.cells us.toArray t)) us[j] xs[j]){N:Nat}(a:N=w.heap.size){n:Nat}(b:n=xs.length):eA R dr (w.alloc (.cells us.toArray t)) (.slice (some ⟨N,0,none⟩) n n) xs:=by
 subst a b;refine⟨_,_,rfl,fun _=>⟨_,_,rfl⟩,aL,Wy,fun _=>trivial,fun j c=>⟨us[j],?_,h j aD c⟩⟩;have:=iR w us.toArray t j us[j] bH;simp only[zxn] at this;simpa [fK,fL] using this
theorem abk(x:aC.cE)(aW:aC.okB x=true)(hu:aC.eT x)(h6:x.ah.length<=6)(h0:0<x.ah.length)(F:∀k∈x.ah,k.aF.length<=10)(aa:∀k (h:k<x.ah.length),0<x.ah[k].aF.length)
  (L M Q:List Int)(hL:Fit L)(hM:Fit M)(hQ:Fit Q)(at_ c:Int)(aY:(-9223372036854775808<=at_/\at_<=9223372036854775807)/\(-9223372036854775808<=c/\c<=9223372036854775807))(v l m p:Value)(S T:Nat->Prop)(w:World)(hv:dO S w v x)(hl:bB T w l L)(hm:bB T w m M)(hp:bB T w p Q):
  CP 6 #[v,l,m,p,.int .i64 at_,.int .i64 c] w (afe x w):=by
 replace hv:=hv.mono (S':=dr) (fun _ _ _=>trivial);obtain⟨ak,ck,al,cl,ar,cr,w1,rfl,ad,bL,HK,bQ,HV,bn,bR,bS,bo,bp,qC⟩:=jC w x v dr hv;have bq:=hid (fun V (D:BL w1 V)=>bB.keep hp (aH.below (bO bL.out D)));have ae:=hid (LW x hu aD (fun k hk=>zxb (F k hk) aD) L hL _ l dr T w1 (HV.out w1 aG) (bB.keep hl (aH.below bL.out)));have af:=hid (fun V (D:BL w1 V)=>abd x hu h6 F M hM _ m dr T V (HV.out V D) (bB.keep hm (aH.below (bO bL.out D))));have G:=hid (fun(W:aC.dw) (hf:bU.jE x W) (h5:∀k,Cz.len W k<=5) (V:World) (D:BL w1 V) (q:Value) (hq:bK dr V q W)=>M9 x hu W hf (alL hu hf) h5 F Q hQ _ q p dr dr T V (HV.out V D) hq (bq.out V D));have ag:=hid (fun(W:aC.dw) (h:Cz.nH (aM x) W) (h5:∀k,Cz.len W k<=5)=>EL aW hu h6 h h5);have Wv:=hid aY;have a0:=hid aa;obtain⟨n,hn⟩:=bJ x.ah.length;have HN:=hid hn;dsimp only[sBx] at *;rw[<-hn] at HK bn h6 h0 ad;rw[<-hn] at ae af G ⊢;have a1:=hid ad;clear hv hl hm hp bo bp qC ad aW hu F aa hn hL hM hQ aY HV;obtain⟨y0,y1,y2,y3⟩:=b4z (HK.out w1 aG);go_enter func6,ntmps6;go_upto_region 1 with fail;rw[a1.out];clear a1;go_wp2_with fail;refine ae.out.mono ?_;rintro e w2 ⟨rA,A,rfl,H,a2,a3⟩;have cH:=hid a3;have a4:=hid (ag.out A (Md H) (AB H));have a5:=hid (AB H);have sU:=hid (bK.mono (cM.sl a2) (S':=dr) (fun _ _ _=>trivial));obtain⟨aA,cA,rfl, -, -, -⟩:=sU.out.form;clear H a2 a3 ae y0 y1 y2 y3;obtain⟨y0,y1,y2,y3⟩:=b4z (HK.out w2 cH.out);go_wp2_with fail;refine(af.out w2 cH.out).mono ?_;rintro e w3 ⟨rB,B,rfl,a6,ai,a7,aj⟩;have cN:=aR cH aj;have I:=hid (ag.out B a6 ai);have J:=hid ai;have br:=hid (sU.out.keep (aH.below aj));have am:=hid (bK.mono (cM.sl a7) (S':=dr) (fun _ _ _=>trivial));obtain⟨aB,cB,rfl, -, -, -⟩:=am.out.form;clear a6 ai a7 aj af sU y0 y1 y2 y3;obtain⟨y0,y1,y2,y3⟩:=b4z (HK.out w3 cN.out);go_wp2_with fail;refine(G.out B I.out J.out w3 cN.out _ am.out).mono ?_;rintro e w4 ⟨rO,O,oo,rfl,r,s,an⟩;have gX:=aR cN an;have ap:=hid an;have aq:O.length=n:=by rw[r.l,I.out.len];exact HN.out.symm
 have au:∀k,Cz.len O k<=5:=fun k=>by
  by_cases hk:k<B.length
  ·rw[r.n k hk];exact J.out k
  ·unfold Cz.len;rw[iY,zxr (by rw[r.l];omega)];simp
 have t:=hid (ag.out O r.fit au).shape;have av:=hid au;obtain⟨d,cO,rfl,bs, -, -⟩:=(cM.sl s).form;rw[aq] at s bs ⊢;have Ru:=hid s;have bV:=hid aq;have bW:=zL 0 n
 obtain⟨kk,a8⟩:=bJ (around at_ n);have aw:=uV at_ n aD;have ax:=hid (oU at_ n w4 Wv.out.1.1 Wv.out.1.2 aD aD);rw[<-a8] at aw ax;obtain⟨k,rfl⟩:∃k:Nat,kk=(k:Int):=⟨kk.toNat,aD⟩;have bX:(k:Int)<(n:Int):=aw.2;have bY:(0:Int)<=(k:Int):=aw.1;have g:k<O.length:=aD
 obtain⟨ao,co,yp,ho, -⟩:=(cM.sl s).tab g;have c0:=ho w4 aG;clear r s an aq au a8 ho y0 y1 y2 y3;go_upto_region 5 with fail;go_wp2_with fail;refine ax.out.mono ?_;rintro e w' ⟨rfl,rfl⟩;clear ax;obtain⟨K,ay⟩:=bJ (O[k].length);have Fu:=hid ay;rw[<-ay] at c0 yp;clear ay;by_cases hz:K=0
 case' pos=>
  have bt:¬(0:Int)<(K:Int):=aD
  have az:Hid (∃O,(bU.kV x O/\∀k,Cz.len O k<=5)/\bK dr w4 (.slice d n cO) O):=hid ⟨O,⟨t.out,av.out⟩,bK.mono (cM.sl Ru.out) (fun _ _ _=>trivial)⟩
  have N:=gX
  have HF:=ap
  clear Ru Fu
  go_upto_region 11 with fail
  clear c0
  generalize w4=P at*
 case' neg=>
  have bt:=zL 0 K
  obtain⟨ii,a9⟩:=bJ (around c K)
  have U:=uV c K aD
  have h5:=av.out k
  rw[fD g,<-Fu.out] at h5
  have aE:=hid (fun(V:World)=>oU c K V Wv.out.2.1 Wv.out.2.2 aD aD)
  rw[<-a9] at U aE
  obtain⟨i,rfl⟩:∃i:Nat,ii=(i:Int):=⟨ii.toNat,aD⟩
  have bZ:(i:Int)<(K:Int):=U.2
  have b0:(0:Int)<=(i:Int):=U.1
  have u:i<O[k].length:=by rw[<-Fu.out];omega
  have ba:k<x.ah.length:=abp
  have bu:O[k][i].length=x.ah[k].aF.length:=by rw[t.out.lX k g _ (eV u),dH ba]
  have bv:=a0.out k ba
  obtain⟨go,bw,gk,bb,z,ci,hv,⟨r1,r2,r3⟩,ab,s1, -, -,l1,l2,l3⟩:=xY Ru.out g u aD
  obtain⟨aI, -, -⟩:d=some ⟨go,0,none⟩/\n=O.length/\cO=bw:=by simpa using hv
  have bc:w4.cell? ⟨bM d,bT d+k,none⟩=some (.slice (some ⟨gk,0,none⟩) O[k].length bb):=by rw[aI];simpa using r1
  obtain⟨rfl, -,rfl⟩:ao=some ⟨gk,0,none⟩/\K=O[k].length/\co=bb:=by have:=c0.symm.trans bc;simpa using this
  obtain⟨C,qg⟩:=bJ (O[k][i].length)
  have bI:0<C:=aD
  have bN:C<=1000000:=by
   rw[qg,t.out.lX k g _ (eV u)];have:=t.out.aF k;omega
  obtain⟨ff,BQ⟩:=bJ (around at_ C)
  have X:=uV at_ C aD
  have aJ:=hid (fun(V:World)=>oU at_ C V Wv.out.1.1 Wv.out.1.2 aD aD)
  rw[<-BQ] at X aJ
  obtain⟨f,rfl⟩:∃f:Nat,ff=(f:Int):=⟨ff.toNat,aD⟩
  have b1:(f:Int)<(C:Int):=X.2
  have b2:(0:Int)<=(f:Int):=X.1
  have aK:f<O[k][i].length:=by rw[<-qg];omega
  obtain⟨r4,r5⟩:=r3 f aK
  have bd:=hid (fun(V:World)=>oU c 4 V Wv.out.2.1 Wv.out.2.2 aD aD)
  have nM:=hid (fun V (D:BL w4 V) (y:Int)=>(⟨ab V (aH.below D) f aK y,ap.out.trans ((((Turns.bg D).setCell (S:=(w3.heap.size<=·)) _ _ s1).below ap.out.size (fun b h=>h)))⟩:cM (w3.heap.size<=·) (V.setCell ⟨z,f,none⟩ (.int .i64 y)) (.slice d n cO) (Cz.lM O k i f y)/\BL w3 (V.setCell ⟨z,f,none⟩ (.int .i64 y))))
  have GA:Hid (∀y,bU.kV x (Cz.lM O k i f y)/\∀q,Cz.len (Cz.lM O k i f y) q<=5):=hid (fun y=>⟨VL t.out g u f y,fun q=>by rw[Cz.mh];exact av.out q⟩)
  rw[<-qg] at r2
  have be:bM d<w4.heap.size:=by rw[aI];exact l1
  have Y:=hid (show bM d<w4.heap.size/\gk<w4.heap.size/\z<w4.heap.size from ⟨be,l2,l3⟩)
  have bx:=hid c0
  have GJ:=hid r2
  have zu:=hid r4
  have bz:=hid r5
  have b3:dV (some ⟨z,0,none⟩) C:=fun _=>⟨_,_,rfl⟩
  clear a9 U bu bv r1 r3 ab s1 l1 l2 l3 hv aI bc BQ X be qg r4 r5 r2 Ru
  generalize O[k][i][f]=zo at*
  clear aK u Fu
  go_upto_region 7 with fail
  have O7:=eC w4 ⟨bM d,bT d+k,none⟩ (.slice (some ⟨gk,0,none⟩) K co) fun o=>(o.2.cell (p:=⟨bM d,bT d+k,none⟩) Y.out.1).trans bx.out
  clear c0
  refine alR w4 11 (iq.lV [0,1,2,3,4,5,6,7,8,9] (.one 10 .done)) nK zK fun E fH=>?_
  iterate 10 refine gF ?_
  refine aZ rfl ?_
  go_wp2_with fail
  refine(aE.out E).mono ?_
  rintro e w' ⟨rfl,rfl⟩
  go_wp2_with fail
  refine aN (BL w4) (fun _ h=>h) fH.out ?_
  refine bG ?_
  try simp only[jW,jH]
  clear O7
  have c2:E.cell? ⟨gk,i,none⟩=some (.slice (some ⟨z,0,none⟩) C ci):=(fH.out.cell (p:=⟨gk,i,none⟩) Y.out.2.1).trans GJ.out
  have r4:E.cell? ⟨z,f,none⟩=some (.int .i64 zo):=(fH.out.cell (p:=⟨z,f,none⟩) Y.out.2.2).trans zu.out
  have r5:E.frozen? ⟨z,f,none⟩=false:=(World.frozen?_of_block (a:=⟨z,f,none⟩) (fH.out.block _ Y.out.2.2)).trans bz.out
  have bP:¬(C:Int)<1:=aD
  go_upto_region 8 with fail
  go_wp2_with fail
  rw[show max (C:Int) 1=(C:Int) by omega]
  refine(aJ.out E).mono ?_
  rintro e w' ⟨rfl,rfl⟩
  go_wp2_with fail
  refine(bd.out E).mono ?_
  rintro e w' ⟨rfl,rfl⟩
  go_upto_region 11 with fail
  have az:Hid (∃O,(bU.kV x O/\∀k,Cz.len O k<=5)/\bK dr (E.setCell ⟨z,f,none⟩ (.int .i64 (around c 4))) (.slice d n cO) O):=hid ⟨_,GA.out _,bK.mono (cM.sl (nM.out E fH.out _).1) (fun _ _ _=>trivial)⟩
  have HF:=hid (nM.out E fH.out (around c 4)).2
  clear c2 r4 r5 nM GA fH aE aJ bd
  generalize E.setCell ⟨z,f,none⟩ (.int .i64 (around c 4))=P at*
 all_goals
  obtain⟨O,hO,bf⟩:=az.out
  have bA:=hid bf
  have bD:=hid hO
  have N:=aR cN HF.out
  have bh:=hid (br.out.keep (aH.below HF.out))
  have RU:=hid (am.out.keep (aH.below HF.out))
  clear bf hO az
  have qo:=eC P ⟨w.heap.size,0,none⟩ (.int .i64 x.aQ) fun o=>aP (HK.out o.1 (bO N.out o.2)) 0
  have qp:=eC P ⟨w.heap.size,1,none⟩ (.slice ak n ck) fun o=>aP (HK.out o.1 (bO N.out o.2)) 1
  have qt:=eC P ⟨w.heap.size,2,none⟩ (.slice al x.aV.length cl) fun o=>aP (HK.out o.1 (bO N.out o.2)) 2
  have qu:=eC P ⟨w.heap.size,3,none⟩ (.slice ar x.aX.length cr) fun o=>aP (HK.out o.1 (bO N.out o.2)) 3
  refine alR P 11 (iq.lV [0,1,2,3,5,6,7,8,10] (.one 4 (.one 9 .done))) nK zK fun w8 wR=>?_
  have wI:=hid (G.out A a4.out a5.out w8 (bO N.out wR.out) _ (bh.out.keep (aH.below wR.out)))
  iterate 9 refine gF ?_
  refine aZ rfl ?_
  go_wp2_with fail
  refine wI.out.mono ?_
  rintro e w9 ⟨rT,TA,oA,rfl,E4,bi,CW⟩
  have Fx:=aR wR CW
  have aS:=hid (bK.mono (cM.sl bi) (S':=dr) (fun _ _ _=>trivial))
  have bE:=hid E4
  have vU:=hid (G.out B I.out J.out w9 (bO N.out Fx.out) _ (RU.out.keep (aH.below Fx.out)))
  obtain⟨aT,cT,rfl, -, -, -⟩:=aS.out.form
  clear CW bi E4 wI
  go_wp2_with fail
  refine aN (BL P) (fun _ h=>h) Fx.out ?_
  refine aZ rfl ?_
  go_wp2_with fail
  refine vU.out.mono ?_
  rintro e mL ⟨rU,TB,oB,rfl,bj,bk,nE⟩
  have vR:=aR Fx nE
  have bl:=hid (aS.out.keep (aH.below nE))
  have bm:=hid (bK.mono (cM.sl bk) (S':=dr) (fun _ _ _=>trivial))
  have bF:=hid bj
  obtain⟨aU,cU,rfl, -, -, -⟩:=bm.out.form
  clear nE bk bj vU aS
  go_wp2_with fail
  refine aN (BL P) (fun _ h=>h) vR.out ?_
  refine bG ?_
  try simp only[jW,jH]
  clear qo qp qt qu
  have HE:Hid (afe x w (.returned (.slice (some ⟨mL.heap.size,0,none⟩) 6 6)) (mL.alloc (.cells #[.slice aA A.length cA,.slice aT TA.length cT,.slice aB B.length cB,.slice aU TB.length cU,.slice d n cO,.slice none 0 0] 33))):=hid (by
   have Z:BL mL (mL.alloc (.cells #[.slice aA A.length cA,.slice aT TA.length cT,.slice aB B.length cB,.slice aU TB.length cU,.slice d n cO,.slice none 0 0] 33)):=aG.alloc aL _
   have hk:aH dr P (mL.alloc (.cells #[.slice aA A.length cA,.slice aT TA.length cT,.slice aB B.length cB,.slice aU TB.length cU,.slice d n cO,.slice none 0 0] 33)):=aH.below (bO vR.out Z)
   refine⟨_,A,TA,B,TB,O,rfl,⟨⟨a4.out,a5.out⟩,⟨I.out,J.out⟩,⟨_,bE.out⟩,⟨_,bF.out⟩,bD.out⟩,eA.laid (R:=bK dr) mL [.slice aA A.length cA,.slice aT TA.length cT,.slice aB B.length cB,.slice aU TB.length cU,.slice d n cO,.slice none 0 0] [A,TA,B,TB,O,[]] 33 rfl bH (fun j h1 h2=>?_) rfl rfl,(bO bL.out (bO N.out vR.out)).trans (Z.mono ?_)⟩
   ·have hj:j=0\/j=1\/j=2\/j=3\/j=4\/j=5:=by simp at h1;omega
    rcases hj with rfl|rfl|rfl|rfl|rfl|rfl
    ·exact bh.out.keep hk
    ·exact bl.out.keep (aH.below Z)
    ·exact RU.out.keep hk
    ·exact bm.out.keep (aH.below Z)
    ·exact bA.out.keep hk
    ·exact eA.nil _ _ _
   ·exact(bO bL.out (bO N.out vR.out)).size)
  go_wp2
  go_ret
  exact HE.out
end Go.Proofs.YtohddpbgflgiaaaGreatDoor
namespace Go.Proofs.YtohddpbgflgiaaaGreatDoor.aC
theorem Ck.pos{ks:List fT}(h:Ck ks):∀k∈ks,0<k.aF.length:=by
 induction h with
 |nil=>exact fun _ h=>absurd h bH
 |snoc ks ks' k hg hk ih=>
  intro y b
  rcases zxx.1 b with b|b
  ·rcases hk.old with rfl|⟨t,e,f,rfl⟩
   ·exact ih y b
   ·rcases List.mem_or_eq_of_mem_set b with b|rfl
    ·exact ih y b
    ·simp[fV]
  ·rw[nL.1 b]
   obtain⟨_,_,_,_,_,a,y,p,q,d,b,g,i,c⟩:=hk;obtain⟨_,_,_,⟨_,_,rfl⟩|⟨_,_,_,_,_,_,_,_,_,_,_,_,rfl⟩⟩:=d
   ·rw[c];simp
   ·rw[c];simp
end Go.Proofs.YtohddpbgflgiaaaGreatDoor.aC
namespace Go.Proofs.YtohddpbgflgiaaaGreatDoor
open Go.RowKit
def alz(x:aC.cE)(xv:Value)(w:World)(v:Value)(W:aC.dw):Prop:=∃a c,v=.slice a W.length c/\(∀X,BL w X->bK dr X v W)/\
 (∀X,BL w X->CP 9 #[xv,v] X (mM (zJ x W) (tD x W) X))/\
 ∀X,BL w X->CP 24 #[xv,v] X (VG (zJ x W) (tD x W) X)
theorem afb{p:Prop}(h:p:=by
  by_cases hk:k<W.length
  ·rw[hi.n k hk];exact h5 k
  ·unfold Cz.len;rw[iY,zxr (by rw[hi.l];omega)];simp):p:=h
theorem ado.law{x:aC.cE}{A f B g O:aC.dw}(e:aC.okB x=true)(j:aC.eT x)(m:x.ah.length<=6)(h:ado x A f B g O):∀W∈[A,f,B,g,O,[]],abf x W:=by
 have c:∀W V,bU.jE x W->(∀k,Cz.len W k<=5)->(∃o,Cz.rH (aM x) o W V)->abf x V:=fun W V p h5 ⟨o,hi⟩=>by
  have d:∀k,Cz.len V k<=5:=fun k=>by
   exact afb
  exact .inr ⟨(EL e j m hi.fit d).shape,d⟩
 intro W i;simp only[mr,Na,or_false] at i;rcases i with rfl|rfl|rfl|rfl|rfl|rfl
 ·exact .inr ⟨h.a.1.shape,h.a.2⟩
 ·exact c _ _ h.a.1 h.a.2 h.ta
 ·exact .inr ⟨h.b.1.shape,h.b.2⟩
 ·exact c _ _ h.b.1 h.b.2 h.tb
 ·exact .inr h.o
 ·exact .inl rfl
end Go.Proofs.YtohddpbgflgiaaaGreatDoor
