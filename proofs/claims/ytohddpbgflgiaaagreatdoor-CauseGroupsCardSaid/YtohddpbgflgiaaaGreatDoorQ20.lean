/- Part 20 of the walks and plain laws that the proof needs (packed). -/
import Derived.Test.YtohddpbgflgiaaaGreatDoorQ1
import Derived.Test.YtohddpbgflgiaaaGreatDoorQ18
set_option linter.all false
set_option maxRecDepth 100000
set_option maxHeartbeats 8000000
variable{p:Prop}
namespace Go.Proofs.YtohddpbgflgiaaaGreatDoor
open Go.RowKit
def amQ{α:Type}(a:Nat->α)(i k:Nat):Prop:=k<=i/\a k=a i/\∀j,j<k->a j≠a i
def amP{α:Type}(a:Nat->α)(n:Nat)(out:List Int):Prop:=out.length=n/\∀i,i<n->∃k,amQ a i k/\out[i]?=some (k:Int)
theorem amQ.uniq{α:Type}{b:Nat->α}{i j k l:Nat}(h:amQ b i k)(g:amQ b j l)(e:b i=b j):k=l:=by
 rcases Nat.lt_trichotomy k l with a|a|a
 ·exact absurd (h.2.1.trans e) (g.2.2 k a)
 ·exact a
 ·exact absurd (g.2.1.trans e.symm) (h.2.2 l a)
theorem amP.uniq{α:Type}{c:Nat->α}{n:Nat}{a b:List Int}(h:amP c n a)(g:amP c n b):a=b:=by
 refine List.ext_getElem? fun i=>?_;by_cases d:i<n
 ·obtain⟨k,e,f⟩:=h.2 i d
  obtain⟨l,j,m⟩:=g.2 i d;rw[f,m,e.uniq j rfl]
 ·rw[zxr (by rw[h.1];omega),zxr (by rw[g.1];omega)]
theorem amP.nil{α:Type}(a:Nat->α):amP a 0 []:=⟨rfl,fun i h=>absurd h aD⟩
theorem amP.snoc{α:Type}{b:Nat->α}{n k:Nat}{a:List Int}(h:amP b n a)(c:amQ b n k):amP b (n+1) (a++[(k:Int)]):=by
 refine⟨by simp[h.1],fun i g=>?_⟩;by_cases e:i=n
 ·subst e
  exact⟨k,c,by rw[List.getElem?_append_right (by rw[h.1];omega),h.1];simp⟩
 ·obtain⟨l,d,f⟩:=h.2 i aD
  exact⟨l,d,by rw[List.getElem?_append_left (by rw[h.1];omega)];exact f⟩
theorem amQ.self{α:Type}{a:Nat->α}{i k:Nat}(h:amQ a i k):amQ a k k:=⟨aL,rfl,fun j b=>by rw[h.2.1];exact h.2.2 j b⟩
def amN(x:aC.cE)(cs:List Int)(a:List aC.dw)(i:Nat):Int×Cz.Wd:=(cs.getD i 0,(tD x (a.getD i [])).getD [])
def am0(x:aC.cE):List aC.dw->Int
 |[]=>0
 |W::l=>if (tD x W).isSome=true then am0 x l else zJ x W
def am7(x:aC.cE)(cs:List Int)(a:List aC.dw):Int:=if a.length=cs.length/\a.length<=64 then am0 x a else 1
def amU(x:aC.cE)(cs:List Int)(a:List aC.dw)(E:Int)(out:List Int):Prop:=
 E=am7 x cs a/\(E≠0->out=[])/\(E=0->a.length=cs.length/\(∀i,i<a.length->(tD x (a.getD i [])).isSome=true)/\amP (amN x cs a) a.length out)
theorem amU.uniq{x:aC.cE}{cs:List Int}{c:List aC.dw}{E F:Int}{a b:List Int}(h:amU x cs c E a)(g:amU x cs c F b):E=F/\a=b:=by
 obtain rfl:=h.1;obtain rfl:=g.1;refine⟨rfl,?_⟩;by_cases e:am7 x cs c=0
 ·exact(h.2.2 e).2.2.uniq (g.2.2 e).2.2
 ·rw[h.2.1 e,g.2.1 e]
theorem amX{x:aC.cE}:∀{a:List aC.dw},(∀i,i<a.length->(tD x (a.getD i [])).isSome=true)->am0 x a=0
 |[],_=>rfl
 |W::l,h=>by
  unfold am0;rw[if_pos (show (tD x W).isSome=true from h 0 bH)];exact amX (fun i hi=>h (i+1) afn)
theorem am1{x:aC.cE}:∀{a:List aC.dw} {i:Nat},(∀j,j<i->(tD x (a.getD j [])).isSome=true)->i<a.length->tD x (a.getD i [])=none->am0 x a=zJ x (a.getD i [])
 |[],_,_,h,_=>absurd h bH
 |W::l,0,_,_,h=>by
  have b:tD x W=none:=h;unfold am0;rw[if_neg (by rw[b];simp)];rfl
 |W::l,i+1,h,hi,hn=>by
  unfold am0;rw[if_pos (show (tD x W).isSome=true from h 0 aD)];exact am1 (i:=i) (fun j c=>h (j+1) aD) afn hn
theorem amU.bad{x:aC.cE}{cs:List Int}{a:List aC.dw}(h:¬(a.length=cs.length/\a.length<=64)):amU x cs a 1 []:=
 ⟨by unfold am7;rw[if_neg h],fun _=>rfl,fun h=>absurd h iG⟩
theorem amU.fail{x:aC.cE}{cs:List Int}{a:List aC.dw}(h:a.length=cs.length/\a.length<=64){i:Nat}(h1:∀j,j<i->(tD x (a.getD j [])).isSome=true)(b:i<a.length)(c:tD x (a.getD i [])=none):amU x cs a (zJ x (a.getD i [])) []:=
 ⟨by unfold am7;rw[if_pos h,am1 h1 b c],fun _=>rfl,fun h=>absurd h (Cw _ _)⟩
theorem amU.done{x:aC.cE}{cs:List Int}{a:List aC.dw}(h:a.length=cs.length/\a.length<=64)(h1:∀j,j<a.length->(tD x (a.getD j [])).isSome=true){out:List Int}(b:amP (amN x cs a) a.length out):amU x cs a 0 out:=
 ⟨by unfold am7;rw[if_pos h,amX h1],fun h=>absurd rfl h,fun _=>⟨h.1,h1,b⟩⟩
def amV(x:aC.cE)(cs:List Int)(b:List aC.dw)(w:World)(e:Ending)(w':World):Prop:=
 ∃a c E out,e=.returned (.tuple #[.slice a (out:List Int).length c,.int .i64 E])/\amU x cs b E out/\bB dr w' (.slice a out.length c) out/\BL w w'
theorem amV.err{x:aC.cE}{cs:List Int}{a:List aC.dw}{w w':World}{E:Int}(h:amU x cs a E [])(b:BL w w'):amV x cs a w (.returned (.tuple #[.slice none 0 0,.int .i64 E])) w':=
 ⟨none,0,E,[],rfl,h,eA.nil _ _ _,b⟩
theorem Tryz.ang:kF Tryz.prog 29 33 1 24:=jV (z:=.slice none 0 0) zK zK rfl aD aD
def amW(x:aC.cE)(xv:Value)(w:World)(d:Option Addr)(b:List aC.dw):Prop:=
 ∀j (h:j<b.length),∃a c,(∀X,BL w X->X.cell? ⟨bM d,bT d+j,none⟩=some (.slice a (b.getD j []).length c))/\alz x xv w (.slice a (b.getD j []).length c) (b.getD j [])
def amR(B:Nat)(w:World)(a c:Value)(d:List Cz.Wd)(out:List Int):Prop:=
 ∃K U:Nat->Prop,jv (fun S=>bK S) 33 K w a d/\bp U w c out/\(∀b,K b->B<=b/\¬U b)/\∀b,U b->B<=b/\b<w.heap.size
theorem amR.nil(B:Nat)(w:World):amR B w (.slice none 0 0) (.slice none 0 0) [] []:=⟨fun _=>False,fun _=>False,jv.nil _ _ _ _,bp.nil _ _,fun _ h=>h.elim,fun _ h=>h.elim⟩
theorem amR.next{B:Nat}{w w':World}{d e:Value}{f:List Cz.Wd}{out:List Int}(h:amR B w d e f out)(c:BL w w'):amR B w' d e f out:=by
 obtain⟨K,U,i,j,k,g⟩:=h;exact⟨K,U,(tI amO _).keep i (aH.below c),aW.keep j (aH.below c),k,fun b a=>⟨(g b a).1,oN (g b a).2 c.size⟩⟩
theorem amR.sl{B:Nat}{w:World}{a b:Value}{c:List Cz.Wd}{out:List Int}(h:amR B w a b c out):eA (bK dr) dr w a c/\bB dr w b out:=by
 obtain⟨K,U,d,e, -, -⟩:=h;exact⟨eA.mono (jv.sl (R:=fun S=>bK S) amO (fun h=>h) d) (fun _ _ _=>trivial) (fun _ _ h=>h.mono fun _ _ _=>trivial),bB.mono (bp.sl e) fun _ _ _=>trivial⟩
section
variable {P:Program} {ops:Array Oper} {rest:List Oper} {o:Oper} {a:Act} {Q:Exit->Act->World->Prop} {t:TypeId} {bytes:Nat}
theorem amS(l:o.guard=none)(s x:Operand)(A:o.op=.call {callee:=.builtin .append,args:=#[s,x],argTypes:=#[t,t]})(C:kF P t 33 1 bytes)
  {B:Nat}{w1 w:World}{r v:Value}{m:List Cz.Wd}{out:List Int}(D:a.eval s=r)(g:amR B w1 r v m out)(hB:B<=w1.heap.size)(i:BL w1 w)
  {u:Value}{E:TypeId}(hx:a.eval x=.slice (some ⟨w.heap.size,0,none⟩) 1 1)(y:Cz.Wd)(z:bK (w1.heap.size<=·) w u y)(h1:u.oneCell'=true)(d:m.length+1<=1000000000)
  (h:∀j f,amR B f j v (m++[y]) out->Below B w1 f->bK (w1.heap.size<=·) f u y->wpList P ops Q rest (a.put o.dst j) f):wpList P ops Q (o::rest) a (w.alloc (.cells #[u] E)):=by
 obtain⟨K,U,f1,f2,n,p⟩:=g;refine iM amO l s x A C D f1 i hx y z h1 d (fun j f F k=>h j f ⟨Grow K w1.heap.size,U,F,?_,fun b c=>?_,fun b c=>⟨(p b c).1,oN (p b c).2 (zxb i.size k.size)⟩⟩ ?_ ?_)
 ·exact aW.keep (aW.keep f2 (aH.below i)) (k.keep fun b q e=>(n b (f1.1 b e.symm)).2 q)
 ·rcases c with c|c
  ·exact n b c.1
  ·exact⟨aD,fun q=>by have:=(p b q).2;omega⟩
 ·exact(i.mono hB).trans (k.below (zxb hB i.size) fun b e=>(n b (f1.1 b e.symm)).1)
 ·obtain⟨-,H,Z,G, -, -⟩:=f1
  exact z.keep (k.keep fun b (c:w1.heap.size<=b) e=>by have:=(G.lt b e.symm).2;omega)
theorem amT(l:o.guard=none)(s x:Operand)(v:o.op=.call {callee:=.builtin .append,args:=#[s,x],argTypes:=#[t,t]})(z:kF P t 3 1 bytes)
  {B:Nat}{w:World}{m q:Value}{n:List Cz.Wd}{out:List Int}(A:a.eval s=q)(j:amR B w m q n out)(hB:B<=w.heap.size)
  {y:Int}{C:TypeId}(hx:a.eval x=.slice (some ⟨w.heap.size,0,none⟩) 1 1)(d:out.length+1<=1000000000)
  (h:∀k i,amR B i m k n (out++[y])->Below B w i->wpList P ops Q rest (a.put o.dst k) i):wpList P ops Q (o::rest) a (w.alloc (.cells #[.int .i64 y] C)):=by
 obtain⟨K,U,f1,f2,p,r⟩:=j;refine sG l s x v z A f2 hx d (fun k i D u=>?_);have E:jv (fun S=>bK S) 33 (fun b=>K b/\b<w.heap.size) w m n:=(tI amO _).mono f1 fun b f h=>⟨h,f⟩;refine h k i ⟨fun b=>K b/\b<w.heap.size,fun b=>Grow U w.heap.size b/\b<i.heap.size,?_,aW.mono D fun b f h=>⟨h,f⟩,fun b c=>⟨(p b c.1).1,fun g=>?_⟩,fun b c=>⟨?_,c.2⟩⟩ ?_
 ·exact(tI amO _).keep E (u.keep fun b F e=>(p b F.1).2 (f2.2 b e.symm))
 ·rcases g.1 with g|g
  ·exact(p b c.1).2 g.1
  ·have:=c.2;omega
 ·rcases c.1 with g|g
  ·exact(r b g.1).1
  ·omega
 ·exact u.below hB fun b e=>(r b (f2.2 b e.symm)).1
end
theorem aep(h:p:=by
  have hsl:=HT.out.sl.2
  obtain⟨ao,co,rfl, -, -, -⟩:=hsl.form
  have HF:Hid (amV x cs Ws w (.returned (.tuple #[.slice ao out.length co,.int .i64 0])) wr):=hid ⟨ao,co,0,out,rfl,.done HG.out (fun j hj=>(HV.out j (by rw[HN.out];exact hj)).1) (by rw[<-HN.out];exact HGr.out),hsl,bO bL.out HB.out⟩
  clear hsl
  go_wp2
  go_ret2
  exact HF.out):p:=h
theorem GQ(h:p:=by
  go_wp2
  go_roundw
  case rel=>exact⟨k+1,Rm.out.1,zG,hid Rm.out.2,iH⟩
  have:=Rm.out.1
  simp[intOf]
  omega):p:=h
theorem aeN(h:p:=by
  have anh:(64:Int)<(n:Int):=by omega
  have HR:Hid (amV x cs Ws w (.returned (.tuple #[.slice none 0 0,.int .i64 1])) w1):=hid (.err (.bad (fun h=>by have:=h.2;rw[<-HN.out] at this;omega)) bL.out)
  go_wp2
  go_ret2
  exact HR.out):p:=h
theorem YW(h:p:=by
  have hne:¬(n:Int)=(m:Int):=aD
  have HR:Hid (amV x cs Ws w (.returned (.tuple #[.slice none 0 0,.int .i64 1])) w1):=hid (.err (.bad (fun h=>hnm (by rw[HN.out,HM.out];exact h.1))) bL.out)
  clear hnm
  go_wp2
  go_ret2
  exact HR.out):p:=h
theorem adA(h:p:=by
  refine iU ?_
  intro w5 hx
  have iH:=hid (bO xX.out (eP hx))
  clear hx hg Dt q1 q2 q3
  exact GQ):p:=h
theorem amY(x:aC.cE)(cs:List Int)(Ws:List aC.dw)(hm:Ws.length<=1000)(aa:cs.length<=1000)(z:Int)(R S T ag ac:Option Addr)(U g W Y Z cr cg cc:Nat)(w:World)(ab:dV ag Ws.length)
  (hL:amW x (.agg #[.int .i64 z,.slice R U g,.slice S W Y,.slice T Z cr]) w ag Ws)(hc:bB dr w (.slice ac cs.length cc) cs):
  CP 13 #[.agg #[.int .i64 z,.slice R U g,.slice S W Y,.slice T Z cr],.slice ag Ws.length cg,.slice ac cs.length cc] w (amV x cs Ws w):=by
 obtain⟨w1,hw1⟩:=bJ (w.alloc (.cells #[.int .i64 z,.slice R U g,.slice S W Y,.slice T Z cr] 27));have HX:Hid (∀X,BL w1 X->X.heap[w.heap.size]?=some (.cells #[.int .i64 z,.slice R U g,.slice S W Y,.slice T Z cr] 27 (0,0))):=hid (fun X f=>(f.block _ J6).trans J7);have bL:Hid (Below w.heap.size w w1):=hid Cx;have ES:=hid (fun X (f:BL w X)=>hc.keep (aH.below f));obtain⟨_,_,e1,ad, -, -⟩:=hc.form;cases e1;have Ni:=hid hL;have ae:=hid hw1;obtain⟨n,hn⟩:=bJ Ws.length;obtain⟨m,t⟩:=bJ cs.length;have HN:=hid hn;have HM:=hid t;rw[<-hn] at hm ab ⊢;rw[<-t] at aa ad ES ⊢;clear hw1 hL hc hn t;go_enter Tryz.func13,Tryz.ntmps13;go_upto_region 1 with fail;rw[<-ae.out];by_cases hnm:n=m
 case neg=>
  exact YW
 subst hnm;by_cases av:64<n
 ·exact aeN
 have anh:¬(64:Int)<(n:Int):=aD
 have HG:Hid (Ws.length=cs.length/\Ws.length<=64):=hid ⟨by rw[<-HN.out,<-HM.out],abp⟩;go_upto_region 6 with fail;go_loopw [8,9,10,11,12,13,14,27] (fun F oo _ _ _ _ _ ii wr=>∃(i:Nat) (kv ov:Value) (b:List Cz.Wd) (out:List Int),i<=n/\ii=.int .i64 (i:Int)/\F=kv/\oo=ov/\b.length=i/\Hid (amR w1.heap.size wr kv ov b out)/\Hid (∀j,j<i->(tD x (Ws.getD j [])).isSome=true/\b.getD j []=(tD x (Ws.getD j [])).getD [])/\Hid (amP (amN x cs Ws) i out)/\Hid (BL w1 wr)) (fun _ _ _ _ _ _ _ ii _=>n-(intOf ii).toNat);case atStart=>exact⟨0,_,_,[],[],zxa _,rfl,rfl,rfl,rfl,hid (amR.nil _ _),hid (fun _ h=>absurd h aD),hid (amP.nil _),hid aG⟩
 case round=>
  obtain⟨i,kv,ov,b,out,hi,rfl,rfl,rfl,l,HT,HV,HGr,HB⟩:=hrel;by_cases hit:i<n
  ·have aw:=zN i
   have ax:=zL i n
   have ox:i<Ws.length:=by rw[<-HN.out];exact hit
   obtain⟨ai,ci,a,ay,c,e1, -,hp, -⟩:=Ni.out i ox;cases e1;have v:=aR bL HB.out;have d1:=a wr v.out;obtain⟨Wi,y⟩:=bJ (Ws.getD i []);have A:=hid y;rw[<-y] at d1 hp;have HP:=hid (hp wr v.out);obtain⟨r,hr⟩:=bJ (tD x Wi);obtain⟨ec,o⟩:=bJ (zJ x Wi);have hne:¬ec=0:=by rw[o];exact Cw _ _
   rw[<-hr,<-o] at HP;have HR:=hid hr;have HE:=hid o;obtain⟨y0,y1,y2,y3⟩:=b4z (HX.out wr HB.out);clear a hp y hr o;generalize Wi.length=ni at*;generalize wr=wo at*;go_upto_region 8 with fail;go_wp2_with fail;refine HP.out.mono ?_;rintro e w2 ⟨hq,G⟩;have cH:=hid G;clear G HP y0 y1 y2 y3 d1;cases r with
   |none=>
    obtain rfl:=hq
    have HF:Hid (amV x cs Ws w (.returned (.tuple #[.slice none 0 0,.int .i64 ec])) w2):=hid (by
     rw[HE.out,A.out]
     exact .err (.fail HG.out (fun j hj=>(HV.out j hj).1) ox (by rw[<-A.out];exact HR.out.symm)) (bO v.out cH.out))
    go_wp2
    go_ret2
    exact HF.out
   |some V=>
    obtain⟨a2,n2,c2,rfl,hv⟩:=hq
    have H:=cM.sl hv
    have vX:b.length+1<=1000000000:=aD
    have I:=hid H
    clear hv H
    go_upto_region 11 with fail
    go_wp2_with (at_builtin;go_must (refine amS rfl _ _ rfl Tryz.ang rfl HT.out HB.out.size cH.out rfl V I.out rfl vX ?_))
    intro az w3 q J K
    have L:=hid (fun X (f:BL w3 X)=>(K.mono (S':=dr) fun _ _ _=>trivial).keep (aH.below f))
    have cN:=hid (HB.out.trans J)
    have Iy:=hid q
    obtain⟨a3,c3,rfl,af, -, -⟩:=q.sl.1.form
    have s:(b++[V]).length=i+1:=by simp[l]
    have M:=hid (fun X (f:BL w3 X)=>eA.keep q.sl.1 (aH.below f) fun _ _ h=>h.keep (aH.below f))
    rw[s] at af M
    rw[s] at Iy
    have N:Hid (∀j,j<i+1->(tD x (Ws.getD j [])).isSome=true/\(b++[V]).getD j []=(tD x (Ws.getD j [])).getD []):=hid (fun j hj=>by
     by_cases e:j=i
     ·subst e
      rw[<-A.out,<-HR.out,iY,List.getElem?_append_right aD,l];simp
     ·obtain⟨h1,h2⟩:=HV.out j aD
      refine⟨h1,?_⟩;rw[<-h2,iY,iY,List.getElem?_append_left aD])
    have ah:Hid ((b++[V]).getD i []=V):=hid (by rw[iY,List.getElem?_append_right aD,l];simp)
    have O:Hid (∀j,j<i+1->amN x cs Ws j=(cs.getD j 0,(b++[V]).getD j [])):=hid (fun j hj=>by unfold amN;rw[(N.out j hj).2])
    have P:=hid (fun X (f:BL w3 X)=>ES.out X (bO bL.out (bO cN.out f)))
    clear q J K HV I l
    go_upto_region 13 with fail
    go_loopw [14] (fun F wq=>∃k:Nat,k<=i/\F=.int .i64 (k:Int)/\Hid (∀j,j<k->amN x cs Ws j≠amN x cs Ws i)/\Hid (BL w3 wq)) (fun F _=>i-(intOf F).toNat)
    case atStart=>exact⟨0,zxa _,rfl,hid (fun _ h=>absurd h aD),hid aG⟩
    case round=>
     obtain⟨k,hk,rfl,xJ,xX⟩:=hrel;have aA:=zN k
     have aB:=zL k n
     have aE:(k:Int)<(i:Int)+1:=aD
     obtain⟨_,q1,rfl⟩:=eA.getD (P.out wr xX.out) 0 (show k<cs.length by rw[<-HM.out];omega);obtain⟨_,q2,rfl⟩:=eA.getD (P.out wr xX.out) 0 (show i<cs.length by rw[<-HM.out];omega);obtain⟨u,q3,B⟩:=eA.getD (M.out wr xX.out) [] (show k<(b++[V]).length by rw[s];omega);obtain⟨g,C⟩:=bJ (cs.getD k 0);obtain⟨c,a⟩:=bJ (cs.getD i 0);obtain⟨Vk,D⟩:=bJ ((b++[V]).getD k []);rw[<-C] at q1;rw[<-a] at q2;rw[<-D] at B;have Q:Hid (amN x cs Ws k=amN x cs Ws i↔g=c/\Vk=V):=hid (by rw[O.out k aD,O.out i aD,Prod.mk.injEq,ah.out,<-C,<-a,<-D]);clear C a D
     have Je:Hid (¬(g=c/\Vk=V)->k+1<=i/\∀j,j<k+1->amN x cs Ws j≠amN x cs Ws i):=hid (fun h=>by
      have h1:amN x cs Ws k≠amN x cs Ws i:=fun e=>h (Q.out.1 e);refine⟨?_,fun j hj=>?_⟩
      ·have:k≠i:=fun e=>h1 ah4
       omega
      ·by_cases e:j=k
       ·rw[e];exact h1
       ·exact xJ.out j aD)
     have Dt:Hid (∀p:gV wr,_):=hid (fun(p:gV wr)=>Calls.fQ (x:=p) (Us Vk V _ _ _ _ p.1 (B.keep (aH.below p.2)) (L.out p.1 (bO xX.out p.2))));obtain⟨d,hd⟩:=bJ (decide (Vk=V));rw[<-hd] at Dt;have HD:=hid hd;have hg:=gV.cell (w:=wr);have aj:=kK wr _ q1;have am:=kK wr _ q3;simp only at aj am;clear hd B;generalize wr=wq at*;by_cases E:g=c
     ·subst E
      cases d with
      |true=>
       have HF:Hid (amQ (amN x cs Ws) i k):=hid ⟨hk,Q.out.2 ⟨rfl,of_decide_eq_true HD.out.symm⟩,xJ.out⟩
       go_upto_region 13 with fail
       refine cQ zK zK ?_
       repeat (go_big_quiet_step (exact Dt.out _))
       refine iU ?_
       intro w5 hx
       have iH:=hid (bO xX.out (eP hx))
       clear hx hg Dt q1 q2 q3
       have NI:=hid (Iy.out.next iH.out)
       have an:w1.heap.size<=w5.heap.size:=zxb cN.out.size iH.out.size
       have ap:out.length+1<=1000000000:=by rw[HGr.out.1];omega
       go_upto_region 15 with fail
       go_wp2_with (at_builtin;go_must (refine amT rfl _ _ rfl Tryz.jG rfl NI.out an rfl ap ?_))
       intro aF w6 tg oH
       have aq:=hid tg
       have mA:=hid (cN.out.trans ((iH.out.mono cN.out.size).trans oH))
       have au:=hid (HGr.out.snoc HF.out)
       clear tg oH NI
       go_wp2
       go_roundw
       case rel=>exact⟨i+1,_,_,_,_,aD,zG,rfl,rfl,s,aq,N,au,mA⟩
       exact zI
      |false=>
       have Rm:=hid (Je.out (fun h=>by have:=HD.out;rw[decide_eq_true h.2] at this;cases this))
       go_upto_region 13 with fail
       refine cQ zK zK ?_
       repeat (go_big_quiet_step (exact Dt.out _))
       exact adA
     ·have Rm:=hid (Je.out (fun h=>E h.1))
      have aI:(g !=c)=true:=by simpa using E
      go_upto_region 13 with fail;refine cQ zK zK ?_;repeat (go_big_quiet_step (fail))
      exact adA
  ·obtain rfl:i=n:=by omega
   exact aep
theorem adw(h:p:=by
  refine iU ?_
  intro w5 hx
  have iH:=hid (bO xX.out (eP hx))
  clear hx hg Dt q1 q2 q3 q4
  exact GQ):p:=h
theorem amZ(x:aC.cE)(cs:List Int)(Ws:List aC.dw)(hm:Ws.length<=1000)(am:cs.length<=1000)(z:Int)(M N O P ac:Option Addr)(Q q R S T U cg cc:Nat)(w:World)(an:dV P Ws.length)
  (hL:amW x (.agg #[.int .i64 z,.slice M Q q,.slice N R S,.slice O T U]) w P Ws)(hc:bB dr w (.slice ac cs.length cc) cs):
  CP 14 #[.agg #[.int .i64 z,.slice M Q q,.slice N R S,.slice O T U],.slice P Ws.length cg,.slice ac cs.length cc] w (amV x cs Ws w):=by
 obtain⟨w1,hw1⟩:=bJ (w.alloc (.cells #[.int .i64 z,.slice M Q q,.slice N R S,.slice O T U] 27));have HX:Hid (∀X,BL w1 X->X.heap[w.heap.size]?=some (.cells #[.int .i64 z,.slice M Q q,.slice N R S,.slice O T U] 27 (0,0))):=hid (fun X v=>(v.block _ J6).trans J7);have bL:Hid (Below w.heap.size w w1):=hid Cx;have ES:=hid (fun X (v:BL w X)=>hc.keep (aH.below v));obtain⟨_,_,e1,ap, -, -⟩:=hc.form;cases e1;have Ni:=hid hL;have aq:=hid hw1;obtain⟨n,hn⟩:=bJ Ws.length;obtain⟨m,y⟩:=bJ cs.length;have HN:=hid hn;have HM:=hid y;rw[<-hn] at hm an ⊢;rw[<-y] at am ap ES ⊢;clear hw1 hL hc hn y;go_enter Tryz.func14,Tryz.ntmps14;go_upto_region 1 with fail;rw[<-aq.out];by_cases hnm:n=m
 case neg=>
  exact YW
 subst hnm;by_cases aJ:64<n
 ·exact aeN
 have anh:¬(64:Int)<(n:Int):=aD
 have HG:Hid (Ws.length=cs.length/\Ws.length<=64):=hid ⟨by rw[<-HN.out,<-HM.out],abp⟩;go_upto_region 5 with fail;go_loopw [8,9,10,11] (fun W A _ _ wr=>∃(i:Nat) (kv:Value) (c:List Cz.Wd),i<=n/\A=.int .i64 (i:Int)/\W=kv/\c.length=i/\Hid (amR w1.heap.size wr kv (.slice none 0 0) c [])/\Hid (∀j,j<i->(tD x (Ws.getD j [])).isSome=true/\c.getD j []=(tD x (Ws.getD j [])).getD [])/\Hid (BL w1 wr)) (fun _ A _ _ _=>n-(intOf A).toNat);case atStart=>exact⟨0,_,[],zxa _,rfl,rfl,rfl,hid (amR.nil _ _),hid (fun _ h=>absurd h aD),hid aG⟩
 case round=>
  obtain⟨i,kv,c,hi,rfl,rfl,g,HT,HV,HB⟩:=hrel;by_cases hit:i<n
  ·have au:=zN i
   have s:=zL i n
   have ox:i<Ws.length:=by rw[<-HN.out];exact hit
   obtain⟨ai,ci,a,aK,l,e1, -, -,hp⟩:=Ni.out i ox;cases e1;have B:=aR bL HB.out;obtain⟨Wi,C⟩:=bJ (Ws.getD i []);have D:=hid C;rw[<-C] at a hp;obtain⟨r,hr⟩:=bJ (tD x Wi);obtain⟨ec,t⟩:=bJ (zJ x Wi);have hne:¬ec=0:=by rw[t];exact Cw _ _
   rw[<-hr,<-t] at hp;have HP:=hid hp;have av:=hid a;have HR:=hid hr;have HE:=hid t;clear a hp C hr t;generalize Wi.length=ni at*;generalize wr=o at*;go_upto_region 7 with fail;have qo:=eC o ⟨w.heap.size,0,none⟩ (.int .i64 z) fun f=>aP (HX.out f.1 (bO HB.out f.2)) 0;have qp:=eC o ⟨w.heap.size,1,none⟩ (.slice M Q q) fun f=>aP (HX.out f.1 (bO HB.out f.2)) 1;have qt:=eC o ⟨w.heap.size,2,none⟩ (.slice N R S) fun f=>aP (HX.out f.1 (bO HB.out f.2)) 2;have qu:=eC o ⟨w.heap.size,3,none⟩ (.slice O T U) fun f=>aP (HX.out f.1 (bO HB.out f.2)) 3;have Y:=eC o ⟨bM P,bT P+i,none⟩ (.slice ai ni ci) fun f=>av.out f.1 (bO B.out f.2);refine alR o 10 (iq.lV [0,1,2,3,4] (.one 5 (iq.lV [6,7,8,9] .done))) nK zK fun wd fH=>?_;have HQ:=hid (HP.out wd (bO B.out fH.out))
   iterate 5 refine gF ?_
   refine aZ rfl ?_;go_wp2_with fail;refine HQ.out.mono ?_;rintro e w2 ⟨hq,Z⟩;have cH:=aR fH Z;clear Z HP HQ;cases r with
   |none=>
    obtain rfl:=hq
    have HF:Hid (amV x cs Ws w (.returned (.tuple #[.slice none 0 0,.int .i64 ec])) w2):=hid (by
     rw[HE.out,D.out]
     exact .err (.fail HG.out (fun j hj=>(HV.out j hj).1) ox (by rw[<-D.out];exact HR.out.symm)) (bO B.out cH.out))
    go_wp2_with fail
    refine aN (BL o) (fun _ h=>h) cH.out ?_
    iterate 4 refine gF ?_
    refine bG ?_
    try simp only[jW,jH]
    clear qo qp qt qu Y
    go_wp2
    go_ret2
    exact HF.out
   |some V=>
    obtain⟨u2,rfl,hv⟩:=hq
    have E:=hv.mono (S':=(o.heap.size<=·)) (fun b _ h=>zxb fH.out.size h)
    obtain⟨a2,c2,rfl, -, -, -⟩:=E.form
    have vX:c.length+1<=1000000000:=aD
    have aa:=hid E
    clear hv E
    generalize V.length=n2 at*
    go_wp2_with fail
    refine aN (BL o) (fun _ h=>h) cH.out ?_
    iterate 4 refine gF ?_
    refine bG ?_
    try simp only[jW,jH]
    clear qo qp qt qu Y
    go_upto_region 10 with fail
    go_wp2_with (at_builtin;go_must (refine amS rfl _ _ rfl Tryz.ang rfl HT.out HB.out.size cH.out rfl V aa.out rfl vX ?_))
    intro aM w3 ab ad _
    have cN:=hid (HB.out.trans ad)
    have Iy:=hid ab
    have aw:(c++[V]).length=i+1:=by simp[g]
    have ax:Hid (∀j,j<i+1->(tD x (Ws.getD j [])).isSome=true/\(c++[V]).getD j []=(tD x (Ws.getD j [])).getD []):=hid (fun j hj=>by
     by_cases e:j=i
     ·subst e
      rw[<-D.out,<-HR.out,iY,List.getElem?_append_right aD,g];simp
     ·obtain⟨h1,h2⟩:=HV.out j aD
      refine⟨h1,?_⟩;rw[<-h2,iY,iY,List.getElem?_append_left aD])
    clear ab ad HV aa g
    go_wp2
    go_roundw
    case rel=>exact⟨i+1,_,_,aD,zG,rfl,aw,Iy,ax,cN⟩
    exact zI
  ·obtain rfl:n=i:=by omega
   have s:¬(n:Int)<(n:Int):=aD
   have F:=HT;have Le:=HB;obtain⟨a3,c3,rfl,ay, -, -⟩:=HT.out.sl.1.form;rw[g] at ay F ⊢;clear HT HB;have aO:=hid (fun(X:World) (v:amR w1.heap.size X (.slice a3 n c3) (.slice none 0 0) c [])=>v.sl.1);have ae:Hid (∀j,j<n->amN x cs Ws j=(cs.getD j 0,c.getD j [])):=hid (fun j hj=>by unfold amN;rw[(HV.out j hj).2]);have af:=hid g;clear g;generalize wr=w2 at*;go_upto_region 13 with fail;go_loopw [12,13,14] (fun oo A _ wr=>∃(i:Nat) (ov:Value) (out:List Int),i<=n/\A=.int .i64 (i:Int)/\oo=ov/\Hid (amR w1.heap.size wr (.slice a3 n c3) ov c out)/\Hid (amP (amN x cs Ws) i out)/\Hid (BL w1 wr)) (fun _ A _ _=>n-(intOf A).toNat);case atStart=>exact⟨0,_,[],zxa _,rfl,rfl,F,hid (amP.nil _),Le⟩
   case round=>
    clear F Le hi hit s;obtain⟨i,ov,out,hi,rfl,rfl,HT,HGr,HB⟩:=hrel;by_cases hit:i<n
    ·have au:=zN i
     have s:=zL i n
     have ah:=hid (fun X (v:BL wr X)=>ES.out X (bO bL.out (bO HB.out v)));generalize wr=o at*;go_upto_region 16 with fail;go_loopw [14] (fun W wq=>∃k:Nat,k<=i/\W=.int .i64 (k:Int)/\Hid (∀j,j<k->amN x cs Ws j≠amN x cs Ws i)/\Hid (BL o wq)) (fun W _=>i-(intOf W).toNat);case atStart=>exact⟨0,zxa _,rfl,hid (fun _ h=>absurd h aD),hid aG⟩
     case round=>
      obtain⟨k,hk,rfl,xJ,xX⟩:=hrel;have aQ:=zN k
      have aS:=zL k n
      obtain⟨_,q1,rfl⟩:=eA.getD (ah.out wr xX.out) 0 (show k<cs.length by rw[<-HM.out];omega);obtain⟨_,q2,rfl⟩:=eA.getD (ah.out wr xX.out) 0 (show i<cs.length by rw[<-HM.out];omega);obtain⟨u,q3,G⟩:=eA.getD ((HT.out.next xX.out).sl.1) [] (show k<c.length by rw[af.out];omega);obtain⟨u',q4,H⟩:=eA.getD ((HT.out.next xX.out).sl.1) [] (show i<c.length by rw[af.out];omega);obtain⟨q,I⟩:=bJ (cs.getD k 0);obtain⟨l,a⟩:=bJ (cs.getD i 0);obtain⟨Vk,J⟩:=bJ (c.getD k []);obtain⟨Vi,K⟩:=bJ (c.getD i []);rw[<-I] at q1;rw[<-a] at q2;rw[<-J] at G;rw[<-K] at H;have aj:Hid (amN x cs Ws k=amN x cs Ws i↔q=l/\Vk=Vi):=hid (by rw[ae.out k aD,ae.out i aD,Prod.mk.injEq,<-I,<-a,<-J,<-K]);clear I a J K
      have Je:Hid (¬(q=l/\Vk=Vi)->k+1<=i/\∀j,j<k+1->amN x cs Ws j≠amN x cs Ws i):=hid (fun h=>by
       have h1:amN x cs Ws k≠amN x cs Ws i:=fun e=>h (aj.out.1 e);refine⟨?_,fun j hj=>?_⟩
       ·have:k≠i:=fun e=>h1 ah4
        omega
       ·by_cases e:j=k
        ·rw[e];exact h1
        ·exact xJ.out j aD)
      have Dt:Hid (∀p:gV wr,_):=hid (fun(p:gV wr)=>Calls.fQ (x:=p) ((EC Vk Vi _ _ _ _ p.1 (G.keep (aH.below p.2)) (H.keep (aH.below p.2))).mono fun e w' h=>⟨h.1,rF h.2⟩));obtain⟨d,hd⟩:=bJ (decide (Vk=Vi));rw[<-hd] at Dt;have HD:=hid hd;have hg:=gV.cell (w:=wr);have az:=kK wr _ q1;have aA:=kK wr _ q3;simp only at az aA;clear hd G H;generalize wr=wq at*;by_cases L:q=l
      ·subst L
       cases d with
       |true=>
        have HF:Hid (amQ (amN x cs Ws) i k):=hid ⟨hk,aj.out.2 ⟨rfl,of_decide_eq_true HD.out.symm⟩,xJ.out⟩
        go_upto_region 16 with fail
        refine cQ zK zK ?_
        repeat (go_big_quiet_step (exact Dt.out _))
        refine iU ?_
        intro w5 hx
        have iH:=hid (bO xX.out (eP hx))
        clear hx hg Dt q1 q2 q3 q4
        have NI:=hid (HT.out.next iH.out)
        have aB:w1.heap.size<=w5.heap.size:=zxb HB.out.size iH.out.size
        have aE:out.length+1<=1000000000:=by rw[HGr.out.1];omega
        go_upto_region 18 with fail
        go_wp2_with (at_builtin;go_must (refine amT rfl _ _ rfl Tryz.jG rfl NI.out aB rfl aE ?_))
        intro aT w6 tg oH
        have aF:=hid tg
        have mA:=hid (HB.out.trans ((iH.out.mono HB.out.size).trans oH))
        have aI:=hid (HGr.out.snoc HF.out)
        clear tg oH NI
        go_wp2
        go_roundw
        case rel=>exact⟨i+1,_,_,aD,zG,rfl,aF,aI,mA⟩
        exact zI
       |false=>
        have Rm:=hid (Je.out (fun h=>by have:=HD.out;rw[decide_eq_true h.2] at this;cases this))
        go_upto_region 16 with fail
        refine cQ zK zK ?_
        repeat (go_big_quiet_step (exact Dt.out _))
        exact adw
      ·have Rm:=hid (Je.out (fun h=>L h.1))
       have aU:(q !=l)=true:=by simpa using L
       go_upto_region 16 with fail;refine cQ zK zK ?_;repeat (go_big_quiet_step (fail))
       exact adw
    ·obtain rfl:n=i:=by omega
     have s:¬(n:Int)<(n:Int):=aD
     exact aep
theorem amW.next{x:aC.cE}{xv:Value}{w w':World}{d:Option Addr}{f:List aC.dw}(h:amW x xv w d f)(g:BL w w'):amW x xv w' d f:=fun j i=>by
 obtain⟨a,c,k,l,m,e,n,o,p⟩:=h j i;have t:∀X,BL w' X->BL w X:=fun X b=>bO g b;exact⟨a,c,fun X b=>k X (t X b),l,m,e,fun X b=>n X (t X b),fun X b=>o X (t X b),fun X b=>p X (t X b)⟩
theorem amW.part{x:aC.cE}{xv:Value}{w:World}{b o:Nat}{d:List aC.dw}(h:amW x xv w (some ⟨b,o,none⟩) d)(l m:Nat):amW x xv w (some ⟨b,o+l,none⟩) ((d.drop l).take m):=fun j g=>by
 have f:j<m/\l+j<d.length:=by simp at g;omega
 obtain⟨a,c,i,k⟩:=h (l+j) f.2
 have e:((d.drop l).take m).getD j []=d.getD (l+j) []:=by
  rw[iY,iY,zxz,if_pos f.1,List.getElem?_drop]
 rw[e];refine⟨a,c,fun X n=>?_,k⟩;have:=i X n;rw[fK,fL] at this ⊢;rw[Nat.add_assoc];exact this
theorem eA.pre{α:Type}{R:World->Value->α->Prop}{S:Nat->Prop}{w:World}{a:Option Addr}{n c m:Nat}{xs:List α}(h:eA R S w (.slice a n c) xs)(b:m<=xs.length):eA R S w (.slice a m c) (xs.take m):=by
 obtain⟨k,l,e,d,o,f,g,h5⟩:=h;cases e;have i:(xs.take m).length=m:=by simp[b]
 refine⟨a,c,by rw[i],fun h=>d aD,aD,f,fun h=>g aD,fun j p=>?_⟩;exact ama
theorem amP.at{α:Type}{b:Nat->α}{n:Nat}{out:List Int}(h:amP b n out){j:Nat}(c:j<n):∃k,amQ b j k/\out.getD j 0=(k:Int)/\out.getD k 0=(k:Int):=by
 obtain⟨k,a,d⟩:=h.2 j c;have f:k<n:=Nat.lt_of_le_of_lt a.1 c;obtain⟨l,g,i⟩:=h.2 k f;have e:k=l:=a.self.uniq g rfl;subst e;exact⟨k,a,by rw[iY,d];rfl,by rw[iY,i];rfl⟩
theorem am8{x:aC.cE}{cs:List Int}{c:List aC.dw}{out:List Int}(d:∀i,i<c.length->(tD x (c.getD i [])).isSome=true)(h:amP (amN x cs c) c.length out){j q:Nat}(f:j<c.length)(g:q<c.length):
  (out.getD j 0=out.getD q 0)↔(cs.getD j 0=cs.getD q 0/\Hl (tD x (c.getD j [])) (tD x (c.getD q []))=true):=by
 obtain⟨k,m,o, -⟩:=h.at f;obtain⟨l,n,p, -⟩:=h.at g;have r:=d j f;have s:=d q g
 have t:amN x cs c j=amN x cs c q↔(cs.getD j 0=cs.getD q 0/\Hl (tD x (c.getD j [])) (tD x (c.getD q []))=true):=by
  unfold amN;generalize tD x (c.getD j [])=a at*;generalize tD x (c.getD q [])=b at*;cases a with
  |none=>cases r
  |some a=>
   cases b with
   |none=>cases s
   |some b=>simp[Hl]
 rw[<-t,o,p];constructor
 ·intro e
  have:k=l:=aD
  subst this;exact m.2.1.symm.trans n.2.1
 ·intro e
  have:k=l:=m.uniq n e;rw[this]
theorem Lg(h:p:=by
  refine iU ?_
  intro wz hx
  have xM:=hid (bO HBj.out (eP hx))
  clear hx hg Dt p1 p2 p3 p4 d1 d2 d3 y0 y1 y2 y3
  go_wp2
  go_roundw
  case rel=>exact⟨q+1,aD,zG,xM⟩
  exact zI):p:=h
theorem cgroups_any(L M N Q C:List Int)(hL:Fit L)(hM:Fit M)(hN:Fit N)(hQ:Fit Q)(hC:Fit C)(a b:Int)(a4:(-9223372036854775808<=a/\a<=9223372036854775807)/\(-9223372036854775808<=b/\b<=9223372036854775807))(v0 v1 v2 v3 v4:Value)(tb:Nat)(w:World)
  (a5:bB dr w v0 L)(a6:bB dr w v1 M)(a7:bB dr w v2 N)(a8:bB dr w v3 Q)(a9:bB dr w v4 C)(H:LaidW w)(aq:TabC tb w):
  CB 4 #[v0,v1,v2,v3,v4,.int .i64 a,.int .i64 b] w (.bool true):=by
 have HS:=hid (NS L hL v0 w a5);have xL:=hid H;have I:=hid aq;have Nn:=hid (fun X (d:BL w X) (i:Nat)=>Dd C hC v4 (i:Int) 2 dr X (a9.keep (aH.below d)) aD aD aD)
 have K5:=hid (fun(x:aC.cE) (h1:aC.okB x=true) (h2:aC.eT x) (h3:x.ah.length<=6) (h4:0<x.ah.length) (h5:∀k∈x.ah,k.aF.length<=10) (h6:∀k (h:k<x.ah.length),0<x.ah[k].aF.length) (xv:Value) (S:Nat->Prop) (X:World) (d:BL w X) (hx:dO S X xv x)=>
  abk x h1 h2 h3 h4 h5 h6 M N Q hM hN hQ a b a4 xv v1 v2 v3 S dr X hx (a6.keep (aH.below d)) (a7.keep (aH.below d)) (a8.keep (aH.below d)))
 clear a5 a6 a7 a8 a9 H aq hL hM hN hQ hC a4;go_enter Tryz.func4,Tryz.ntmps4;go_wp2_with fail;refine HS.out.mono ?_;rintro e w1 ⟨sv,x,rfl,hg,ZJ,ba⟩;have bL:Hid (BL w w1):=hid ba;obtain⟨ak,ck,al,cl,ar,cr,rfl, -, -, -,bW, -, -⟩:=ZJ.form;have g:=aC.abV hg;have J:=aC.abS hg;have DC:=bU.uD (bU.Ah g).1;have au:∀k∈x.ah,k.aF.length<=10:=fun k hk=>(bU.pE (DC.2.2.2 k hk)).1;have h6:x.ah.length<=6:=DC.1;have h0:0<x.ah.length:=hg.some;have K:∀k (h:k<x.ah.length),0<x.ah[k].aF.length:=fun k h=>hg.ah.pos _ (eV h);obtain⟨xv,TQ⟩:∃z:Value,z=.agg (sBx x ak al ar ck cl cr):=⟨_,rfl⟩;have ai:=hid TQ;obtain⟨w2,s⟩:=bJ (fJ w1 x.aQ (.slice ak x.ah.length ck) (.slice al x.aV.length cl) (.slice ar x.aX.length cr));have cH:=yL s;have HX:Hid (∀X,BL w2 X->X.heap[w1.heap.size]?=some (.cells (sBx x ak al ar ck cl cr) 27 (0,0))):=hid (fun X d=>(d.block _ (by rw[s];simp[fJ])).trans (by rw[s];exact jt ..));unfold fJ at s;have bX:=hid s;have aj:=aR bL cH.out;have av:=hid (fun X (d:BL w2 X)=>dO.mono (S':=dr) (ZJ.keep (aH.below (bO cH.out d))) (fun _ _ _=>trivial))
 have J3:Hid (∀(X:World) (W:aC.dw) (aw:Option Addr) (cw:Nat),BL w2 X->bK dr X (.slice aw W.length cw) W->tu tb x W xv (.slice aw W.length cw) X.heap.size X):=hid (fun X W aw cw d hw=>by
  have am:=bO aj.out d;rw[TQ]
  exact
   {xk:=dO.mono (av.out X d) (fun b h _=>h)
    ze:=bK.mono hw (fun b h _=>h)
    laid:=xL.out.next am
    tab:=I.out.below am I.out.lt ah2
    tbB:=oN I.out.lt am.size
    size:=zxb xL.out.size am.size
    le:=aL})
 have bc:Hid (∀(X:World) (W:aC.dw) (u:Value),BL w2 X->abf x W->bK dr X u W->alz x xv X u W):=hid (fun X W u d hW hu=>by
  obtain⟨aw,cw,rfl, -, -, -⟩:=hu.form;refine⟨aw,cw,rfl,fun Y P=>hu.keep (aH.below P),fun Y P=>?_,fun Y P=>?_⟩
  ·have hA:=J3.out Y W aw cw (bO d P) (hu.keep (aH.below P))
   rw[TQ] at hA ⊢;exact abg x g J au h6 h0 W hW ak al ar aw ck cl cr cw tb Y hA
  ·have hs:=av.out Y (bO d P)
   rw[<-TQ] at hs;exact abh x g J h0 K W hW xv _ dr dr Y hs (hu.keep (aH.below P)))
 have Bj:=hid (K5.out x g J h6 h0 au K _ dr w2 aj.out (av.out w2 aG));have bd:=hid (fun(A TA B TB O:aC.dw) (h:ado x A TA B TB O)=>h.law g J h6);obtain⟨y0,y1,y2,y3⟩:=b4z (HX.out w2 aG);clear ba ZJ g hg HS DC J au h6 h0 K bW s TQ K5;go_upto_region 2 with fail;rw[<-bX.out];go_wp2_with fail;refine Bj.out.mono ?_;rintro e w3 ⟨wv,A,TA,B,TB,O,rfl,ax,CV,be⟩;have cN:=hid be;have bY:=hid ax;have ay:=bd.out A TA B TB O ax;obtain⟨Ws,az⟩:=bJ ([A,TA,B,TB,O,[]]);rw[<-az] at CV ay;have Nr:Ws.length=6:=by rw[az];rfl
 obtain⟨ag,cg,rfl,aA,bf, -⟩:=CV.form;rw[Nr] at CV aA bf ⊢
 have HC:Hid (∀j (h:j<Ws.length),∃u,(∀X,BL w3 X->X.cell? ⟨bM ag,bT ag+j,none⟩=some u)/\alz x xv w3 u Ws[j]):=hid (fun j h=>by
  obtain⟨u,hu,R,hr⟩:=CV.at h;exact⟨u,fun X d=>(d.cell (p:=⟨bM ag,bT ag+j,none⟩) R).trans hu,bc.out w3 _ u cN.out (ay _ (eV h)) hr⟩)
 have bg:amW x xv w3 ag Ws:=fun j hj=>by
  obtain⟨_,h1,a,c,rfl,h2⟩:=HC.out j hj;have e2:Ws.getD j []=Ws[j]:=by rw[iY,lN hj];rfl
  rw[e2];exact⟨a,c,h1,a,c,rfl,h2⟩
 obtain⟨gb,go,rfl⟩:=aA aD;have S9:=hid bg;have Mj:=hid Nr;have bh:=hid (fun X (d:BL w3 X) (i:Nat)=>Nn.out X (bO aj.out (bO cN.out d)) i);clear ax ay CV Nr az be Bj bd bc J3 y0 y1 y2 y3 bg HC bY Nn;go_upto_region 5 with fail;go_loopw [17,18] (fun ff ii wr=>∃(i:Nat) (fv:Value) (F:List Int),i<=5/\ii=.int .i64 (i:Int)/\ff=fv/\F.length=i/\Hid (fG (fun _ _ u (x:Int)=>u=.int .i64 x) w3.heap.size 3 wr fv F)/\Hid (BL w3 wr)) (fun _ ii _=>5-(intOf ii).toNat);case atStart=>exact⟨0,_,[],aD,rfl,rfl,rfl,hid (fG.nil _ _ _ _),hid aG⟩
 case round=>
  obtain⟨i,fv,F,hi,rfl,rfl,bi,HF,n⟩:=hrel;by_cases hit:i<5
  ·have aB:(i:Int)<5:=by omega
   have HQ:=hid (bh.out wr n.out i);have vX:F.length+1<=1000000000:=aD
   generalize wr=wo at*;go_upto_region 7 with fail;go_wp2_with fail;refine HQ.out.mono ?_;rintro e w4 ⟨y,rfl, -, -,rfl⟩;go_wp2_with (at_builtin;go_must (refine jO jN rfl _ _ rfl Tryz.jG rfl HF.out rfl y rfl rfl vX n.out.size n.out aL ?_));intro v5 w5 bj jZ _;have Zq:=hid bj;have D:=hid jZ;clear bj jZ HQ;go_wp2;go_roundw;case rel=>exact⟨i+1,_,_,aD,zG,rfl,by simp[bi],Zq,D⟩
   exact zI
  ·have aB:¬(i:Int)<5:=by omega
   have aE:F.length=5:=aD
   have bZ:=HF.out;obtain⟨us,aK, -, -⟩:=bZ;rw[aE] at aK;obtain⟨T,r,rfl,ct, -⟩:=gU aK aD;clear aK;have b0:=hid (fun X (d:BL wr X)=>bB.keep (bB.mono (fG.sl jN HF.out) (S':=dr) fun _ _ _=>trivial) (aH.below d));have kJ:=hid (S9.out.next n.out);have zP:=aR cN n.out;have JU:=hid aE;clear HF bh S9 n hit hi bi aE;generalize (i:Int)=iz at*;generalize wr=w4 at*;obtain⟨w5,rI⟩:=bJ ((w4.drewN 1).alloc (.cells #[.slice (some ⟨gb,go,none⟩) 5 cg,.slice (some ⟨gb,go,none⟩) 6 cg,.slice (some ⟨gb,go+2,none⟩) 2 (cg-2),.slice none 0 0] 29));have I8:Hid (Below w4.heap.size w4 w5):=hid (by rw[rI];exact(aJ aG 1).alloc aL _);have U:Hid (∀X,BL w5 X->X.heap[w4.heap.size]?=some (.cells #[.slice (some ⟨gb,go,none⟩) 5 cg,.slice (some ⟨gb,go,none⟩) 6 cg,.slice (some ⟨gb,go+2,none⟩) 2 (cg-2),.slice none 0 0] 29 (0,0))):=hid (fun X d=>(d.block _ (by rw[rI];simp)).trans (by rw[rI];exact bD _ _ bH));have EU:=hid rI;have b1:¬cg=2:=aD
   clear rI;go_upto_region 8 with fail;refine bq 6 (iq.lV [0,1,2,3,4] (.one 5 .done)) (BL w4) nK zK (aJ aG 1) ?_
   iterate 5 refine gF ?_
   refine aZ rfl ?_;go_wp2_with fail;rw[<-EU.out];refine aN (BL w4) (fun _ h=>h) I8.out ?_;refine bG ?_;try simp only[jW,jH]
   have PN:=aR zP I8.out
   have Ni:Hid (∀i,i<4->∃(a':Option Addr) (n' c':Nat) (l:List aC.dw),(∀X,BL w5 X->X.cell? ⟨w4.heap.size,i,none⟩=some (.slice a' n' c'))/\n'=l.length/\n'<=6/\dV a' n'/\amW x xv w5 a' l):=hid (fun i hi=>by
    have R:=kJ.out.next I8.out;have g:∀(b o m:Nat),dV (some ⟨b,o,none⟩) m:=fun b o m _=>⟨b,o,rfl⟩;have b2:i=0\/i=1\/i=2\/i=3:=aD
    have wg:=Mj.out;rcases b2 with rfl|rfl|rfl|rfl
    ·exact⟨_,_,_,(Ws.drop 0).take 5,fun X d=>aP (U.out X d) 0,by simp[wg],aD,g _ _ _,R.part 0 5⟩
    ·exact⟨_,_,_,Ws,fun X d=>aP (U.out X d) 1,wg.symm,aD,g _ _ _,R⟩
    ·exact⟨_,_,_,(Ws.drop 2).take 2,fun X d=>aP (U.out X d) 2,by simp[wg],aD,g _ _ _,R.part 2 2⟩
    ·exact⟨_,_,_,[],fun X d=>aP (U.out X d) 3,rfl,aD,fun h=>absurd h aD,fun j h=>absurd h bH⟩)
   clear kJ U EU b1 aA bf Mj;go_upto_region 10 with fail;go_loopw [20,21,22,23,24,25,26,27,28] (fun ii _ _ _ _ _ _ _ _ wr=>∃i:Nat,i<=4/\ii=.int .i64 (i:Int)/\Hid (BL w5 wr)) (fun ii _ _ _ _ _ _ _ _ _=>4-(intOf ii).toNat);case atStart=>exact⟨0,aD,rfl,hid aG⟩
   case round=>
    obtain⟨i,hi,rfl,n⟩:=hrel;by_cases hit:i<4
    ·have cu:=zN i
     have aB:(i:Int)<4:=aD
     obtain⟨la,V,lc,l,bk,bl,bm,an,bn⟩:=Ni.out i hit;have ao:=hid bk;have pQ:=hid bl;have Zm:=hid bn;clear bk bl bn;generalize wr=wo at*;go_upto_region 13 with fail;go_loopw [21,22,23,24,25,26,27,28] (fun kk _ _ _ _ _ _ _ wr=>∃k:Nat,k<=3/\kk=.int .i64 (k:Int)/\Hid (BL w5 wr)) (fun kk _ _ _ _ _ _ _ _=>3-(intOf kk).toNat);case atStart=>exact⟨0,aD,rfl,n⟩
     case round=>
      clear n;obtain⟨k,hk,rfl,n⟩:=hrel;by_cases cv:k<3
      ·have b3:=zN k
       have bo:(k:Int)<3:=aD
       generalize wr=G at*;obtain⟨m5,NG⟩:=bJ (min V 5);have bp:min (V:Int) 5=(m5:Int):=aD
       have b4:=zN m5
       have b5:(m5:Int)<=(r:Int):=aD
       have br:(5:Int)<=(r:Int):=aD
       have bs:(2:Int)<=(r:Int):=aD
       obtain⟨mk,t⟩:∃m,m=if k=0 then 5 else if k=1 then m5 else 2:=⟨_,rfl⟩;have bt:mk<=5:=by rw[t];split<;>(try split)<;>omega
       obtain⟨w6,wg⟩:=bJ ((G.drewN 1).alloc (.cells #[.slice (some ⟨T,0,none⟩) 5 r,.slice (some ⟨T,0,none⟩) m5 r,.slice (some ⟨T,0,none⟩) 2 r] 22));have fH:Hid (Below G.heap.size G w6):=hid (by rw[wg];exact(aJ aG 1).alloc aL _);have Z:w6.heap[G.heap.size]?=some (.cells #[.slice (some ⟨T,0,none⟩) 5 r,.slice (some ⟨T,0,none⟩) m5 r,.slice (some ⟨T,0,none⟩) 2 r] 22 (0,0)):=by rw[wg];exact bD _ _ bH
       have bu:w6.cell? ⟨G.heap.size,k,none⟩=some (.slice (some ⟨T,0,none⟩) mk r):=by
        have b6:k=0\/k=1\/k=2:=aD
        rcases b6 with rfl|rfl|rfl
        ·rw[t];exact aP Z 0
        ·rw[t];exact aP Z 1
        ·rw[t];exact aP Z 2
       have bv:=hid bu;have bw:=aI Z;have EY:=hid wg;have b7:=hid NG;have b8:=hid t;clear wg Z bu NG t;go_upto_region 15 with fail;have O7:=eC G ⟨w4.heap.size,i,none⟩ (.slice la V lc) fun f=>ao.out f.1 (bO n.out f.2);refine bq 15 (iq.lV [0,1,2,3,4,5,6,9,10,12] (.one 7 (.quiet 8 (.one 11 (iq.lV [13,14] .done))))) (BL G) nK zK (aJ aG 1) ?_;have pJ:=hid (aJ (Below.refl G.heap.size G) 1)
       iterate 10 refine gF ?_
       refine aZ rfl ?_;go_wp2_with fail;refine aN (BL G) (fun _ h=>h) pJ.out ?_;refine gF ?_;refine aZ rfl ?_;go_wp2_with fail;rw[<-EY.out];refine aN (BL w6) (fun _ h=>bO fH.out h) aG ?_;have O8:=eC w6 ⟨G.heap.size,k,none⟩ (.slice (some ⟨T,0,none⟩) mk r) fun f=>(f.2.cell (p:=⟨G.heap.size,k,none⟩) bw).trans bv.out
       iterate 2 refine gF ?_
       refine bG ?_;try simp only[jW,jH]
       clear O7 O8 pJ;have mA:=aR n fH.out;obtain⟨cs,aM⟩:=bJ (F.take mk);have v:cs.length=mk:=by rw[aM,VQ,JU.out];omega
       have GR:=hid v
       have ES:=hid (fun X (d:BL w5 X)=>(show bB dr X (.slice (some ⟨T,0,none⟩) mk r) cs by
        rw[aM];exact eA.pre (b0.out X (bO I8.out d)) (by rw[JU.out];exact bt)))
       have bx:=hid (fun X (d:BL w5 X)=>(show CP 13 #[.agg (sBx x ak al ar ck cl cr),.slice la V lc,.slice (some ⟨T,0,none⟩) mk r] X (amV x cs l X) by
        have R:=Zm.out.next d;rw[ai.out] at R;rw[pQ.out] at bm an ⊢;rw[<-v];exact amY x cs l aD aD _ _ _ _ _ _ _ _ _ _ _ _ _ _ X an R (by rw[v];exact ES.out X d)))
       have bz:=hid (fun X (d:BL w5 X)=>(show CP 14 #[.agg (sBx x ak al ar ck cl cr),.slice la V lc,.slice (some ⟨T,0,none⟩) mk r] X (amV x cs l X) by
        have R:=Zm.out.next d;rw[ai.out] at R;rw[pQ.out] at bm an ⊢;rw[<-v];exact amZ x cs l aD aD _ _ _ _ _ _ _ _ _ _ _ _ _ _ X an R (by rw[v];exact ES.out X d)))
       clear aM v bp b4 b5 br bs bw EY b7 bv;have Cq:=hid (fun X (d:BL w5 X)=>HX.out X (bO PN.out d));go_upto_region 16 with fail;have qo:=eC w6 ⟨w1.heap.size,0,none⟩ (.int .i64 x.aQ) fun f=>aP (Cq.out f.1 (bO mA.out f.2)) 0;have qp:=eC w6 ⟨w1.heap.size,1,none⟩ (.slice ak x.ah.length ck) fun f=>aP (Cq.out f.1 (bO mA.out f.2)) 1;have qt:=eC w6 ⟨w1.heap.size,2,none⟩ (.slice al x.aV.length cl) fun f=>aP (Cq.out f.1 (bO mA.out f.2)) 2;have qu:=eC w6 ⟨w1.heap.size,3,none⟩ (.slice ar x.aX.length cr) fun f=>aP (Cq.out f.1 (bO mA.out f.2)) 3;have O7:=eC w6 ⟨w4.heap.size,i,none⟩ (.slice la V lc) fun f=>ao.out f.1 (bO mA.out f.2);refine alR w6 11 (iq.lV [0,1,2,3,4,5] (.one 6 (iq.lV [7,8,9,10] .done))) nK zK fun wd pJ=>?_;have HQ:=hid (bx.out wd (bO mA.out pJ.out))
       iterate 6 refine gF ?_
       refine aZ rfl ?_;go_wp2_with fail;refine HQ.out.mono ?_;rintro e w7 ⟨aa,ca,E,out,rfl,ad,ae,mI⟩;have wR:=aR pJ mI;have Wj:=hid ad;have aO:=hid ae;obtain⟨on,aS⟩:=bJ out.length;have aT:=hid aS;rw[<-aS] at aO ⊢;clear ad ae mI aS HQ;go_wp2_with fail;refine aN (BL w6) (fun _ h=>h) wR.out ?_
       iterate 4 refine gF ?_
       refine bG ?_;try simp only[jW,jH]
       clear qo qp qt qu O7 pJ;have jb:=aR mA wR.out;clear wR bx mA;go_upto_region 17 with fail;have qo:=eC w7 ⟨w1.heap.size,0,none⟩ (.int .i64 x.aQ) fun f=>aP (Cq.out f.1 (bO jb.out f.2)) 0;have qp:=eC w7 ⟨w1.heap.size,1,none⟩ (.slice ak x.ah.length ck) fun f=>aP (Cq.out f.1 (bO jb.out f.2)) 1;have qt:=eC w7 ⟨w1.heap.size,2,none⟩ (.slice al x.aV.length cl) fun f=>aP (Cq.out f.1 (bO jb.out f.2)) 2;have qu:=eC w7 ⟨w1.heap.size,3,none⟩ (.slice ar x.aX.length cr) fun f=>aP (Cq.out f.1 (bO jb.out f.2)) 3;have O7:=eC w7 ⟨w4.heap.size,i,none⟩ (.slice la V lc) fun f=>ao.out f.1 (bO jb.out f.2);refine alR w7 11 (iq.lV [0,1,2,3,4,5] (.one 6 (iq.lV [7,8,9,10] .done))) nK zK fun we pJ=>?_;have HQ:=hid (bz.out we (bO jb.out pJ.out))
       iterate 6 refine gF ?_
       refine aZ rfl ?_;go_wp2_with fail;refine HQ.out.mono ?_;rintro e w8 ⟨ab,cb,E',cp,rfl,ad,ae,mz⟩;obtain⟨rfl,rfl⟩:=Wj.out.uniq ad;have wR:=aR pJ mz;have wQ:=hid ae;rw[<-aT.out] at wQ ⊢;clear ad ae mz HQ;go_wp2_with fail;refine aN (BL w7) (fun _ h=>h) wR.out ?_
       iterate 4 refine gF ?_
       refine bG ?_;try simp only[jW,jH]
       clear qo qp qt qu O7 pJ;have ou:=aR jb wR.out;have aU:=hid (fun X (d:BL w8 X)=>aO.out.keep (aH.below (bO wR.out d)));have aW:=hid (rJ out out _ _ _ _ w8 (aU.out w8 aG) wQ.out);rw[decide_eq_true (rfl:out=out)] at aW;clear wR bz jb aO wQ;have b9:(E !=E)=false:=bH
       go_upto_region 18 with fail;go_wp2_with fail;refine aW.out.mono ?_;rintro e w9 ⟨rfl,bA⟩;have aY:=hid (rF bA);have pX:=aR ou aY.out;have QX:=hid (fun X (d:BL w9 X)=>aU.out X (bO aY.out d));clear bA aW aU ou aY b9;by_cases hE:E=0
       case neg=>
        go_upto_region 20 with fail;go_wp2;go_roundw;case rel=>exact⟨k+1,aD,zG,pX⟩
        exact zI
       subst hE;obtain⟨bE,bF,af⟩:=Wj.out.2.2 rfl;have Jd:on=out.length:=aT.out;have a0:on=V:=by rw[Jd,af.1,pQ.out]
       have a3:on=mk:=by rw[<-GR.out,<-bE,<-af.1];exact Jd
       have cx:dV aa on:=by
        obtain⟨_,_,he,hs, -, -⟩:=(QX.out w9 aG).form;cases he;exact hs
       have HWn:=hid (show l.length=on by rw[a0];exact pQ.out.symm);have bI:=hid (fun(j q:Nat) (hj:j<l.length) (hq:q<l.length)=>am8 bF af hj hq);have cc:=hid (fun(j:Nat) (hj:j<l.length)=>af.at hj);have HN:=hid (show on=V/\on=mk/\on=out.length from ⟨a0,a3,Jd⟩);have bN:=hid (show cs.length=on from GR.out.trans a3.symm);have D:=hid (fun X (d:BL w9 X)=>bO pX.out d);clear bE bF af Jd a0 a3 Wj aT GR b8;go_upto_region 22 with fail;go_loopw [27,28] (fun jj _ wr=>∃j:Nat,j<=on/\jj=.int .i64 (j:Int)/\Hid (BL w9 wr)) (fun jj _ _=>on-(intOf jj).toNat);case atStart=>exact⟨0,aD,rfl,hid aG⟩
       case round=>
        obtain⟨j,hj,rfl,HBj⟩:=hrel;by_cases cy:j<on
        ·have cz:=zN j
         have cd:=zL j on
         have cA:(j:Int)<(V:Int):=by have:=HN.out.1;omega
         have cB:(j:Int)<(mk:Int):=by have:=HN.out.2.1;omega
         generalize wr=wo at*;go_upto_region 25 with fail;go_loopw [28] (fun qq wr=>∃q:Nat,q<=j/\qq=.int .i64 (q:Int)/\Hid (BL w9 wr)) (fun qq _=>j-(intOf qq).toNat);case atStart=>exact⟨0,aD,rfl,HBj⟩
         case round=>
          clear HBj;obtain⟨q,hq,rfl,HBj⟩:=hrel;by_cases Vh:q<j
          ·have rW:=zN q
           have ce:=zL q j
           have cC:=zL q on
           have tZ:(q:Int)<(V:Int):=by have:=HN.out.1;omega
           have cD:(q:Int)<(mk:Int):=by have:=HN.out.2.1;omega
           have hT:=bI.out j q AJ AJ;obtain⟨_,p1,rfl⟩:=eA.getD (QX.out wr HBj.out) 0 (show j<out.length by rw[<-HN.out.2.2];omega);obtain⟨_,p2,rfl⟩:=eA.getD (QX.out wr HBj.out) 0 (show q<out.length by rw[<-HN.out.2.2];omega);obtain⟨_,p3,rfl⟩:=eA.getD (ES.out wr (D.out wr HBj.out)) 0 (show j<cs.length by rw[bN.out];omega);obtain⟨_,p4,rfl⟩:=eA.getD (ES.out wr (D.out wr HBj.out)) 0 (show q<cs.length by rw[bN.out];omega);obtain⟨a1,c1,bP,_,_,e1, -,bQ, -⟩:=Zm.out j AJ;cases e1;obtain⟨a2,c2,bR,_,_,e2, -,bS, -⟩:=Zm.out q AJ;cases e2;have d1:=bP wr (D.out wr HBj.out);have d2:=bR wr (D.out wr HBj.out);have d3:=ao.out wr (D.out wr HBj.out);simp only[fK,fL,zxn] at p3 p4
           have Dt:Hid (∀p:gV wr,_):=hid (fun(p:gV wr)=>Calls.fQ (x:=p) (Ef (tD x (l.getD j [])) (tD x (l.getD q [])) x.aQ ak al ar a1 a2 x.ah.length ck x.aV.length cl x.aX.length cr (l.getD j []).length c1 (l.getD q []).length c2 p.1 (fun Y P=>by
            have:=bQ Y ((D.out wr HBj.out).trans ((p.2.trans (P.mono p.2.size)).mono (D.out wr HBj.out).size));rwa [ai.out] at this) (fun Y P=>by
            have:=bS Y ((D.out wr HBj.out).trans ((p.2.trans (P.mono p.2.size)).mono (D.out wr HBj.out).size));rwa [ai.out] at this) (Cw _ _) (Cw _ _)))
           obtain⟨y0,y1,y2,y3⟩:=b4z (Cq.out wr (D.out wr HBj.out));have hg:=gV.cell (w:=wr);have ch:=kK wr _ y0;have ci:=kK wr _ d1;have vW:=kK wr _ d3;have cm:=kK wr _ p1;have cn:=kK wr _ p3;simp only at ch ci vW cm cn;generalize Hl (tD x (l.getD j [])) (tD x (l.getD q []))=bb at*;generalize (l.getD j []).length=m1 at*;generalize (l.getD q []).length=m2 at*;generalize out.getD j 0=oj at*;generalize out.getD q 0=oq at*;generalize cs.getD j 0=cj at*;generalize cs.getD q 0=cq at*;clear bP bR bQ bS;by_cases ap:cj=cq
           ·subst ap
            have co:(oj==oq)=bb:=by rw[Bool.eq_iff_iff,beq_iff_eq,hT];simp
            have cF:(bb !=bb)=false:=bH
            clear hT;go_upto_region 27 with fail;refine cQ zK zK ?_;repeat (go_big_quiet_step (exact Dt.out _))
            exact Lg
           ·have cG:(cj==cq)=false:=by simpa using ap
            have co:(oj==oq)=false:=by simpa using (fun e=>ap (hT.1 e).1)
            clear hT ap;go_upto_region 27 with fail;refine cQ zK zK ?_;repeat (go_big_quiet_step (fail))
            exact Lg
          ·have ce:¬(q:Int)<(j:Int):=by omega
           obtain⟨kj,bV,e1,e2⟩:=cc.out j AJ;have cI:=bV.1;obtain⟨_,p1,rfl⟩:=eA.getD (QX.out wr HBj.out) 0 (show j<out.length by rw[<-HN.out.2.2];omega);obtain⟨_,p2,rfl⟩:=eA.getD (QX.out wr HBj.out) 0 (show kj<out.length by rw[<-HN.out.2.2];omega);rw[e1] at p1;rw[e2] at p2;have b3:=zN kj
           have bo:=zL kj on
           have cJ:¬(kj:Int)<0:=aD
           have cK:¬(j:Int)<(kj:Int):=aD
           clear e1 e2 bV;go_upto_region 31 with fail;have cL:Hid (∃m,wr=wr.drewN m):=hid ⟨0,rfl⟩;go_quiet (fail);go_wp2;go_roundw;case rel=>exact⟨j+1,aD,zG,hid (aJ HBj.out _)⟩
           exact zI
        ·have cd:¬(j:Int)<(on:Int):=by omega
         go_wp2;go_roundw;case rel=>exact⟨k+1,aD,zG,hid (bO pX.out HBj.out)⟩
         exact zI
      ·have bo:¬(k:Int)<3:=by omega
       go_wp2;go_roundw;case rel=>exact⟨i+1,aD,zG,n⟩
       exact zI
    ·have aB:¬(i:Int)<4:=by omega
     have xX:=hid (bO aj.out (bO PN.out n.out));have Zm:=hid (PW tb wr (xL.out.next xX.out) (I.out.below xX.out I.out.lt ah2));go_wp2_with fail;refine Zm.out.mono ?_;rintro e w9 ⟨rfl,CW⟩;have pX:=aR xX CW;clear CW Zm;go_wp2;go_ret;exact⟨rfl,pX.out⟩
end Go.Proofs.YtohddpbgflgiaaaGreatDoor
