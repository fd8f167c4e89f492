/- Part 19 of the walks and plain laws that the proof needs (packed). -/
import Derived.Test.YtohddpbgflgiaaaGreatDoorQ1
import Derived.Test.YtohddpbgflgiaaaGreatDoorQ12
import Derived.Test.YtohddpbgflgiaaaGreatDoorQ18
set_option linter.all false
set_option maxRecDepth 100000
set_option maxHeartbeats 8000000
namespace Go.Proofs.YtohddpbgflgiaaaGreatDoor
namespace Cz
section
variable {ks:iQ} {a:List (List Nat)} {w v:Wd} (h:rH ks a w v)
include h
theorem rH.ZW{k:Nat}(b:k<w.length):(a.getD k []).length=len w k:=by
 have:=(h.p k b).length_eq;simpa using this
theorem rH.lt{k j:Nat}(b:k<w.length)(c:j<len w k):A a k j<len w k:=by
 have d:j<(a.getD k []).length:=by rw[h.ZW b];exact c
 have e:A a k j∈a.getD k []:=by unfold A;rw[bh d];exact eV _
 have:=(h.p k b).mem_iff.1 e;simpa using this
theorem rH.list{k:Nat}(b:k<w.length):(List.range (len w k)).map (A a k)=a.getD k []:=by
 rw[<-h.ZW b];exact eY _ _
theorem rH.perm{k:Nat}(b:k<w.length):((List.range (len w k)).map (A a k)).Perm (List.range (len w k)):=by
 rw[h.list b];exact h.p k b
theorem rH.inj{k i j:Nat}(b:k<w.length)(c:i<len w k)(d:j<len w k)(e:A a k i=A a k j):i=j:=by
 have f:(a.getD k []).Nodup:=(h.p k b).nodup_iff.2 List.nodup_range;have g:i<(a.getD k []).length:=by rw[h.ZW b];exact c
 have l:j<(a.getD k []).length:=by rw[h.ZW b];exact d
 unfold A at e;rw[bh g,bh l] at e;exact(List.getElem_inj f).1 e
end
structure tB(a:List (List Nat))(w:Wd)(S T:List Row):Prop where
 ls:S.length=w.length
 lt:T.length=w.length
 ns:∀k,k<w.length->(S.getD k []).length=len w k
 nt:∀k,k<w.length->(T.getD k []).length=len w k
 e:∀k j,k<w.length->j<len w k->sg T k j=sg S k (A a k j)
theorem LU{a:List Row}{j:Nat}(h:j<a.length):(tA a).getD j 0=rk a (a.getD j []):=by
 unfold tA;rw[bh Fa,bh h];simp
theorem rH.ajS{ks:iQ}{a:List (List Nat)}{w v:Wd}(h:rH ks a w v){g f:Nat->Nat->Row}(b:∀k j,k<w.length->j<len w k->f k j=g k (A a k j)):
  tB a w ((List.range w.length).map fun k=>tA ((List.range (len w k)).map (g k))) ((List.range v.length).map fun k=>tA ((List.range (len v k)).map (f k))) where
 ls:=bH
 lt:=by simp[h.l]
 ns k hk:=by rw[eW _ _ _ hk];simp[tA]
 nt k hk:=by rw[eW _ _ _ (by rw[h.l];exact hk)];simp[tA,h.n k hk]
 e k j hk hj:=by
  have hA:=h.lt hk hj;unfold sg;rw[eW _ _ _ (by rw[h.l];exact hk),eW _ _ _ hk,h.n k hk,LU BI,LU (by simpa using hA),eW _ _ _ hj,eW _ _ _ hA,b k j hk hj];refine ZV (fun x=>?_) _;have c:=((h.perm hk).map (g k)).mem_iff (a:=x);rw[<-c,alV]
  have:(List.range (len w k)).map (f k)=(List.range (len w k)).map (g k ∘ A a k):=by
   refine zxq fun j hj=>b k j hk BI
  rw[this]
theorem rH.s0{ks:iQ}{a:List (List Nat)}{w v:Wd}(h:rH ks a w v):tB a w (S0 ks w) (S0 ks v):=by
 refine h.ajS fun k j b c=>?_;unfold mask;rw[(h.r k j b c).1,(h.r k (A a k j) b (h.lt b c)).2];refine zxq fun f hf=>?_;have d:f<(ks.getD k []).length:=ah6
 by_cases e:(ks.getD k []).getD f (-2)= -2
 ·rw[if_pos e,if_pos e];exact h.num k j f b c d e
 ·rw[if_neg e,if_neg e]
theorem Pj{ks:iQ}{k:Nat}{p:Nat×Nat}(h:p∈jh ks k):p.1<ks.length/\p.2<(ks.getD p.1 []).length/\fk ks p.1 p.2=k:=by
 unfold jh at h;rw[List.mem_flatMap] at h;obtain⟨b,h1,a⟩:=h;rw[List.mem_map] at a;obtain⟨f,a,rfl⟩:=a;rw[List.mem_filter] at a;exact⟨Wz,by simpa using a.1,by simpa using a.2⟩
theorem rH.own{ks:iQ}{a:List (List Nat)}{w v:Wd}(h:rH ks a w v){S T:List Row}(l:tB a w S T){k f j:Nat}(b:k<w.length)(m:f<(ks.getD k []).length)
  {u:Nat}(r:fk ks k f=u)(o:j<len w u):(kg v T k f j).Perm (kg w S k f (A a u j)):=by
 unfold kg
 have e:((List.range (len v k)).filter (fun i=>decide (cell v k i f=j))).map (sg T k)=(((List.range (len w k)).map (A a k)).filter (fun i=>decide (cell w k i f=A a u j))).map (sg S k):=by
  rw[h.n k b,List.filter_map,alV]
  have p:(List.range (len w k)).filter (fun i=>decide (cell v k i f=j))=(List.range (len w k)).filter ((fun i=>decide (cell w k i f=A a u j)) ∘ A a k):=by
   refine List.filter_congr fun i hi=>?_;have c:i<len w k:=afn
   obtain⟨d,s,g,q⟩:=h.ref k i f b c m aD;simp only[Function.comp,decide_eq_decide];rw[q];rw[show (fk ks k f).toNat=u by omega] at d g ⊢;constructor
   ·intro e;rw[e];rfl
   ·intro e
    have:=h.inj d g o aD;omega
  rw[p];refine zxq fun i hi=>?_;exact l.e k i b (by simpa using (List.mem_filter.1 hi).1)
 rw[e];exact((h.perm b).filter _).map _
theorem rH.next{ks:iQ}{a:List (List Nat)}{w v:Wd}(h:rH ks a w v){S T:List Row}(b:tB a w S T):tB a w (fF ks w S) (fF ks v T):=by
 refine h.ajS fun k j l c=>?_;unfold gJ;rw[b.e k j l c];congr 2
 ·refine zxq fun f d=>?_
  rw[List.mem_filter] at d;obtain⟨g,m,i,n⟩:=h.ref k j f l c (by simpa using d.1) (by simpa using d.2);rw[b.e _ _ g i,n];rfl
 ·have e:∀p∈jh ks k,((kg v T p.1 p.2 j).length:Int)::eU dB (kg v T p.1 p.2 j)=((kg w S p.1 p.2 (A a k j)).length:Int)::eU dB (kg w S p.1 p.2 (A a k j)):=by
   intro p o
   obtain⟨g,m,i⟩:=Pj o
   have:=h.own b (k:=p.1) (f:=p.2) (by rw[h.lk];exact g) m i c
   rw[this.length_eq,Bq gP this]
  exact kN e
theorem tB.perm{ks:iQ}{a:List (List Nat)}{w v:Wd}(h:rH ks a w v){S T:List Row}(c:tB a w S T){k:Nat}(b:k<w.length):(T.getD k []).Perm (S.getD k []):=by
 have d:T.getD k []=((List.range (len w k)).map (A a k)).map (sg S k):=by
  rw[<-eY (T.getD k []) 0,c.nt k b,alV];exact zxq fun j hj=>c.e k j b BI
 have f:S.getD k []=(List.range (len w k)).map (sg S k):=by
  rw[<-c.ns k b];exact(eY _ _).symm
 rw[d];conv=>rhs;rw[f]
 exact(h.perm b).map _
section
variable {ks:iQ} {a:List (List Nat)} {w v:Wd} (h:rH ks a w v)
include h
theorem tB.fold{d:Type}{S T:List Row}(b:tB a w S T)(g:Row->d)(e:∀l c:Row,l.Perm c->g l=g c):S.map g=T.map g:=by
 rw[kO S [],kO T [],b.ls,b.lt,alV,alV];refine zxq fun k hk=>?_;exact(e _ _ (b.perm h abo)).symm
theorem tB.diff{S T:List Row}(b:tB a w S T):diff S=diff T:=by
 unfold Cz.diff;rw[b.fold h (fun l=>(dU dB l).length) (fun l d c=>by rw[qh gP fun x=>c.mem_iff])]
theorem tB.arr{S T:List Row}(b:tB a w S T):arr S=arr T:=by
 have e:∀S:List Row,Cz.arr S=(S.map (eO fun _=>0)).foldr (·*·) 1:=by
  intro S;unfold Cz.arr;rw[List.foldr_map]
 rw[e,e,b.fold h _ (fun l d c=>xS c _)]
theorem rH.total:total v=total w:=by
 unfold Cz.total;rw[kO v [],kO w [],h.l,alV,alV];congr 1;refine zxq fun k hk=>?_;exact h.n k abo
theorem rH.qv(n:Nat):∀{S T:List Row},tB a w S T->tB a w (qv ks w n S) (qv ks v n T):=by
 induction n with
 |zero=>intro S T b;exact b
 |succ n ih=>
  intro S T b
  unfold Cz.qv
  have c:=h.next b
  rw[b.diff h,c.diff h]
  split
  ·exact c
  ·exact ih c
theorem rH.sorts:tB a w (sorts ks w) (sorts ks v):=by
 unfold Cz.sorts;rw[h.total];exact h.qv _ h.s0
end
def comp(w:Wd)(a b:List (List Nat)):List (List Nat):=(List.range w.length).map fun k=>(b.getD k []).map (A a k)
theorem G5{g:Nat->Nat}{x:Nat}:∀{l:List Nat},(∀y∈l,g x=g y->x=y)->(l.map g).idxOf (g x)=l.idxOf x
 |[],_=>rfl
 |y::t,h=>by
  rw[zxt,List.idxOf_cons,List.idxOf_cons,G5 fun z a=>h z (by simp[a])]
  have:(g y==g x)=(y==x):=by
   rw[Bool.eq_iff_iff];constructor
   ·intro q;exact beq_iff_eq.2 (h y bH (beq_iff_eq.1 q).symm).symm
   ·intro q;rw[beq_iff_eq.1 q];exact beq_self_eq_true _
  rw[this]
theorem rH.comp{ks:iQ}{a b:List (List Nat)}{w v:Wd}(h:rH ks a w v)(m:∀k,k<w.length->(b.getD k []).Perm (List.range (len w k))):
  bN ks v b=bN ks w (comp w a b):=by
 unfold bN;rw[h.l];refine zxq fun k hk=>?_;have hk:k<w.length:=abo
 unfold Cz.comp;rw[eW _ _ _ hk,alV];refine zxq fun i c=>?_;have c:i<len w k:=by simpa using (m k hk).mem_iff.1 c
 have hA:=h.lt hk c;simp only[Function.comp];rw[(h.r k i hk c).1,(h.r k _ hk hA).2];refine zxq fun f hf=>?_;have hf:f<(ks.getD k []).length:=ah6
 unfold val;by_cases e:fk ks k f= -2
 ·rw[if_pos e,if_pos e,h.num k i f hk c hf e]
 ·rw[if_neg e,if_neg e]
  by_cases d:fk ks k f= -1
  ·rw[if_pos d,if_pos d]
  ·rw[if_neg d,if_neg d]
   have:=h.code k f;obtain⟨g,q,n,o⟩:=h.ref k i f hk c hf aD;rw[eW _ _ _ g,o,zxk,G5];intro y j p;have j:y<len w (fk ks k f).toNat:=by simpa using (m _ g).mem_iff.1 j
   exact h.inj g n j p
theorem rH.ord{ks:iQ}{a:List (List Nat)}{w v:Wd}(h:rH ks a w v){S T:List Row}(d:tB a w S T){k:Nat}(c:k<w.length){o:List Nat}
  (f:o.Perm (List.range (len w k))):Br (T.getD k []) o↔Br (S.getD k []) (o.map (A a k)):=by
 unfold Br;rw[d.nt k c,d.ns k c,Bq gP (d.perm h c)];have i:o.length=len w k:=by simpa using f.length_eq
 have e:∀j,j<len w k->(T.getD k []).getD (o.getD j 0) 0=(S.getD k []).getD ((o.map (A a k)).getD j 0) 0:=by
  intro j b;rw[getD_map _ _ 0 _ (by rw[i];exact b)];refine d.e k _ c ?_;have:o.getD j 0∈o:=by rw[bh (by rw[i];exact b)];exact eV _
  simpa using f.mem_iff.1 this
 constructor
 ·rintro ⟨-,g⟩
  exact⟨(f.map _).trans (h.perm c),fun j b=>by rw[<-e j b];exact g j b⟩
 ·rintro ⟨-,g⟩
  exact⟨f,fun j b=>by rw[e j b];exact g j b⟩
theorem rH.same{ks:iQ}{a:List (List Nat)}{w v:Wd}(h:rH ks a w v){S T:List Row}(d:tB a w S T)(u:Wd):
  u∈(lK T []).map (bN ks v)↔u∈(lK S []).map (bN ks w):=by
 simp only[List.mem_map];constructor
 ·rintro ⟨b,m,rfl⟩
  obtain⟨t,o⟩:=vJ.1 m
  have q:∀k,k<w.length->(b.getD k []).Perm (List.range (len w k)):=fun k hk=>by
   have:=(o k (by rw[d.lt];exact hk)).1;rwa [d.nt k hk] at this
  refine⟨Cz.comp w a b,vJ.2 ⟨by rw[d.ls];simp[Cz.comp],fun k hk=>?_⟩,(h.comp q).symm⟩;rw[d.ls] at hk;unfold Cz.comp;rw[eW _ _ _ hk];exact(h.ord d hk (q k hk)).1 (o k (by rw[d.lt];exact hk))
 ·rintro ⟨c,s,rfl⟩
  obtain⟨c1,c2⟩:=vJ.1 s
  have f:∀k,k<w.length->(c.getD k []).Perm (List.range (len w k)):=fun k hk=>by
   have:=(c2 k (by rw[d.ls];exact hk)).1;rwa [d.ns k hk] at this
  have key:∀k,k<w.length->((c.getD k []).map fun i=>(a.getD k []).idxOf i).map (A a k)=c.getD k []:=by
   intro k hk;rw[alV];conv=>rhs;rw[<-List.map_id (c.getD k [])]
   refine zxq fun i hi=>?_;have hi:i<len w k:=by simpa using (f k hk).mem_iff.1 hi
   simp only[Function.comp,id,A];exact RE ((h.p k hk).mem_iff.2 afn)
  obtain⟨b,m⟩:∃b:List (List Nat),b=(List.range w.length).map fun k=>(c.getD k []).map fun i=>(a.getD k []).idxOf i:=⟨_,rfl⟩;have g:∀k,k<w.length->b.getD k []=(c.getD k []).map fun i=>(a.getD k []).idxOf i:=fun k hk=>by rw[m,eW _ _ _ hk]
  have l:∀k,k<w.length->(b.getD k []).Perm (List.range (len w k)):=by
   intro k hk;rw[g k hk];refine DW (by simpa using (f k hk).length_eq) (fun i hi=>?_) ?_
   ·rw[List.mem_map] at hi
    obtain⟨x,hx,rfl⟩:=hi;have hx:x<len w k:=by simpa using (f k hk).mem_iff.1 hx
    have:=List.idxOf_lt_length_of_mem ((h.p k hk).mem_iff.2 (by simpa using hx));rwa [h.ZW hk] at this
   ·have r:(c.getD k []).Nodup:=(f k hk).nodup_iff.2 List.nodup_range
    rw[<-key k hk] at r;exact List.Pairwise.of_map (A a k) (fun x y n e=>n ah4) r
  have j:Cz.comp w a b=c:=by
   unfold Cz.comp;conv=>rhs;rw[kO c [],c1,d.ls]
   refine zxq fun k hk=>?_;have hk:k<w.length:=abo
   rw[g k hk];exact key k hk
  refine⟨b,vJ.2 ⟨by rw[m,d.lt];simp,fun k hk=>?_⟩,by rw[h.comp l,j]⟩;rw[d.lt] at hk;refine(h.ord d hk (l k hk)).2 ?_;rw[g k hk,key k hk];exact c2 k (by rw[d.ls];exact hk)
theorem Pm{l a:List Wd}(h:∀u,u∈l↔u∈a):best l=best a:=by
 by_cases e:l=[]
 ·subst e
  cases a with
  |nil=>rfl
  |cons v t=>exact absurd ((h v).2 bH) bH
 ·have c:a≠[]:=by
   rintro rfl
   cases l with
   |nil=>exact e rfl
   |cons v t=>exact absurd ((h v).1 bH) bH
  obtain⟨m,d,f,g⟩:=Ap e;obtain⟨b,i,j,k⟩:=Ap c;have:=g b ((h b).2 j);have:=k m ((h m).1 f);have n:=l8.anti b m;rw[d,i,l8.eq m b aD]
theorem rH.canon{ks:iQ}{a:List (List Nat)}{w v:Wd}(h:rH ks a w v):canon ks v=canon ks w:=by
 have b:=h.sorts;unfold Cz.canon;rw[<-b.arr h,Pm (h.same b)]
end Cz
end Go.Proofs.YtohddpbgflgiaaaGreatDoor
namespace Go.Proofs.YtohddpbgflgiaaaGreatDoor
open Go.RowKit
theorem VH(x:aC.cE){n o:Int}(c:n≠0)(p:o≠0)(q k:Option Cz.Wd)(v y z:Value)(S:Nat->Prop)(w:World)(A:dO S w v x)(B:∀V,BL w V->CP 24 #[v,y] V (VG n q V))(D:∀V,BL w V->CP 24 #[v,z] V (VG o k V)):
  CB 8 #[v,y,z] w (.bool (Hl q k)):=by
 obtain⟨W,X,Y,Z,ar,cr,w1,rfl,d,l,E,L,M,N,O,P,r,s,Q⟩:=jC w x v S A;have f:=hid (fun V (t:BL w1 V)=>B V (bO l.out t));have g:=hid (fun V (t:BL w1 V)=>D V (bO l.out t));have F:=hid d;obtain⟨G,H,I,J⟩:=b4z (E.out w1 aG);clear A r s Q d B D M;go_enter Tryz.func8,Tryz.ntmps8;go_upto_region 1 with fail;rw[F.out];clear F;go_wp2_with fail;refine(f.out w1 aG).mono ?_;rintro e w2 ⟨h,i⟩;have m:=hid i;clear G H I J i;obtain⟨G,H,I,J⟩:=b4z (E.out w2 m.out);have j:=hid (g.out w2 m.out);clear f g;cases q with
 |none=>
  obtain rfl:=h
  have R:(n==0)=false:=by simpa using c
  go_wp2_with fail
  refine j.out.mono ?_
  rintro e w3 ⟨b,a⟩
  have cN:=hid (bO l.out (bO m.out a))
  clear a c
  cases k with
  |none=>
   obtain rfl:=b
   exact adz
  |some C=>
   obtain⟨u3,rfl, -⟩:=b
   exact adz
 |some C2=>
  obtain⟨u2,rfl,h⟩:=h
  have T:=hid h
  clear h
  go_wp2_with fail
  refine j.out.mono ?_
  rintro e w3 ⟨b,a⟩
  have cN:=hid (bO l.out (bO m.out a))
  have u:=hid (bK.keep T.out (aH.below a))
  clear a
  cases k with
  |none=>
   obtain rfl:=b
   have R:(o==0)=false:=by simpa using p
   exact adz
  |some C3=>
   obtain⟨u3,rfl,b⟩:=b
   have U:=hid b
   clear b
   go_wp2_with fail
   refine(EC C2 C3 u2 u3 _ _ w3 u.out U.out).mono ?_
   rintro e w4 ⟨rfl,K⟩
   have gX:=hid (bO cN.out (rF K))
   clear K
   exact aeQ
theorem adp{x:aC.cE}(c:aC.eT x){W V:aC.dw}(d:bU.jE x W)(a:aC.okB x=true)(f:x.ah.length<=6)(h5:∀k,Cz.len W k<=5)(h:∃o,Cz.rH (aM x) o W V):zJ x V=zJ x W/\tD x V=tD x W/\zJ x W=4:=by
 obtain⟨o,hi⟩:=h
 have b:∀k,Cz.len V k<=5:=fun k=>by
  exact afb
 have g:=EL a c f hi.fit b;have e:∀{U},bU.jE x U->AF x U=true:=fun {U} h=>by unfold AF;rw[decide_eq_true h.len,(bU.qV.1 h).2];rfl
 unfold zJ tD;rw[e g,e d];exact⟨rfl,by rw[if_pos rfl,if_pos rfl];exact hi.canon,rfl⟩
theorem mM.gen{r:Option Cz.Wd}{w:World}{e:Ending}{w':World}(h:mM 4 r w e w'):∃a c,e=.returned (.tuple #[.slice a (r.getD []).length c,.int .i64 (if r.isSome=true then 0 else 4)])/\bK dr w' (.slice a (r.getD []).length c) (r.getD [])/\BL w w':=by
 obtain⟨d,f⟩:=h;cases r with
 |none=>exact⟨none,0,d,eA.nil _ _ _,f⟩
 |some v=>
  obtain⟨a,n,c,rfl,b⟩:=d
  have b:=bK.mono (cM.sl b) (S':=dr) (fun _ _ _=>trivial)
  obtain⟨g,i,j, -, -, -⟩:=b.form
  obtain⟨rfl,rfl,rfl⟩:a=g/\n=v.length/\c=i:=by simpa using j
  exact⟨a,c,rfl,b,f⟩
theorem VN(r:Option Cz.Wd):Hl r r=decide ((if r.isSome=true then (0:Int) else 4)=0):=by
 cases r with
 |none=>rfl
 |some v=>exact(decide_eq_true rfl).trans (decide_eq_true rfl).symm
theorem calike_any(L M N Q:List Int)(hL:Fit L)(hM:Fit M)(hN:Fit N)(hQ:Fit Q)(a b:Int)(ao:(-9223372036854775808<=a/\a<=9223372036854775807)/\(-9223372036854775808<=b/\b<=9223372036854775807))(v0 v1 v2 v3:Value)(tb:Nat)(w:World)
  (ap:bB dr w v0 L)(aq:bB dr w v1 M)(au:bB dr w v2 N)(av:bB dr w v3 Q)(y:LaidW w)(ab:TabC tb w):
  CB 3 #[v0,v1,v2,v3,.int .i64 a,.int .i64 b] w (.bool true):=by
 have HS:=hid (NS L hL v0 w ap);have xL:=hid y;have C:=hid ab
 have K5:=hid (fun(x:aC.cE) (J:aC.okB x=true) (h2:aC.eT x) (h3:x.ah.length<=6) (h4:0<x.ah.length) (h5:∀k∈x.ah,k.aF.length<=10) (h6:∀k (h:k<x.ah.length),0<x.ah[k].aF.length) (xv:Value) (S:Nat->Prop) (X:World) (g:BL w X) (hx:dO S X xv x)=>
  abk x J h2 h3 h4 h5 h6 M N Q hM hN hQ a b ao xv v1 v2 v3 S dr X hx (aq.keep (aH.below g)) (au.keep (aH.below g)) (av.keep (aH.below g)))
 clear ap aq au av y ab hL hM hN hQ ao;go_enter Tryz.func3,Tryz.ntmps3;go_wp2_with fail;refine HS.out.mono ?_;rintro e w1 ⟨sv,x,rfl,K,ZJ,ax⟩;have bL:Hid (BL w w1):=hid ax;obtain⟨ak,ck,al,cl,ar,cr,rfl, -, -, -,aW, -, -⟩:=ZJ.form;have q:=aC.abV K;have s:=aC.abS K;have DC:=bU.uD (bU.Ah q).1;have ad:∀k∈x.ah,k.aF.length<=10:=fun k hk=>(bU.pE (DC.2.2.2 k hk)).1;have h6:x.ah.length<=6:=DC.1;have h0:0<x.ah.length:=K.some;have D:∀k (h:k<x.ah.length),0<x.ah[k].aF.length:=fun k h=>K.ah.pos _ (eV h);obtain⟨xv,TQ⟩:∃z:Value,z=.agg (sBx x ak al ar ck cl cr):=⟨_,rfl⟩;have t:=hid TQ;obtain⟨w2,v⟩:=bJ (fJ w1 x.aQ (.slice ak x.ah.length ck) (.slice al x.aV.length cl) (.slice ar x.aX.length cr));have cH:=yL v;have HX:Hid (∀X,BL w2 X->X.heap[w1.heap.size]?=some (.cells (sBx x ak al ar ck cl cr) 27 (0,0))):=hid (fun X g=>(g.block _ (by rw[v];simp[fJ])).trans (by rw[v];exact jt ..));unfold fJ at v;have aY:=hid v;have ae:=aR bL cH.out;have P:=hid (fun X (g:BL w2 X)=>dO.mono (S':=dr) (ZJ.keep (aH.below (bO cH.out g))) (fun _ _ _=>trivial))
 have J3:Hid (∀(X:World) (W:aC.dw) (aw:Option Addr) (cw:Nat),BL w2 X->bK dr X (.slice aw W.length cw) W->tu tb x W xv (.slice aw W.length cw) X.heap.size X):=hid (fun X W aw cw g hw=>by
  have R:=bO ae.out g;rw[TQ]
  exact
   {xk:=dO.mono (P.out X g) (fun b h _=>h)
    ze:=bK.mono hw (fun b h _=>h)
    laid:=xL.out.next R
    tab:=C.out.below R C.out.lt ah2
    tbB:=oN C.out.lt R.size
    size:=zxb xL.out.size R.size
    le:=aL})
 have ay:Hid (∀(X:World) (W:aC.dw) (u:Value),BL w2 X->abf x W->bK dr X u W->alz x xv X u W):=hid (fun X W u g hW hu=>by
  obtain⟨aw,cw,rfl, -, -, -⟩:=hu.form;refine⟨aw,cw,rfl,fun Y l=>hu.keep (aH.below l),fun Y l=>?_,fun Y l=>?_⟩
  ·have hA:=J3.out Y W aw cw (bO g l) (hu.keep (aH.below l))
   rw[TQ] at hA ⊢;exact abg x q s ad h6 h0 W hW ak al ar aw ck cl cr cw tb Y hA
  ·have T:=P.out Y (bO g l)
   rw[<-TQ] at T;exact abh x q s h0 D W hW xv _ dr dr Y T (hu.keep (aH.below l)))
 have Bj:=hid (K5.out x q s h6 h0 ad D _ dr w2 ae.out (P.out w2 aG));have az:=hid (fun(A TA B TB O:aC.dw) (h:ado x A TA B TB O)=>h.law q s h6);have Ns:=hid (fun(W V:aC.dw) (J:bU.jE x W) (h5:∀k,Cz.len W k<=5) (h:∃o,Cz.rH (aM x) o W V)=>adp s J q h6 h5 h);obtain⟨y0,y1,y2,y3⟩:=b4z (HX.out w2 aG);clear ax ZJ q K HS DC s ad h6 h0 D aW v TQ K5;go_upto_region 2 with fail;rw[<-aY.out];go_wp2_with fail;refine Bj.out.mono ?_;rintro e w3 ⟨wv,A,TA,B,TB,O,rfl,af,CV,aA⟩;have cN:=hid aA;have ai:=hid af;have aj:=az.out A TA B TB O af;obtain⟨c,U⟩:=bJ ([A,TA,B,TB,O,[]]);rw[<-U] at CV aj;have Nr:c.length=6:=by rw[U];rfl
 obtain⟨ag,cg,rfl,a0, -, -⟩:=CV.form;rw[Nr] at CV a0 ⊢
 have HC:Hid (∀j (h:j<c.length),∃u,(∀X,BL w3 X->X.cell? ⟨bM ag,bT ag+j,none⟩=some u)/\alz x xv w3 u c[j]):=hid (fun j h=>by
  obtain⟨u,hu,hl,hr⟩:=CV.at h;exact⟨u,fun X g=>(g.cell (p:=⟨bM ag,bT ag+j,none⟩) hl).trans hu,ay.out w3 _ u cN.out (aj _ (eV h)) hr⟩)
 have Mj:=hid Nr;have am:=hid U;clear af aj CV Nr U aA Bj az ay J3 y0 y1 y2 y3
 have a5:Hid (∀i (_:i=0\/i=2) (J:i<c.length) (h2:i+1<c.length),zJ x c[i]=4/\zJ x c[i+1]=4/\tD x c[i+1]=tD x c[i]):=hid (fun i h J h2=>by
  have T:=ai.out;have e:=am.out;have ha:=Ns.out A TA T.a.1 T.a.2 T.ta;have hb:=Ns.out B TB T.b.1 T.b.2 T.tb;clear am HC ai Ns;subst e;rcases h with rfl|rfl
  ·exact⟨ha.2.2,ha.1.trans ha.2.2,ha.2.1⟩
  ·exact⟨hb.2.2,hb.1.trans hb.2.2,hb.2.1⟩)
 clear am ai Ns;go_upto_region 4 with fail;go_loopw [15,16] (fun ii _ wr=>∃i:Nat,i<=6/\ii=.int .i64 (i:Int)/\Hid (BL w3 wr)) (fun ii _ _=>6-(intOf ii).toNat);case atStart=>exact⟨0,aD,rfl,hid aG⟩
 case round=>
  obtain⟨i,hi,rfl,f⟩:=hrel;by_cases hit:i<6
  ·have a6:=zN i
   have Z:(i:Int)<6:=aD
   generalize wr=wo at*;go_upto_region 7 with fail;go_loopw [16] (fun kk wr=>∃k:Nat,k<=6/\kk=.int .i64 (k:Int)/\Hid (BL w3 wr)) (fun kk _=>6-(intOf kk).toNat);case atStart=>exact⟨0,aD,rfl,f⟩
   case round=>
    clear f;obtain⟨k,hk,rfl,f⟩:=hrel;by_cases a7:k<6
    ·have be:=zN k
     have a8:(k:Int)<6:=aD
     have ox:i<c.length:=by rw[Mj.out];exact hit
     have iy:k<c.length:=by rw[Mj.out];exact a7
     obtain⟨_,E,a1,c1,rfl, -,m,aB⟩:=HC.out i ox;obtain⟨_,F,a2,c2,rfl, -,n,wu⟩:=HC.out k iy;have d1:=E wr f.out;have d2:=F wr f.out
     have Dt:Hid (∀p:gV wr,_):=hid (fun(p:gV wr)=>Calls.fQ (x:=p) (Ef (tD x c[i]) (tD x c[k]) x.aQ ak al ar a1 a2 x.ah.length ck x.aV.length cl x.aX.length cr c[i].length c1 c[k].length c2 p.1 (fun Y l=>by
      have:=m Y (f.out.trans ((p.2.trans (l.mono p.2.size)).mono f.out.size));rwa [t.out] at this) (fun Y l=>by
      have:=n Y (f.out.trans ((p.2.trans (l.mono p.2.size)).mono f.out.size));rwa [t.out] at this) (Cw _ _) (Cw _ _)))
     have G:Hid (∀p:gV wr,_):=hid (fun(p:gV wr)=>Calls.fQ (x:=p) (VH x (Cw x c[i]) (Cw x c[k]) (tD x c[i]) (tD x c[k]) _ (.slice a1 c[i].length c1) (.slice a2 c[k].length c2) dr p.1 (P.out p.1 (bO cN.out (bO f.out p.2))) (fun Y l=>by
      have:=aB Y (f.out.trans ((p.2.trans (l.mono p.2.size)).mono f.out.size));rwa [t.out] at this) (fun Y l=>by
      have:=wu Y (f.out.trans ((p.2.trans (l.mono p.2.size)).mono f.out.size));rwa [t.out] at this)))
     obtain⟨y0,y1,y2,y3⟩:=b4z (HX.out wr (bO cN.out f.out));have K:=gV.cell (w:=wr);have H:=kK wr _ y0;have I:=kK wr _ d1;simp only at H I;have a9:∀b:Bool,(b !=b)=false:=bH
     clear E F m n aB wu;generalize Hl (tD x c[i]) (tD x c[k])=bb at*;generalize c[i].length=n1 at*;generalize c[k].length=n2 at*;clear ox iy;go_upto_region 9 with fail;refine cQ zK zK ?_;repeat (go_big_quiet_step (with_reducible first|exact Dt.out _|exact G.out _))
     refine iU ?_;intro w4 hx;have aE:=eP hx;have gX:=aR f aE;clear hx aE K Dt G y0 y1 y2 y3 H I d1 d2;go_wp2;go_roundw;case rel=>exact⟨k+1,aD,zG,gX⟩
     exact zI
    ·have a8:¬(k:Int)<6:=by omega
     go_wp2;go_roundw;case rel=>exact⟨i+1,aD,zG,f⟩
     exact zI
  ·have Z:¬(i:Int)<6:=by omega
   generalize wr=wo at*;go_upto_region 12 with fail;go_loopw [17,18,19,20,21] (fun ii _ _ _ _ wr=>∃i:Nat,(i=0\/i=2\/i=4)/\ii=.int .i64 (i:Int)/\Hid (BL w3 wr)) (fun ii _ _ _ _ _=>4-(intOf ii).toNat);case atStart=>exact⟨0,.inl rfl,rfl,f⟩
   case round=>
    clear f hi hit Z;obtain⟨i,hi,rfl,f⟩:=hrel;have zP:=hid (bO ae.out (bO cN.out f.out));by_cases h4:i=4
    ·have Z:¬(i:Int)<4:=by omega
     have Zm:=hid (PW tb wr (xL.out.next zP.out) (C.out.below zP.out C.out.lt ah2));go_wp2_with fail;refine Zm.out.mono ?_;rintro e w9 ⟨rfl,CW⟩;have pX:=aR zP CW;clear CW Zm;go_wp2;go_ret;exact⟨rfl,pX.out⟩
    ·have ba:i=0\/i=2:=by omega
     have a6:=zN i
     have Z:(i:Int)<4:=aD
     have bf:(i:Int)<6:=aD
     have bg:(0:Int)<=(i:Int)+1:=aD
     have bh:(i:Int)+1<6:=aD
     have J:i<c.length:=by rw[Mj.out];omega
     have h2:i+1<c.length:=by rw[Mj.out];omega
     obtain⟨q1,q2,q3⟩:=a5.out i ba J h2;obtain⟨_,E,a1,c1,rfl, -,m, -⟩:=HC.out i J;obtain⟨_,F,a2,c2,rfl, -,n, -⟩:=HC.out (i+1) h2;rw[q1,t.out] at m;rw[q2,q3,t.out] at n;obtain⟨r,hr⟩:=bJ (tD x c[i]);rw[<-hr] at m n;obtain⟨z,hz⟩:∃z:Int,z=if r.isSome=true then 0 else 4:=⟨_,rfl⟩;obtain⟨V,hV⟩:=bJ (r.getD []);have Um:=hid (fun X (g:BL w3 X)=>(m X g).mono fun e w' h=>h.gen);have Nq:=hid (fun X (g:BL w3 X)=>(n X g).mono fun e w' h=>h.gen);have J4:=hid (fun X (g:BL w3 X)=>Ef r r x.aQ ak al ar a1 a2 x.ah.length ck x.aV.length cl x.aX.length cr c[i].length c1 c[i+1].length c2 X (fun Y l=>m Y (bO g l)) (fun Y l=>n Y (bO g l)) iG iG);rw[VN] at J4;rw[<-hz] at Um Nq J4;rw[<-hV] at Um Nq;have aI:=hid E;have JV:=hid F;clear E F m n hr hz hV q1 q2 q3 hi;generalize c[i].length=n1 at*;generalize c[i+1].length=n2 at*;clear J h2;have xX:=aR cN f.out;go_upto_region 14 with fail;have qo:=eC wr ⟨w1.heap.size,0,none⟩ (.int .i64 x.aQ) fun d=>aP (HX.out d.1 (bO xX.out d.2)) 0;have qp:=eC wr ⟨w1.heap.size,1,none⟩ (.slice ak x.ah.length ck) fun d=>aP (HX.out d.1 (bO xX.out d.2)) 1;have qt:=eC wr ⟨w1.heap.size,2,none⟩ (.slice al x.aV.length cl) fun d=>aP (HX.out d.1 (bO xX.out d.2)) 2;have qu:=eC wr ⟨w1.heap.size,3,none⟩ (.slice ar x.aX.length cr) fun d=>aP (HX.out d.1 (bO xX.out d.2)) 3;have an:=eC wr ⟨bM ag,bT ag+i,none⟩ (.slice a1 n1 c1) fun d=>aI.out d.1 (bO f.out d.2);refine alR wr 10 (iq.lV [0,1,2,3,4] (.one 5 (iq.lV [6,7,8,9] .done))) nK zK fun w4 fH=>?_;have aJ:=hid (Um.out w4 (bO f.out fH.out))
     iterate 5 refine gF ?_
     refine aZ rfl ?_;go_wp2_with fail;refine aJ.out.mono ?_;rintro e w5 ⟨a3,c3,rfl,rI,jZ⟩;have I8:=aR fH jZ;have aK:=hid rI;clear rI jZ aJ;go_wp2_with fail;refine aN (BL wr) (fun _ h=>h) I8.out ?_
     iterate 4 refine gF ?_
     refine bG ?_;try simp only[jW,jH]
     clear qo qp qt qu an;have iH:=aR f I8.out;have aa:=aR cN iH.out;clear fH I8;go_upto_region 15 with fail;have qo:=eC w5 ⟨w1.heap.size,0,none⟩ (.int .i64 x.aQ) fun d=>aP (HX.out d.1 (bO aa.out d.2)) 0;have qp:=eC w5 ⟨w1.heap.size,1,none⟩ (.slice ak x.ah.length ck) fun d=>aP (HX.out d.1 (bO aa.out d.2)) 1;have qt:=eC w5 ⟨w1.heap.size,2,none⟩ (.slice al x.aV.length cl) fun d=>aP (HX.out d.1 (bO aa.out d.2)) 2;have qu:=eC w5 ⟨w1.heap.size,3,none⟩ (.slice ar x.aX.length cr) fun d=>aP (HX.out d.1 (bO aa.out d.2)) 3;have an:=eC w5 ⟨bM ag,bT ag+(i+1),none⟩ (.slice a2 n2 c2) fun d=>JV.out d.1 (bO iH.out d.2);refine alR w5 11 (iq.lV [0,1,2,3,4,5] (.one 6 (iq.lV [7,8,9,10] .done))) nK zK fun w6 fH=>?_;have aO:=hid (Nq.out w6 (bO iH.out fH.out))
     iterate 6 refine gF ?_
     refine aZ rfl ?_;go_wp2_with fail;refine aO.out.mono ?_;rintro e w7 ⟨a4,c4,rfl,aS,mI⟩;have pJ:=aR fH mI;have bc:=hid aS;clear aS mI aO;go_wp2_with fail;refine aN (BL w5) (fun _ h=>h) pJ.out ?_
     iterate 4 refine gF ?_
     refine bG ?_;try simp only[jW,jH]
     clear qo qp qt qu an;have jb:=aR iH pJ.out;have aT:=aR cN jb.out;have aU:=hid (aK.out.keep (aH.below pJ.out));clear fH pJ aK;obtain⟨y0,y1,y2,y3⟩:=b4z (HX.out w7 aT.out);have d1:=aI.out w7 jb.out;have d2:=JV.out w7 jb.out;have K:=gV.cell (w:=w7);have H:=kK w7 _ y0;have I:=kK w7 _ d1;simp only at H I;have bi:(z !=z)=false:=abA rfl;have bj:(decide (z=0) !=(z==0))=false:=by by_cases h:z=0<;>simp[h]
     have bd:(decide (z=0)==(z==0))=true:=by by_cases h:z=0<;>simp[h]
     have Dt:Hid (∀p:gV w7,_):=hid (fun(p:gV w7)=>Calls.fQ (x:=p) ((EC V V _ _ _ _ p.1 (aU.out.keep (aH.below p.2)) (bc.out.keep (aH.below p.2))).mono fun e w' h=>⟨h.1,rF h.2⟩));rw[decide_eq_true (rfl:V=V)] at Dt;have G:Hid (∀p:gV w7,_):=hid (fun(p:gV w7)=>Calls.fQ (x:=p) (J4.out p.1 (bO jb.out p.2)));have a9:∀b:Bool,(b !=b)=false:=bH
     generalize V.length=nV at*;go_upto_region 16 with fail;refine cQ zK zK ?_;repeat (go_big_quiet_step (with_reducible first|exact Dt.out _|exact G.out _))
     refine iU ?_;intro w8 hx;have mz:=eP hx;have ou:=aR jb mz;clear hx mz K Dt G y0 y1 y2 y3 H I d1 d2;go_wp2;go_roundw;case rel=>exact⟨i+2,aD,zG,ou⟩
     exact zI
end Go.Proofs.YtohddpbgflgiaaaGreatDoor
