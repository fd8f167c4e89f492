/- Part 13 of the walks and plain laws that the proof needs (packed). -/
import Derived.Test.YtohddpbgflgiaaaGreatDoorQ1
import Derived.Test.YtohddpbgflgiaaaGreatDoorQ6
import Derived.Test.YtohddpbgflgiaaaGreatDoorQ10
import Derived.Test.YtohddpbgflgiaaaGreatDoorQ11
import Derived.Test.YtohddpbgflgiaaaGreatDoorQ12
set_option linter.all false
set_option maxRecDepth 100000
set_option maxHeartbeats 8000000
open Go.Proofs.Tryz
namespace Go.Proofs.YtohddpbgflgiaaaGreatDoor
open Go.RowKit
def iE(x:aC.cE)(k j:Nat):Int:=if (aC.fd x k j).kind=0 then -1 else if (aC.fd x k j).kind=1 then aC.eD x k j else -2
def aM(x:aC.cE):Cz.iQ:=(List.range x.ah.length).map fun(k:Nat)=>(List.range (aC.kd x k).aF.length).map fun(j:Nat)=>iE x k j
theorem jc(x:aC.cE):(aM x).length=x.ah.length:=by simp[aM]
theorem RM(x:aC.cE){k:Nat}(a:k<x.ah.length):(aM x).getD k []=(List.range (aC.kd x k).aF.length).map fun(j:Nat)=>iE x k j:=by
 unfold aM;exact Cz.eW _ _ _ a
theorem dJ(x:aC.cE){k:Nat}(a:k<x.ah.length):((aM x).getD k []).length=(aC.kd x k).aF.length:=by
 rw[RM x a];simp
theorem mg(x:aC.cE){k j:Nat}(a:k<x.ah.length)(b:j<(aC.kd x k).aF.length):Cz.fk (aM x) k j=iE x k j:=by
 unfold Cz.fk;rw[RM x a];exact Cz.eW _ _ _ b
theorem Mc(x:aC.cE)(k j:Nat): -2<=Cz.fk (aM x) k j:=by
 by_cases a:k<x.ah.length
 ·by_cases b:j<(aC.kd x k).aF.length
  ·rw[mg x a b]
   unfold iE;have:=aC.Yu x k j;split
   ·omega
   ·split<;>omega
  ·unfold Cz.fk
   rw[iY,zxr (by rw[dJ x a];omega)];simp
 ·unfold Cz.fk
  rw[iY (l:=aM x),zxr (by rw[jc];omega)];simp
theorem Md{x:aC.cE}{W:aC.dw}(h:aC.Jk x W):Cz.nH (aM x) W where
 lk:=by rw[jc];exact h.len
 code:=Mc x
 r k i hk hi:=by
  have a:i<W[k].length:=Cy
  rw[dJ x WR];unfold Cz.row;rw[Cz.bh hk,Cz.bh a];exact(h.lX k hk _ (eV a)).1
 ref k i f hk hi hf hr:=by
  have b:k<x.ah.length:=WR
  have a:i<W[k].length:=Cy
  rw[dJ x b] at hf;rw[mg x b hf] at hr ⊢
  have d:(aC.fd x k f).kind=1:=by
   unfold iE at hr;by_cases g:(aC.fd x k f).kind=0
   ·rw[if_pos g] at hr;omega
   ·by_cases j:(aC.fd x k f).kind=1
    ·exact j
    ·rw[if_neg g,if_neg j] at hr;omega
  have e:iE x k f=aC.eD x k f:=by unfold iE;rw[if_neg aD,if_pos d]
  rw[e] at hr ⊢;obtain⟨n,o⟩:=h.lX k hk _ (eV a);have c:f<(W[k][i]).length:=by rw[n];exact hf
  have l:=(o f c).1 d;have p:=aC.Ab x k f aD
  have m:Cz.cell W k i f=(W[k][i])[f]:=by
   unfold Cz.cell Cz.row;rw[Cz.bh hk,Cz.bh a,Cz.bh c]
  refine⟨aD,by rw[m];exact l.1,?_⟩;rw[m];unfold Cz.len;have:=l.2;unfold aC.gK at this;omega
theorem aes{p:Prop}(h:p:=by
  go_wp2
  go_ret
  exact⟨by rw[HR.out];rfl,HB.out⟩):p:=h
theorem Pw(x:aC.cE)(k j:Nat)(m:k<x.ah.length)(C:j<(aC.kd x k).aF.length)(f n o t:Option Addr)(g p q u v:Nat)(S:Nat->Prop)(w:World)
  (D:dO S w (.agg (sBx x f n o g p q)) x):
  CP 64 #[.agg #[.int .i64 x.aQ,.slice f x.ah.length g,.slice n x.aV.length p,.slice o x.aX.length q,.slice t u v],.int .i64 (k:Int),.int .i64 (j:Int)] w fun e H=>
   e=.returned (.bool (decide (Cz.fk (aM x) k j≠ -2)))/\BL w H:=by
 obtain⟨V,WD,I,J,W,X,K,i, -, -,L, -, -⟩:=D.form;cases K;obtain⟨w1,hw1⟩:=bJ (w.alloc (.cells #[.int .i64 x.aQ,.slice f x.ah.length g,.slice n x.aV.length p,.slice o x.aX.length q,.slice t u v] 124));have a:BL w w1:=Cx
 have E:w1.heap[w.heap.size]?=some (.cells #[.int .i64 x.aQ,.slice f x.ah.length g,.slice n x.aV.length p,.slice o x.aX.length q,.slice t u v] 124 (0,0)):=J7
 have Y:w1.cell? ⟨w.heap.size,1,none⟩=some (.slice f x.ah.length g):=by simp[World.cell?,E]
 obtain⟨Z, -, -, -, -,uf,M,y⟩:=(i.keep (aH.below a)).at m;obtain⟨af,cf,rfl,N, -, -⟩:=y.form;have b:j<x.ah[k].aF.length:=by rw[<-dH m];exact C
 obtain⟨-, -, -, -, -,F, -⟩:=y.at b;rw[show x.ah[k].aF[j]=aC.fd x k j from (iX m b).symm] at F
 have G:Hid (∀fk,fk=(aC.fd x k j).kind->(Cz.fk (aM x) k j≠ -2↔fk=0\/fk=1)):=hid (by
  rintro fk rfl
  rw[mg x m C]
  unfold iE
  have:=aC.Yu x k j
  by_cases r:(aC.fd x k j).kind=0
  ·rw[if_pos r];simp[r]
  ·rw[if_neg r]
   by_cases s:(aC.fd x k j).kind=1
   ·rw[if_pos s];simp[s];omega
   ·rw[if_neg s];simp[r,s])
 obtain⟨fk,z⟩:=bJ ((aC.fd x k j).kind);rw[<-z] at F;have A:=hid (G.out fk z);obtain⟨O,l⟩:=bJ (x.ah[k].aF.length);rw[<-l] at M N b;have P:(0:Int)<=k:=aD
 have Q:(k:Int)<x.ah.length:=aD
 have R:(0:Int)<=j:=aD
 have T:(j:Int)<O:=aD
 have U:=hid hw1;have HB:=hid a;clear D i y z l hw1 a E G;go_enter func64,ntmps64;go_upto_region 1 with fail;rw[<-U.out];by_cases c:fk=0
 ·have B:(fk==0)=true:=by simp[c]
  have HR:Hid (decide (Cz.fk (aM x) k j≠ -2)=true):=hid (decide_eq_true (A.out.2 (.inl c)));clear c;exact aes
 ·have B:(fk==0)=false:=by simp[c]
  by_cases d:fk=1
  ·have a:(fk==1)=true:=by simp[d]
   have HR:Hid (decide (Cz.fk (aM x) k j≠ -2)=true):=hid (decide_eq_true (A.out.2 (.inr d)));clear c d;exact aes
  ·have a:(fk==1)=false:=by simp[d]
   have HR:Hid (decide (Cz.fk (aM x) k j≠ -2)=false):=hid (decide_eq_false (fun h=>(A.out.1 h).elim c d));clear c d;exact aes
theorem Eb(xs:List Cz.Row)(hx:xs.length<=100000)(v:Value)(w:World){E:Nat->Prop}(y:∀b,E b->b<w.heap.size)(n:cG E w v xs):
  CP 70 #[v] w fun e z=>∃x,e=.returned x/\jM w.heap.size E z x xs/\BL w z:=by
 have k:=n;obtain⟨a,cap,rfl,hok,A,B⟩:=n.form;clear n;cases a with
 |none=>
  have J:xs=[]:=by
   exact adF
  subst J
  have C:∀W,(binOp .eql 42 (.slice none 0 cap) (.slice none 0 0)).run prog W=.ok (.bool true) W:=fun W=>Lib.run_eql_slice_nil W 42 22 none 0 cap 0 0 zK
  go_enter func70,ntmps70
  go_wp2
  go_ret
  exact⟨_,rfl,jM.nil _ _ _,aG⟩
 |some ad=>
  have C:∀W,(binOp .eql 42 (.slice (some ad) xs.length cap) (.slice none 0 0)).run prog W=.ok (.bool false) W:=fun W=>Lib.run_eql_slice_nil W 42 22 (some ad) xs.length cap 0 0 zK
  have D:(w.alloc (.cells #[] 22)).ownsRow w.heap.size 22 1 (.slice (some ⟨w.heap.size,0,none⟩) 0 0) 0 []:=World.ownsRow_made w #[] 0 aL (zxa _) bH
  have F:cG E (w.alloc (.cells #[] 22)) (.slice (some ad) xs.length cap) xs:=cG.keep k (aH.below (aG.alloc aL _))
  obtain⟨-,K,p,G,l2,q⟩:=eA.news F
  have l:∀u∈p,u.oneCell'=true:=fun u L=>by
   obtain⟨i,M,rfl⟩:=zxf L;obtain⟨a,c,e, -⟩:=(q i M aD).form;rw[e];rfl
  have gT:=hid q
  clear k F q
  go_enter func70,ntmps70
  go_wp2_with (at_builtin;go_must (refine amL rfl _ _ rfl Tryz.mB rfl D (some ad) xs.length cap rfl K p (by simpa using G) l2 l aD bH ?_))
  intro N w1 g1 H g
  have f:=Turns.gy (S:=fun b=>some b=(Value.slice (some ⟨w.heap.size,0,none⟩) 0 0).ownBlock) H fun b r=>r.symm
  have m:BL w w1:=(aG.alloc aL _).trans (f.below bH (fun b s=>by simp[Value.ownBlock] at s;omega))
  have I:jM w.heap.size E w1 N xs:=by
   refine⟨p,WU,aD,fun j O P=>?_⟩;have Q:=gT.out j O P;refine bB.mono (bB.keep Q (fun b d t=>?_)) (fun b _ d=>⟨d,fun e=>?_⟩)
   ·have s:=y b d
    rw[f.block b (fun e=>by simp[Value.ownBlock] at e;omega) t]
   ·have s:=y b d
    rcases g with g|g
    ·rw[g] at e;simp[Value.ownBlock] at e;omega
    ·rw[g] at e;simp at e;omega
  have HR:=hid I
  have R:=hid m
  clear D f C m I g1 H g G l2 l
  go_wp2
  go_ret
  exact⟨_,rfl,HR.out,R.out⟩
theorem acF(o:List Nat)(n:Nat)(h:n∈o):Lib.idxOf (o.map fun(i:Nat)=>(i:Int)) n=(o.idxOf n:Nat):=by
 have key:∀(o:List Nat) (k:Nat),n∈o->Lib.idxFrom (o.map fun(i:Nat)=>(i:Int)) n k=((k+o.idxOf n:Nat):Int):=by
  intro o;induction o with
  |nil=>intro k h;cases h
  |cons a o ih=>
   intro k h
   rw[zxt,List.idxOf_cons]
   unfold Lib.idxFrom
   by_cases e:a=n
   ·subst e;simp
   ·have b:¬(a:Int)=(n:Int):=by omega
    have c:(a==n)=false:=by simp[e]
    have d:n∈o:=(mr.1 h).resolve_left (fun q=>e q.symm);rw[if_neg b,c,ih (k+1) d];simp only[cond_false];omega
 have:=key o 0 h;unfold Lib.idxOf;rw[this];simp
theorem Uu(xs:List Int)(hx:xs.length<=1000000)(y:Int)(v:Value)(S:Nat->Prop)(w:World)(d:bB S w v xs):
  CP 71 #[v,.int .i64 y] w fun e k=>e=.returned (.int .i64 (Lib.idxOf xs y))/\w=k:=by
 obtain⟨a,cap,rfl,c,f,g⟩:=d.form;by_cases l:xs.length=0
 ·obtain rfl:xs=[]:=zxh l
  exact(Any.slices_Index_int_empty Tryz.RJ a cap y w).mono fun _ _ h=>⟨h.1,h.2.symm⟩
 ·obtain⟨b,o,rfl⟩:=c aD
  have:=Any.slices_Index_int Tryz.RJ b o xs.length cap xs y w aL aD (fun j i=>by
   obtain⟨u,m, -,n⟩:=d.at i;obtain rfl:u=_:=n;rw[Cz.bh i];simpa using m)
  rw[zxw] at this;exact this.mono fun _ _ h=>⟨h.1,h.2.symm⟩
theorem rq{α:Type}(p:α->Bool):∀(l:List α),l.Pairwise (fun a b=>p b=true->p a=true)->l.countP p=(l.takeWhile p).length
 |[],_=>rfl
 |a::l,h=>by
  rw[List.pairwise_cons] at h;by_cases e:p a=true
  ·rw[List.countP_cons_of_pos e,List.takeWhile_cons_of_pos e,rq p l h.2];rfl
  ·rw[List.takeWhile_cons_of_neg e,List.length_nil,List.countP_eq_zero]
   intro x hx;rcases mr.1 hx with rfl|hx
   ·exact e
   ·exact fun c=>e (h.1 x hx c)
end Go.Proofs.YtohddpbgflgiaaaGreatDoor
namespace Go.Proofs.YtohddpbgflgiaaaGreatDoor
open Go.RowKit Go.Shelf Go.Lib Go.Sort
theorem Px(B:Nat)(E:Nat->Prop)(w:World)(a:Option Addr)(l c:Nat)(xs:List Cz.Row)(h:jM B E w (.slice a l c) xs)(h0:0<xs.length)(hn:xs.length<=1000000000)(I:xs.Pairwise (Cz.di · ·<0))(y:Cz.Row)(v:Value)(T:Nat->Prop)(Y:bB T w v y)(Z:∀b,T b->(Value.slice a l c).ownBlock≠some b):
  CP 114 #[.slice a l c,v,.func (.func 74) #[] #[]] w fun e H=>∃f,e=.returned (.tuple #[.int .i64 (Cz.pos Cz.di xs y:Nat),.bool f])/\Turns (fun b=>(Value.slice a l c).ownBlock=some b) w H/\jM B E H (.slice a l c) xs:=by
 obtain⟨us,⟨J,K⟩,W,L⟩:=h;rcases K with⟨-,aa⟩|⟨g,cap,p,he,M,hg,r,N,hsz,htk⟩
 ·omega
 ·cases he
  obtain⟨k,s⟩:∃k:Nat->Prop,k=fun b=>E b/\(Value.slice (some ⟨g,0,none⟩) xs.length c).ownBlock≠some b:=⟨_,rfl⟩;rw[<-s] at L;have u:∀b,k b->b≠g:=fun b i e=>by rw[s] at i;exact i.2 zS
  obtain⟨dl,e1,O⟩:=acE us xs W L;have P:dl.length=xs.length:=by rw[<-O,sM]
  have d:=(zxd.1 hg).1;haveI:Inhabited (Pv k w):=⟨dl[0]' aD⟩
  have hcur:∀j (h:j<dl.length),p[j]?=some (eG dl[j]):=fun j h=>by
   exact Z4
  have hH:Holds eG w g 0 dl.toArray:=fun j hj=>by
   exact Y7
  have Q:∀b,T b->b≠g:=fun b i e=>Z b i zS
  have hx:∀j (hj:j<dl.length),(dl[j]).1.2=xs[j]' aD:=fun j hj=>by
   have:(dl.map fun x=>x.1.2)[j]?=xs[j]?:=by rw[O]
   rw[alY,lN hj,lN aD] at this;simpa using this
  have A:CmpLaysT prog 74 #[] (eG (E:=k) (w:=w)) v (fun x=>Cz.di x.1.2 y) g 0 dl.toArray.size w:=fun m o C I x=>by
   have R:aH k w (sortWorld eG w g 0 m C o):=fun b i d=>ko eG w g m C o d (u b i);have S:aH T w (sortWorld eG w g 0 m C o):=fun b i d=>ko eG w g m C o d (Q b i);refine Calls.mono (sE x.1.2 y x.1.1 v k T (sortWorld eG w g 0 m C o) (bB.keep x.2.1 R) (bB.keep Y S)) ?_;rintro e H ⟨J,rfl⟩;exact⟨J,0,#[],by rw[grow_empty];rfl⟩
  have t:∀a b,a<=b->b<dl.toArray.size->Cz.di (dl.toArray[b]!).1.2 y<0->Cz.di (dl.toArray[a]!).1.2 y<0:=fun a b ab i d=>by
   have U:b<dl.length:=by simpa using i
   have ea:dl.toArray[a]! =dl[a]' aD:=by simp[getElem!_pos,show a<dl.length by omega]
   have eb:dl.toArray[b]! =dl[b]:=by simp[getElem!_pos,U]
   rw[eb,hx] at d;rw[ea,hx];by_cases q:a=b
   ·subst q;exact d
   ·exact Cz.dQ.trans _ _ _ (List.pairwise_iff_getElem.1 I a b aD aD aD) d
  have X:=Any.slices_BinarySearchFunc Tryz.agV (eG (E:=k) (w:=w)) (fun x=>x.2.2) v (fun x=>Cz.di x.1.2 y) 74 #[] g 0 c dl.toArray w (cF func74 zK rfl) A hH d jo t
  have D:dl.toArray.toList.countP (fun x=>decide (Cz.di x.1.2 y<0))=Cz.pos Cz.di xs y:=by
   unfold Cz.pos;rw[<-rq (fun z=>decide (Cz.di z y<0)) xs (I.imp fun {a b} h i=>decide_eq_true (Cz.dQ.trans _ _ _ h (of_decide_eq_true i))),<-O,List.countP_map];rfl
  have V:dl.toArray.size=xs.length:=by simp[P]
  rw[D,V] at X;refine Calls.mono X ?_;rintro e H ⟨rfl,n,o,rfl⟩;have R:aH k w (sortWorld eG w g 0 n dl.toArray o):=fun b i d=>ko eG w g n dl.toArray o d (u b i);have F:=zl (eG (E:=k) (w:=w)) w g n dl.toArray o;refine⟨_,rfl,⟨F.os,F.tape,F.output,F.size,fun b i hl=>F.block b (fun e=>i zS) hl⟩,us,⟨J,.inr ⟨g,c,putCells eG 0 dl.toArray p,rfl,M,Ea eG w g n dl.toArray o hg,r,N,by simp[putCells,hsz],?_⟩⟩,W,fun j k1 k2=>?_⟩
  ·apply List.ext_getElem?
   intro j;rw[<-htk,zxz,zxz];simp only[Nat.mul_one,putCells,Array.getElem?_toList,Array.getElem?_mapIdx];by_cases hj:j<xs.length
   ·have ad:j<p.size:=by rw[hsz];omega
    have G:j<dl.length:=aD
    rw[if_pos hj,if_pos hj,hcur j G];simp[G,eG,getElem!_pos]
   ·rw[if_neg hj,if_neg hj]
  ·exact bB.mono (bB.keep (L j k1 k2) R) (fun b _ i=>by rw[s] at i;exact i)
end Go.Proofs.YtohddpbgflgiaaaGreatDoor
namespace Go.Proofs.YtohddpbgflgiaaaGreatDoor
open Go.RowKit Go.Shelf Go.Lib Go.Sort
theorem zm{α:Type}[Inhabited α](a:α->Value)(w:World)(g n:Nat)(d:Array α){b:Nat}(hne:b≠g):(putRow a (Sort.ahead w n) g 0 d).heap[b]?=w.heap[b]?:=by
 exact aad
theorem Py{α:Type}[Inhabited α](a:α->Value)(w:World)(g n:Nat)(d:Array α){c:Array Value}{e:TypeId}{b:Nat×Nat}(h:w.heap[g]?=some (.cells c e b)):(putRow a (Sort.ahead w n) g 0 d).heap[g]?=some (.cells (putCells a 0 d c) e b):=by
 exact ady
theorem putRow_drewN{α:Type}[Inhabited α](a:α->Value)(w:World)(g q n:Nat)(d:Array α):(putRow a (Sort.ahead w q) g 0 d).drewN n=putRow a (Sort.ahead w (q+n)) g 0 d:=by
 show putRow a ((w.drewN q).drewN n) g 0 d=_
 rw[World.drewN_drewN];rfl
abbrev xU{E:Nat->Prop}{w:World}(d:Array (Pv E w)):Array Cz.Row:=d.map fun x=>x.1.2
theorem zn{E:Nat->Prop}{w:World}[Inhabited (Pv E w)](d:Array (Pv E w)){j:Nat}(h:j<d.size):(xU d)[j]! =(d[j]!).1.2:=by
 simp[xU,getElem!_pos,h]
theorem Rs{p:Prop}(h:p:=by
  have:=range_map_get (xU d)
  rw[show (xU d).size=d.size by simp[xU]] at this
  rw[this,ND (by simp[xU])]):p:=h
theorem Js(E:Nat->Prop)(w:World)[Inhabited (Pv E w)](g cap:Nat)(d:Array (Pv E w))(hE:∀b,E b->b≠g)(B:Holds eG w g 0 d)(hsz:d.size<=1000000)(ae:d.size<=cap):
  CP 113 #[.slice (some ⟨g,0,none⟩) d.size cap,.func (.func 44) #[] #[]] w fun e A=>∃(q k:Nat) (f:Array (Pv E w)),e=.returned (.slice (some ⟨g,0,none⟩) k cap)/\k<=d.size/\f.size=d.size/\(xU f).toList.take k=compactUpTo (xU d) d.size/\(A=putRow eG (Sort.ahead w q) g 0 f\/∃n,A=(putRow eG (Sort.ahead w q) g 0 f).setCells g k (List.replicate n (.slice none 0 0))):=by
 have L:=hid (fun(X:World) (hX:∀b,b≠g->X.heap[b]?=w.heap[b]?) (x y:Pv E w) (nq:Nat)=>(DZ x.1.2 y.1.2 x.1.1 y.1.1 E E (X.drewN nq) (bB.keep x.2.1 (fun b H u=>hX b (hE b H))) (bB.keep y.2.1 (fun b H u=>hX b (hE b H)))).mono fun e A h=>(⟨h.1,by obtain⟨m,hm⟩:=h.2;exact⟨nq+m,by rw[hm,World.drewN_drewN]⟩⟩:e=.returned (.bool (decide (x.1.2=y.1.2)))/\∃m,A=X.drewN m));by_cases h2:d.size<2
 ·have I:Hid (Holds eG w g 0 d):=hid B
  clear B;have aa:(d.size:Int)<2:=aD
  go_enter func113,ntmps113;go_wp2;go_ret;refine⟨0,d.size,d,rfl,aL,rfl,?_,.inl (putRow_self eG w g 0 d I.out).symm⟩;rw[compactUpTo_all _ _ (fun j C=>keeps_lt_one _ j aD)];exact Rs
 ·have aa:¬(d.size:Int)<2:=by omega
  go_enter func113,ntmps113;go_wp2;go_loopw [5] (fun s wr=>∃k:Nat,1<=k/\k<=d.size/\s=.int .i64 k/\Hid (∃q,wr=w.drewN q)/\Hid (∀j,j<k->keeps (xU d) j=true)) (fun s _=>d.size-(intOf s).toNat);case atStart=>exact⟨1,aL,aD,rfl,hid ⟨0,rfl⟩,hid (keeps_lt_one _)⟩
  case round=>
   obtain⟨k,aj,hk,rfl,M,HA⟩:=hrel
   have t:Holds eG wr g 0 d:=by
    obtain⟨q,o⟩:=M.out;rw[o];exact holds_ahead eG w q g 0 d B
   have ak:=hid t;by_cases u:k<d.size
   ·obtain⟨c1,f1⟩:=t k u
    obtain⟨c0,f0⟩:=t (k-1) aD;obtain⟨p,N⟩:=bJ (k-1:Nat);rw[<-N,zxn] at c0 f0;have HX:=hid (L.out wr (fun b H=>by obtain⟨q,o⟩:=M.out;rw[o];rfl) d[k]! d[p]!)
    have O:Hid (∀z,z=decide ((d[k]!).1.2=(d[p]!).1.2)->(z=true->keeps (xU d) k=false)/\(z=false->keeps (xU d) k=true)):=hid (by
     rintro z rfl
     have J:=zn d u
     have K:=zn d (j:=p) aD
     exact⟨fun h=>keeps_neg aD (by rw[<-N,J,K];exact of_decide_eq_true h),fun h=>keeps_pos (by rw[<-N,J,K];exact of_decide_eq_false h)⟩)
    obtain⟨z,D⟩:=bJ (decide ((d[k]!).1.2=(d[p]!).1.2));rw[<-D] at HX;have HZ:=hid (O.out z D);have I:Hid (Holds eG w g 0 d):=hid B;have F:Hid (∀nq,CP 44 #[eG d[k]!,eG d[p]!] (wr.drewN nq) fun e A=>e=.returned (.bool z)/\∃m,A=wr.drewN m):=HX;rw[zxn] at c1 f1;clear B t D O HX;generalize eG d[k]! =u1 at*;generalize eG d[p]! =u0 at*;have al:(0:Int)<=k:=aD
    have af:(k:Int)<d.size:=aD
    have P:=zN p
    have ab:IntKind.i64.wrap ((k:Int)-1)=(p:Int):=WY
    have Q:(p:Int)<d.size:=aD
    have HP:=hid N;clear N;cases z with
    |false=>
     go_wp2
     go_quiet ((exact F.out _))
     go_wp2
     go_roundw
     case rel=>exact⟨k+1,aD,aD,zG,hid (by obtain⟨q,o⟩:=M.out;rw[o,World.drewN_drewN];exact⟨_,rfl⟩),hid (fun j C=>by
      by_cases e:j=k
      ·subst e;exact HZ.out.2 trivial
      ·exact HA.out j aD)⟩
     case measure=>simp[intOf];omega
    |true=>
     have am:¬(d.size:Int)<(k:Int):=aD
     go_wp2
     go_quiet ((exact F.out _))
     go_wp2
     clear c1 c0 f1 f0 F ab P Q HP
     go_loopw [5,7] (fun s5 s7 w2=>∃(l i:Nat) (f:Array (Pv E w)),s5=.int .i64 l/\s7=.int .i64 i/\1<=i/\k+i<=d.size/\l<k+i/\Hid (f.size=d.size)/\Hid (∃q,w2=putRow eG (Sort.ahead w q) g 0 f)/\Hid (CompInv (xU d) (k+i) l (xU f))) (fun _ s7 _=>d.size-(k+(intOf s7).toNat))
     case atStart=>exact⟨k,1,d,rfl,rfl,aL,aD,aD,hid rfl,hid (by
      obtain⟨q,o⟩:=M.out
      rw[o,World.drewN_drewN]
      exact⟨_,(putRow_self eG (Sort.ahead w _) g 0 d (holds_ahead eG w _ g 0 d I.out)).symm⟩),hid (CompInv.start HA.out (HZ.out.1 trivial))⟩
     case round=>
      obtain⟨l,i,f,rfl,rfl,h1,an,ao,G,R,S⟩:=hrel;have v:=G.out
      have r:Holds eG wr g 0 f:=by
       obtain⟨q,o⟩:=R.out;rw[o];exact holds_putRow eG _ g 0 d f (holds_ahead eG w q g 0 d I.out) v
      by_cases ag:k+i<d.size
      ·obtain⟨cm,fm⟩:=r (k+i) aD
       obtain⟨cp,fp⟩:=r (k+i-1) aD;obtain⟨ck,fk⟩:=r l aD;obtain⟨p2,T⟩:=bJ (i-1:Nat);rw[show 0+(k+i-1)=k+p2 by omega,show k+i-1=k+p2 by omega] at cp;rw[zxn] at cm ck fk;have HX:=hid (L.out wr (fun b H=>by obtain⟨q,o⟩:=R.out;rw[o];exact zm eG w g q f H) f[k+i]! f[k+p2]!)
       have O:Hid (∀z,z=decide ((f[k+i]!).1.2=(f[k+p2]!).1.2)->(z=true->keeps (xU d) (k+i)=false)/\(z=false->keeps (xU d) (k+i)=true)):=hid (by
        rintro z rfl
        have J:=zn f (j:=k+i) aD
        have K:=zn f (j:=k+p2) aD
        rw[S.out.high _ aD] at J K
        have e3:k+i-1=k+p2:=aD
        exact⟨fun h=>keeps_neg aD (by rw[e3,J,K];exact of_decide_eq_true h),fun h=>keeps_pos (by rw[e3,J,K];exact of_decide_eq_false h)⟩)
       obtain⟨z,D⟩:=bJ (decide ((f[k+i]!).1.2=(f[k+p2]!).1.2));rw[<-D] at HX;have ER:=hid (O.out z D);have F:Hid (∀nq,CP 44 #[eG f[k+i]!,eG f[k+p2]!] (wr.drewN nq) fun e A=>e=.returned (.bool z)/\∃m,A=wr.drewN m):=HX
       have nM:Hid (∀n,∃q,(wr.drewN n).setCell ⟨g,l,none⟩ (eG f[k+i]!)=putRow eG (Sort.ahead w q) g 0 (f.setIfInBounds l f[k+i]!)):=hid (fun n=>by
        obtain⟨q,o⟩:=R.out;rw[o];have:=putRow_set eG (Sort.ahead w (q+n)) g 0 f l f[k+i]! aD;rw[zxn] at this;exact⟨q+n,by rw[<-this,show (putRow eG (Sort.ahead w q) g 0 f).drewN n=putRow eG (Sort.ahead w (q+n)) g 0 f from putRow_drewN eG w g q n f]⟩)
       have Ze:Hid (xU (f.setIfInBounds l f[k+i]!)=(xU f).setIfInBounds l (xU d)[k+i]!):=hid (by
        rw[<-S.out.high (k+i) aD,zn f aD]
        simp[xU,Array.map_setIfInBounds])
       have U:Hid ((f.setIfInBounds l f[k+i]!).size=d.size):=hid (by simp[v]);have ap:=zN p2
       have tZ:IntKind.i64.wrap ((i:Int)-1)=(p2:Int):=WY
       have aq:(i:Int)<((d.size-k:Nat):Int):=aD
       have ar:(p2:Int)<((d.size-k:Nat):Int):=aD
       have ah:=zN i
       have ad:=zN l
       have V:(l:Int)<d.size:=aD
       have Nq:=hid T;clear r D O HX fp v T;obtain⟨a2,n2,c2,og⟩:∃a n c,eG f[k+i]! =.slice a n c:=by obtain⟨a,c,e, -⟩:=(f[k+i]!).2.1.form;exact⟨a,_,c,e⟩
       rw[og] at cm F nM;clear og;generalize eG f[k+p2]! =u3 at*;generalize eG f[l]! =u5 at*;cases z with
       |true=>
        go_wp2
        go_quiet ((exact F.out _))
        go_wp2
        go_roundw
        case rel=>exact⟨l,i+1,f,rfl,zG,aD,aD,aD,G,hid (by
         obtain⟨q,o⟩:=R.out
         rw[o,putRow_drewN]
         exact⟨_,rfl⟩),hid (S.out.skip (ER.out.1 trivial))⟩
        case measure=>simp[intOf];omega
       |false=>
        go_wp2
        go_quiet ((exact F.out _))
        go_wp2
        go_roundw
        case rel=>exact⟨l+1,i+1,f.setIfInBounds l f[k+i]!,zG,zG,aD,aD,aD,U,hid (nM.out _),hid (by
         rw[Ze.out]
         exact S.out.keep (by simp[xU];omega) (ER.out.2 trivial))⟩
        case measure=>simp[intOf];omega
      ·have W:k+i=d.size:=by omega
       have ai:¬(i:Int)<((d.size-k:Nat):Int):=aD
       have ad:=zN l
       have V:¬(d.size:Int)<(l:Int):=aD
       have au:¬(cap:Int)<(l:Int):=aD
       have av:∀ty,(Builtin.clear_ #[42] ty #[.slice (some ⟨g,l,none⟩) (d.size-l) (cap-l)]).run prog wr=.ok (.tuple #[]) (wr.setCells g l (List.replicate (d.size-l) (.slice none 0 0))):=
        fun ty=>Lib.run_clear_slice wr 42 22 ty (.slice none 0 0) zK (fun _=>by kernel_rfl) rfl rfl g l _ _ aD (fun j C=>by have:=(r (l+j) aD).1;rw[zxn] at this;rw[this];rfl) (fun j C=>by have:=(r (l+j) aD).2;rw[zxn] at this;exact this)
       have Y:Hid ((xU f).toList.take l=compactUpTo (xU d) d.size):=hid (by
        have Z:=S.out
        rw[W] at Z
        apply List.ext_getElem?
        intro j
        rw[zxz]
        by_cases C:j<l
        ·rw[if_pos C,Z.low j C]
         have h9:j<(xU f).size:=by have:=Z.size;simp[xU] at*;omega
         rw[Array.getElem?_toList,zxi h9,getElem!_pos (xU f) j h9]
        ·rw[if_neg C,zxr (by rw[Z.len];omega)])
       clear r v;go_wp2;go_ret;obtain⟨q,o⟩:=R.out;exact⟨q,l,rfl,aD,f,G.out,by have:=Y.out;simpa [xU] using this,.inr ⟨_,by rw[o]⟩⟩
   ·obtain rfl:k=d.size:=by omega
    have I:Hid (Holds eG w g 0 d):=hid B;clear B t;obtain⟨q,rfl⟩:=M.out;go_wp2;go_ret;refine⟨q,d.size,d,rfl,aL,rfl,?_,.inl (putRow_self eG (Sort.ahead w q) g 0 d (holds_ahead eG w q g 0 d I.out)).symm⟩;rw[compactUpTo_all _ _ HA.out];exact Rs
end Go.Proofs.YtohddpbgflgiaaaGreatDoor
namespace Go.Proofs.YtohddpbgflgiaaaGreatDoor
open Go.RowKit Go.Shelf Go.Lib Go.Sort
theorem zq{g:Nat}{e:TypeId}:∀(vs:List Value) (w:World) (c:Array Value) (k:Nat),w.heap[g]?=some (.cells c e (0,0))->
  ∃a,(w.setCells g k vs).heap[g]?=some (.cells a e (0,0))/\a.size=c.size/\(∀j,j<k->a[j]?=c[j]?)/\Turns (·=g) w (w.setCells g k vs)
 |[],w,c,k,h=>⟨c,h,rfl,fun _ _=>rfl,Turns.refl _ _⟩
 |v::vs,w,c,k,h=>by
  obtain⟨a,b,d,f,i⟩:=zq vs (w.setCell ⟨g,k,none⟩ v) _ (k+1) (heap_setCell_same w g k c e v h);refine⟨a,b,by rw[d];simp,fun j l=>?_,(Turns.setCell (S:=(·=g)) (Turns.refl _ w) ⟨g,k,none⟩ v rfl).trans i⟩;rw[f j aD,Array.getElem?_setIfInBounds,if_neg aD]
theorem Cd(zs:List Cz.Row)(h:zs.Pairwise (fun a b=>¬Cz.di b a<0)):compactUpTo zs.toArray zs.length=Cz.dU Cz.di zs:=by
 have f:∀i j (d:i<zs.length) (c:j<zs.length),i<j->¬Cz.di zs[j] zs[i]<0:=fun i j d c k=>List.pairwise_iff_getElem.1 h i j d c k
 have g:∀a b:Cz.Row,¬Cz.di b a<0->a≠b->Cz.di a b<0:=fun a b d c=>by
  have:=Cz.dQ.anti b a;have:=Cz.dQ.anti a b;have:Cz.di a b≠0:=fun e=>c (Cz.dQ.eq _ _ e);omega
 have key:∀m,m<=zs.length->(compactUpTo zs.toArray m).Pairwise (Cz.di · ·<0)/\∀x,x∈compactUpTo zs.toArray m↔x∈zs.take m:=by
  intro m;induction m with
  |zero=>intro _;simp[compactUpTo]
  |succ m ih=>
   intro r
   obtain⟨d,c⟩:=ih aD
   have hg:zs.toArray[m]! =zs[m]:=by simp[getElem!_pos,show m<zs.length by omega]
   rw[compactUpTo_succ,yh aD]
   by_cases hk:keeps zs.toArray m=true
   ·rw[if_pos hk,hg]
    refine⟨List.pairwise_append.2 ⟨d,bH,fun x hx y n=>?_⟩,fun x=>by rw[zxx,zxx,c]⟩;rw[nL.1 n];obtain⟨i,o,rfl⟩:=zxf ((c x).1 hx);rw[VQ] at o;rw[List.getElem_take];have h3:m≠0:=aD
    have hg1:zs.toArray[m-1]! =zs[m-1]:=by simp[getElem!_pos,show m-1<zs.length by omega]
    have hne:zs[m]≠zs[m-1]:=by
     exact ams
    have l:=g zs[m-1] zs[m] (f (m-1) m aD aD aD) (Ne.symm hne);by_cases e:i=m-1
    ·subst e;exact l
    ·have p:=f i (m-1) aD aD aD
     by_cases q:zs[i]=zs[m-1]
     ·rw[q];exact l
     ·exact Cz.dQ.trans _ _ _ (g _ _ p q) l
   ·rw[if_neg hk,zxp]
    refine⟨d,fun x=>?_⟩;rw[c,zxx,nL];refine⟨.inl,fun hx=>hx.elim id (fun hx=>?_)⟩;have h3:m≠0:=fun e=>hk (by simp[keeps,e]);have hg1:zs.toArray[m-1]! =zs[m-1]:=by simp[getElem!_pos,show m-1<zs.length by omega]
    exact aej
 obtain⟨d,c⟩:=key zs.length aL;rw[zxw] at c;exact Cz.qU Cz.dQ d (Cz.iP Cz.dQ) fun x=>by rw[Cz.amM Cz.dQ];exact c x
theorem Jt(B:Nat)(E:Nat->Prop)(w:World)(a:Option Addr)(l c:Nat)(xs:List Cz.Row)(h:jM B E w (.slice a l c) xs)(h0:0<xs.length)(W:xs.length<=1000000)(X:xs.Pairwise (fun a b=>¬Cz.di b a<0)):
  CP 113 #[.slice a l c,.func (.func 44) #[] #[]] w fun e y=>e=.returned (.slice a (Cz.dU Cz.di xs).length c)/\jM B E y (.slice a (Cz.dU Cz.di xs).length c) (Cz.dU Cz.di xs)/\Turns (fun b=>(Value.slice a l c).ownBlock=some b) w y:=by
 obtain⟨us,⟨h1,D⟩,Y,R⟩:=h;rcases D with⟨-,Z⟩|⟨g,cap,i,he,F,hg,o,G,hsz,htk⟩
 ·omega
 ·cases he
  obtain⟨z,p⟩:∃z:Nat->Prop,z=fun b=>E b/\(Value.slice (some ⟨g,0,none⟩) xs.length c).ownBlock≠some b:=⟨_,rfl⟩;rw[<-p] at R;have C:∀b,z b->b≠g:=fun b d e=>by rw[p] at d;exact d.2 zS
  obtain⟨dl,e1,S⟩:=acE us xs Y R;have r:dl.length=xs.length:=by rw[<-S,sM]
  have s:=(zxd.1 hg).1;haveI:Inhabited (Pv z w):=⟨dl[0]' aD⟩
  have hcur:∀j (h:j<dl.length),i[j]?=some (eG dl[j]):=fun j h=>by
   exact Z4
  have hH:Holds eG w g 0 dl.toArray:=fun j hj=>by
   exact Y7
  have T:=Js z w g c dl.toArray C hH (by simpa [r] using W) (by simpa [r] using o);have H:dl.toArray.size=xs.length:=by simp[r]
  have I:xU dl.toArray=xs.toArray:=by rw[<-S];simp[xU]
  rw[H,I,Cd xs X] at T;refine Calls.mono T ?_;rintro e y ⟨q,k,f,rfl,hk,aa,m,hw⟩
  have t:k=(Cz.dU Cz.di xs).length:=by
   have:=congrArg List.length m;rw[VQ] at this;simp only[xU,Array.length_toList,Array.size_map] at this;omega
  obtain⟨u,J,K,L,A⟩:∃u,y.heap[g]?=some (.cells u 22 (0,0))/\u.size=i.size/\(∀j,j<k->u[j]?=(putCells eG 0 f i)[j]?)/\Turns (·=g) w y:=by
   have U:=Py eG w g q f hg;have V:Turns (·=g) w (putRow eG (Sort.ahead w q) g 0 f):=⟨rfl,rfl,rfl,by simp[putRow,mapBlock],fun b d s=>zm eG w g q f d⟩;rcases hw with rfl|⟨n,rfl⟩
   ·exact⟨_,U,by simp[putCells],fun _ _=>rfl,V⟩
   ·obtain⟨u,M,N,k3,k4⟩:=zq (List.replicate n (.slice none 0 0)) _ _ k U
    exact⟨u,M,by rw[N];simp[putCells],k3,V.trans k4⟩
  have O:aH z w y:=fun b d s=>A.block b (C b d) s;rw[<-t];refine⟨rfl,⟨(f.toList.take k).map (fun x=>x.1.1),⟨jo,.inr ⟨g,c,u,by simp[t],F,J,aD,G,by rw[K];exact hsz,?_⟩⟩,jo,fun j M N=>?_⟩,⟨A.os,A.tape,A.output,A.size,fun b d hl=>A.block b (fun e=>d zS) hl⟩⟩
  ·apply List.ext_getElem?
   intro j;rw[zxz,<-t];by_cases hj:j<k
   ·have v:j<f.size:=by omega
    have P:j<i.size:=by rw[hsz];omega
    rw[if_pos aD,Array.getElem?_toList,L j hj];simp[putCells,P,v,hj,eG,getElem!_pos]
   ·rw[if_neg aD,zxr jo]
  ·have v:j<f.size:=by simp at M;omega
   have e3:(Cz.dU Cz.di xs)[j]=(f[j]).1.2:=by
    have Q:((xU f).toList.take k)[j]?=(Cz.dU Cz.di xs)[j]?:=by rw[m]
    rw[zxz,if_pos aD,lN N] at Q;simp[xU,v] at Q;exact Q.symm
   rw[e3];simp only[zxo,List.getElem_take,Array.getElem_toList];exact bB.mono (bB.keep (f[j]).2.1 O) (fun b _ d=>by rw[p] at d;exact d)
end Go.Proofs.YtohddpbgflgiaaaGreatDoor
namespace Go.Proofs.YtohddpbgflgiaaaGreatDoor
open Go.RowKit
def zeroCells(n:Nat):Array Value:=(List.replicate n (.int .i64 0)).toArray
theorem Ec(n:Nat):madeCells (Value.int .i64 0).cells (n*1)=zeroCells n:=by
 apply Array.ext
 ·simp[madeCells,zeroCells]
 ·intro i a b
  simp[madeCells,zeroCells,Value.cells,Nat.mod_one]
theorem He{P:Program}{t e:TypeId}{b:Nat}(c:P.underlying t=some (.slice e))(d:(P.info? e).map (fun i=>(i.zero,i.size,i.bytes))=some (some (.int .i64 0),1,b))(l:b<=1000)
  (n:Nat)(hn:n<=1000000)(w:World):
  (Instr.makeSlice t (.int .i64 (n:Int)) (.int .i64 (n:Int))).run P w=.ok (.slice (some ⟨w.heap.size,0,none⟩) n n) (w.alloc (.cells (zeroCells n) e)):=by
 obtain⟨i,f,g,j,m⟩:=info_parts d
 have k:(i.bytes:Int)*(n:Int)<=281474976710656:=by
  exact aeu
 have a:=run_make (P:=P) w t e i (.int .i64 0) c f g .i64 .i64 (n:Int) (n:Int) aD aD k aD;rw[j,zxk,Ec] at a;exact a
theorem Ed(w:World)(n:Nat)(c:n<=1000000):bp (w.heap.size<=·) (w.alloc (.cells (zeroCells n) 3)) (.slice (some ⟨w.heap.size,0,none⟩) n n) (List.replicate n 0):=by
 refine⟨?_,fun b a=>by simp[Value.ownBlock] at a;omega⟩;rw[List.length_replicate];refine⟨bH,.inr ⟨w.heap.size,n,zeroCells n,rfl,zxa _,heap_alloc_new w _,aL,Wy,by simp[zeroCells],?_⟩⟩;simp[zeroCells]
theorem bp.put{S:Nat->Prop}{w:World}{g n cap:Nat}{zs:List Int}(h:bp S w (.slice (some ⟨g,0,none⟩) n cap) zs)(hn:n=zs.length)(j:Nat)(y:Int):
  bp S (w.setCell ⟨g,j,none⟩ (.int .i64 y)) (.slice (some ⟨g,0,none⟩) n cap) (zs.set j y):=by
 exact amq
theorem Ju(a:Option Addr)(c:Nat)(v:Value)(w:World):CP 113 #[.slice a 0 c,v] w fun e b=>e=.returned (.slice a 0 c)/\w=b:=by
 go_enter func113,ntmps113;exact Ez
theorem Jv(B:Nat)(E:Nat->Prop)(w:World)(a:Option Addr)(c:Nat)(xs:List Cz.Row)(h:jM B E w (.slice a xs.length c) xs)(f:xs.length<=1000000)(g:xs.Pairwise (fun a b=>¬Cz.di b a<0)):
  CP 113 #[.slice a xs.length c,.func (.func 44) #[] #[]] w fun e d=>e=.returned (.slice a (Cz.dU Cz.di xs).length c)/\jM B E d (.slice a (Cz.dU Cz.di xs).length c) (Cz.dU Cz.di xs)/\Turns (fun b=>(Value.slice a xs.length c).ownBlock=some b) w d:=by
 by_cases i:0<xs.length
 ·exact Jt B E w a _ c xs h i f g
 ·obtain rfl:xs=[]:=zxh aD
  refine(Ju a c _ w).mono ?_;rintro e d ⟨rfl,rfl⟩;exact⟨rfl,h,Turns.refl _ _⟩
theorem jM.form{B:Nat}{E:Nat->Prop}{w:World}{v:Value}{xs:List Cz.Row}(h:jM B E w v xs):∃a c,v=.slice a xs.length c:=by
 obtain⟨a,c,e, -⟩:=(jM.sl h).form;exact⟨a,c,e⟩
theorem Hf(d:List Cz.Row)(hl:d.length<=1000)(X v:Option Addr)(Y G:Nat)(w:World)(Z:cG (·<w.heap.size) w (.slice v d.length G) d):
  CP 65 #[.agg #[.slice X d.length Y,.slice v d.length G]] w fun e w'=>∃x,e=.returned x/\bp (w.heap.size<=·) w' x (Cz.tA d)/\BL w w':=by
 obtain⟨w1,hw1⟩:=bJ (w.alloc (.cells #[.slice X d.length Y,.slice v d.length G] 128));have y:BL w w1:=Cx
 have H:w1.heap.size=w.heap.size+1:=J6
 have zP:Hid (w1.heap[w.heap.size]?=some (.cells #[.slice X d.length Y,.slice v d.length G] 128 (0,0))):=hid J7;have GR:=hid (Eb d aD _ w1 (E:=(·<w1.heap.size)) (fun _ h=>h) (cG.mono (S':=(·<w1.heap.size)) (Z.keep (aH.below y)) (fun b _ g=>by have h9:b<w.heap.size:=g;omega)));have HV:=hid Z;have aa:=hid hw1;have bL:=hid y;have Ur:=hid H;have aj:dV v d.length:=by obtain⟨a,c,e,h, -⟩:=Z.form;cases e;exact h
 clear Z hw1 y H;have ab:=fun W=>He (P:=prog) (t:=22) (e:=3) (b:=8) zK zK aD d.length aD W;have x1:w1.cell? ⟨w.heap.size,1,none⟩=some (.slice v d.length G):=by simp[World.cell?,zP.out]
 go_enter func65,ntmps65;go_upto_region 1 with fail;rw[<-aa.out];go_wp2_with fail;refine GR.out.mono ?_;rintro e w2 ⟨x,rfl,n,I⟩;obtain⟨J,K,rfl⟩:=n.form;have Bj:=hid (Ut _ _ w2 J _ K d n aD);have cH:=hid I;have wQ:=hid (fun b g=>(n.lt b g).1);clear n I GR x1;go_wp2_with fail;refine Bj.out.mono ?_;rintro e w3 ⟨rfl,ys,L,hs,M,N⟩;have EZ:=Jv w1.heap.size (·<w1.heap.size) w3 J K ys (by rw[L.length_eq];exact M) (by rw[L.length_eq];omega) (hs.imp (fun h=>by omega));rw[L.length_eq,Cz.qh Cz.dQ (fun x=>L.mem_iff)] at EZ;have O:=hid EZ;have cN:Hid (BL w1 w3):=hid (cH.out.trans (N.below cH.out.size (fun b g=>wQ.out b g)));clear L hs M N EZ Bj;go_wp2_with fail;refine O.out.mono ?_;rintro e w4 ⟨rfl,A,tT⟩;have gX:Hid (BL w1 w4):=hid (cN.out.trans (tT.below cN.out.size (fun b g=>wQ.out b g)));have zu:=hid A;have HG:=hid (fun b g=>(A.lt b g).2);have Q:=gX.out.size;have Wh:=(gX.out.block _ (aI zP.out)).trans zP.out;have x0:w4.cell? ⟨w.heap.size,0,none⟩=some (.slice X d.length Y):=by simp[World.cell?,Wh]
 have R:=(((Below.refl w4.heap.size w4).alloc aL (.cells (zeroCells d.length) 3)).block _ (aI Wh)).trans Wh;have x1:(w4.alloc (.cells (zeroCells d.length) 3)).cell? ⟨w.heap.size,1,none⟩=some (.slice v d.length G):=by simp only[World.cell?,R];rfl
 clear R A tT O Wh;obtain⟨m,o⟩:=bJ w4.heap.size;have HM:=hid (Ed w4 d.length aD);have B:Hid (w1.heap.size<=m):=hid (by rw[o];exact Q);have HA:=hid ((Below.refl w4.heap.size w4).alloc aL (.cells (zeroCells d.length) 3));go_wp2;clear ab x0 x1;rw[<-o];rw[<-o] at HG HM;have BP:=hid (show w4.heap.size<=m by omega);clear o;go_loopw [21] (fun s wr=>∃(i:Nat) (zs:List Int),i<=d.length/\s=.int .i64 i/\Hid (zs.length=d.length/\∀j,j<i->zs[j]?=(Cz.tA d)[j]?)/\Hid (bp (w1.heap.size<=·) wr (.slice (some ⟨m,0,none⟩) d.length d.length) zs)/\Hid (jM w1.heap.size (·<w1.heap.size) wr (.slice J (Cz.dU Cz.di d).length K) (Cz.dU Cz.di d))/\Hid (BL w1 wr)) (fun s _=>d.length-(intOf s).toNat);case atStart=>exact⟨0,List.replicate d.length 0,aD,rfl,hid ⟨bH,fun j hj=>absurd hj aD⟩,hid (aW.mono HM.out (fun b _ g=>zxb B.out g)),hid (zu.out.next HA.out),hid (gX.out.trans (HA.out.mono Q))⟩
 case round=>
  obtain⟨i,zs,hi,rfl,p,HI,HR,HB⟩:=hrel;have lP:=hid (bL.out.trans (HB.out.mono (by have:=Ur.out;omega)));by_cases l:i<d.length
  ·obtain⟨u,ad, -,og⟩:=(HV.out.keep (aH.bg lP.out (fun _ h=>h))).at l
   have ak:=zN i
   have am:=zL i d.length
   have q:d[i]∈d:=eV _;have r:0<(Cz.dU Cz.di d).length:=List.length_pos_of_mem ((Cz.amM Cz.dQ).2 q);have ae:(Cz.dU Cz.di d).length<=d.length:=Cz.q9 _;have C:=hid (Px _ _ wr J _ K _ HR.out r aD (Cz.iP Cz.dQ) d[i] u (·<w.heap.size) og (fun b g e=>by have:=(HR.out.lt b e).1;have:=Ur.out;have h9:b<w.heap.size:=g;omega))
   have T:Hid (∀z,z=Cz.pos Cz.di (Cz.dU Cz.di d) d[i]->(Cz.tA d)[i]?=some (z:Int)):=hid (by
    rintro z rfl
    unfold Cz.tA
    rw[alY,lN l]
    rfl)
   obtain⟨z,hz⟩:=bJ (Cz.pos Cz.di (Cz.dU Cz.di d) d[i]);rw[<-hz] at C;have U:=hid (T.out z hz);have af:=HR.out.lt;clear hz T og q r ae;go_wp2_with fail;refine C.out.mono ?_;rintro e w6 ⟨f,rfl,tg,V⟩;have D:bp (w1.heap.size<=·) w6 (.slice (some ⟨m,0,none⟩) d.length d.length) zs:=⟨dZ (S:=fun b=>b=m) HI.out.1 (fun b g=>by simp[Value.ownBlock] at g;exact g.symm) (fun b g l=>tg.block b (fun e=>by have:=HG.out b e;omega) l),HI.out.2⟩;obtain⟨g',ah,F, -, -, -,k⟩:=gU D.1 (by rw[p.out.1];omega);obtain⟨cc,cf⟩:=k i (by simp[p.out.1];omega);obtain rfl:m=g':=by simp at F;exact F.1
   have uJ:=hid (bp.put D p.out.1.symm i (z:Int))
   have Gh:Hid (jM w1.heap.size (·<w1.heap.size) (w6.setCell ⟨m,i,none⟩ (.int .i64 (z:Int))) (.slice J (Cz.dU Cz.di d).length K) (Cz.dU Cz.di d)):=hid (V.kept (fun b l h=>mO _ _ _ _ (fun e=>by
    have e1:b=m:=e;have:=B.out;rcases h with h|h
    ·have:=HG.out b h;omega
    ·have h9:b<w1.heap.size:=h;omega)))
   have jb:Hid (BL w1 (w6.setCell ⟨m,i,none⟩ (.int .i64 (z:Int)))):=hid (HB.out.trans ((Turns.setCell (S:=(w1.heap.size<=·)) (tg.mono (fun b _ g=>(af b g).1)) ⟨m,i,none⟩ (.int .i64 (z:Int)) B.out).below HB.out.size (fun b g=>g)))
   have ag:Hid ((zs.set i (z:Int)).length=d.length/\∀j,j<i+1->(zs.set i (z:Int))[j]?=(Cz.tA d)[j]?):=hid ⟨by simp[p.out.1],fun j hj=>by
    by_cases e:j=i
    ·subst e;rw[List.getElem?_set_self (by rw[p.out.1];exact l),U.out]
    ·rw[List.getElem?_set_ne (Ne.symm e)];exact p.out.2 j aD⟩
   clear D tg V k F ad C;go_wp2;go_roundw;case rel=>exact⟨i+1,_,aD,zG,ag,uJ,Gh,jb⟩
   exact zI
  ·obtain rfl:i=d.length:=by omega
   have HE:Hid (zs=Cz.tA d):=hid (List.ext_getElem? fun j=>by
    by_cases hj:j<d.length
    ·exact p.out.2 j hj
    ·rw[zxr (by rw[p.out.1];omega),zxr (by simp[Cz.tA];omega)])
   go_wp2;go_ret;exact⟨_,rfl,by rw[<-HE.out];exact aW.mono HI.out (fun b _ g=>by have h9:w1.heap.size<=b:=g;have:=Ur.out;show w.heap.size<=b;omega),lP.out⟩
theorem FO(xs:List (List (List Int)))(u v:Value)(S T:Nat->Prop)(w:World)(t:bK S w u xs)(z:bK T w v xs):
  CB 10 #[u,v] w (.bool true):=by
 obtain⟨a,cap,rfl,K,C,D⟩:=t.form;obtain⟨E,F,rfl,xq,sK,qD⟩:=z.form;have L:=hid (fun W (b:BL w W)=>bK.keep t (aH.below b));have M:=hid (fun W (b:BL w W)=>bK.keep z (aH.below b));clear t z;have N:((xs.length:Int) !=(xs.length:Int))=false:=bH
 go_enter func10,ntmps10;go_wp2;go_loopw [5] (fun i wr=>∃k:Nat,k<=xs.length/\i=.int .i64 k/\Hid (BL w wr)) (fun i _=>xs.length-(intOf i).toNat);case atStart=>exact⟨0,zxa _,rfl,hid aG⟩
 case round=>
  obtain⟨k,hk,rfl,HB⟩:=hrel;by_cases j:k<xs.length
  ·obtain⟨x,hx,l,c⟩:=(L.out wr HB.out).at j
   obtain⟨y,s,o,d⟩:=(M.out wr HB.out).at j;obtain⟨a1,c1,rfl,ok1,A,G⟩:=c.form;obtain⟨a2,c2,rfl,ok2, -, -⟩:=d.form;have O:=zN k
   have P:=zL k xs.length
   obtain⟨rs,f⟩:=bJ (xs[k]);rw[<-f] at hx s c d ok1 ok2 A;have HX:=hid (fun W (b:BL wr W)=>cG.keep c (aH.below b));have Q:=hid (fun W (b:BL wr W)=>cG.keep d (aH.below b));have Rl:=hid f;have B:=hid (fun W (b:BL wr W)=>And.intro ((b.cell (p:=⟨bM a,bT a+k,none⟩) l).trans hx) ((b.cell (p:=⟨bM E,bT E+k,none⟩) o).trans s));clear c d f;have Pc:((rs.length:Int) !=(rs.length:Int))=false:=bH
   have R:=hid (fun n=>aJ (Below.refl wr.heap.size wr) n);clear l o;go_wp2;go_quiet (fail);go_wp2;clear hx s;generalize U:wr=V at*;clear U;go_loopw [6] (fun i w2=>∃m:Nat,m<=rs.length/\i=.int .i64 m/\Hid (BL V w2)) (fun i _=>rs.length-(intOf i).toNat);case atStart=>exact⟨0,zxa _,rfl,hid (R.out _)⟩
   case round=>
    obtain⟨m,hm,rfl,g⟩:=hrel;obtain⟨hx,s⟩:=B.out wr g.out;by_cases H:m<rs.length
    ·obtain⟨p,X, -,r⟩:=(HX.out wr g.out).at H
     obtain⟨q,Y, -,I⟩:=(Q.out wr g.out).at H;have Z:=zN m
     have aa:=zL m rs.length
     have K5:Hid (∀nq,CP 15 #[p,q] (wr.drewN nq) fun e J=>e=.returned (.bool true)/\∃m,J=wr.drewN m):=hid (fun nq=>(rJ rs[m] rs[m] p q _ _ (wr.drewN nq) (bB.keep r (aH.below (aJ aG nq))) (bB.keep I (aH.below (aJ aG nq)))).mono fun e J h=>⟨by rw[h.1,decide_eq_true rfl],by obtain⟨n,hn⟩:=h.2;exact⟨nq+n,by rw[hn,World.drewN_drewN]⟩⟩);have K9:=hid (fun n=>g.out.trans ((aJ (Below.refl wr.heap.size wr) n).mono g.out.size));clear r I;go_wp2;go_quiet ((exact K5.out _));go_wp2;go_roundw;case rel=>exact⟨m+1,aD,zG,hid (K9.out _)⟩
     exact zI
    ·have cN:=aR HB g.out
     go_wp2;go_roundw;case rel=>exact⟨k+1,aD,zG,cN⟩
     exact zI
  ·exact am5
end Go.Proofs.YtohddpbgflgiaaaGreatDoor
namespace Go.Proofs.YtohddpbgflgiaaaGreatDoor.Cz
def exK:iQ:=[[-1, -2],[-1,0]]
def exW:Wd:=[[[7,5],[8,3]],[[2,0],[1,0]]]
def exV:Wd:=[[[0,3],[0,5]],[[0,1],[0,1]]]
def exU:Wd:=[[[1,3],[2,5]],[[9,1],[8,1]]]
theorem ajZ:canon exK exW=some exV:=by decide+kernel
theorem ex_u:canon exK exU=some exV:=by decide+kernel
theorem RN:nH exK exW where
 lk:=rfl
 r k i a b:=by
  have a:k<2:=a;have h:k=0\/k=1:=aD
  rcases h with rfl|rfl<;>(have b:i<2:=b;have h:i=0\/i=1:=by omega)<;>rcases h with rfl|rfl<;>rfl
 ref k i f a b c hr:=by
  have a:k<2:=a;have h:k=0\/k=1:=aD
  rcases h with rfl|rfl
  ·have c:f<2:=c
   have h:f=0\/f=1:=aD
   rcases h with rfl|rfl<;>exact absurd hr iG
  ·have c:f<2:=c
   have h:f=0\/f=1:=aD
   rcases h with rfl|rfl
   ·exact absurd hr iG
   ·have b:i<2:=b
    have h:i=0\/i=1:=aD
    rcases h with rfl|rfl<;>exact⟨iG,iG,iG⟩
 code k f:=by
  unfold fk exK;match k,f with
  |0,0=>decide
  |0,1=>decide
  |0,f+2=>simp
  |1,0=>decide
  |1,1=>decide
  |1,f+2=>simp
  |k+2,f=>simp
end Go.Proofs.YtohddpbgflgiaaaGreatDoor.Cz
namespace Go.Proofs.YtohddpbgflgiaaaGreatDoor.Cz
theorem Hg:∀(l:Row) (c:Int->Nat),1<=eO c l
 |[],_=>aL
 |x::t,c=>by
  unfold eO;have:=Hg t (fun y=>if y=x then c y+1 else c y);exact Nat.mul_le_mul (show 1<=c x+1 by omega) this
theorem xV:∀(l:Row) (c:Int->Nat) (x:Int),eO c (l++[x])=eO c l*(c x+l.count x+1)
 |[],c,x=>by simp[eO]
 |y::t,c,x=>by
  rw[List.cons_append];unfold eO;rw[xV t,Nat.mul_assoc];congr 2;by_cases e:x=y
  ·subst e
   rw[if_pos rfl,List.count_cons_self];omega
  ·rw[if_neg e,List.count_cons_of_ne (Ne.symm e)]
theorem Pz(c:Int->Nat)(l:Row):∀t:Row,eO c l<=eO c (l++t):=by
 intro t;induction t generalizing l with
 |nil=>rw[zxp];exact aL
 |cons x t ih=>
  have a:=ih (l++[x])
  rw[zxm,List.singleton_append] at a
  refine zxb ?_ a
  rw[xV]
  exact Nat.le_mul_of_pos_right _ aD
theorem zw:∀(S:List Row) (l:Row),arr (S++[l])=arr S*eO (fun _=>0) l
 |[],l=>by simp[arr]
 |m::S,l=>by
  have:=zw S l;unfold arr at*;rw[List.cons_append,List.foldr_cons,List.foldr_cons,this,Nat.mul_assoc]
theorem aae(S:List Row):∀T:List Row,arr S<=arr (S++T):=by
 intro T;induction T generalizing S with
 |nil=>rw[zxp];exact aL
 |cons l T ih=>
  have a:=ih (S++[l])
  rw[zxm,List.singleton_append] at a
  refine zxb ?_ a
  rw[zw]
  exact Nat.le_mul_of_pos_right _ (Hg _ _)
theorem aaf{S:List Row}{k:Nat}(a:k<S.length)(i:Nat):arr (S.take k)*eO (fun _=>0) (S[k].take i)<=arr S:=by
 have b:arr (S.take k)*eO (fun _=>0) (S[k].take i)<=arr (S.take (k+1)):=by
  rw[yh a,zw];refine Nat.mul_le_mul_left _ ?_;have:=Pz (fun _=>0) (S[k].take i) (S[k].drop i);rwa [List.take_append_drop] at this
 refine zxb b ?_;have:=aae (S.take (k+1)) (S.drop (k+1));rwa [List.take_append_drop] at this
theorem aag(l:Row){i:Nat}(a:i<l.length):eO (fun _=>0) (l.take (i+1))=eO (fun _=>0) (l.take i)*((l.take i).count l[i]+1):=by
 rw[yh a,xV,zxn]
end Go.Proofs.YtohddpbgflgiaaaGreatDoor.Cz
namespace Go.Proofs.YtohddpbgflgiaaaGreatDoor
open Go.RowKit
theorem Me{x:aC.cE}(o:aC.eT x){W:aC.dw}(h:Cz.nH (aM x) W)(p:aC.total W<=512):bU.sV x W=true:=by
 have q:W.length=x.ah.length:=by rw[h.lk,jc]
 unfold bU.sV;simp only[pR,oW,alU,List.mem_range];refine⟨⟨⟨q,fun k s r d=>?_⟩,fun r d l f=>?_⟩,p⟩
 ·obtain⟨i,a,rfl⟩:=zxf d
  have:=h.r k i s a;rw[dJ x aD] at this;rw[<-this];unfold Cz.row;rw[Cz.bh a]
 ·obtain⟨b,c,m,t,v⟩:=bU.Gp d
  obtain⟨i,a,rfl⟩:=zxf f;have u:=o r.kind r.field b c m;have e:iE x r.kind r.field=aC.eD x r.kind r.field:=by unfold iE;rw[if_neg aD,if_pos m]
  have n:=h.ref r.kind i r.field aD a (by rw[dJ x b];exact c) (by rw[mg x b c,e];exact u);rw[mg x b c,e] at n;obtain⟨w,g,j⟩:=n;unfold Cz.cell Cz.row at g j;rw[Cz.bh a] at g j;rw[t];refine⟨g,?_⟩;unfold Cz.len at j;unfold aC.gK;omega
theorem Uv{x:aC.cE}(a:aC.okB x=true)(b:aC.eT x){W:aC.dw}(h:Cz.nH (aM x) W)(c:aC.total W<=512):bU.Ag x W (nX W)=0:=by
 unfold bU.Ag;rw[if_pos a,if_pos (Me b h c),if_pos];unfold bU.sj nX;simp
end Go.Proofs.YtohddpbgflgiaaaGreatDoor
namespace Go.Proofs.YtohddpbgflgiaaaGreatDoor.Cz
def OkS(w:Wd)(S:List Row):Prop:=S.length=w.length/\∀k,k<w.length->(S.getD k []).length=len w k
theorem Mf{ks:iQ}{w:Wd}{P:List Row}(n:Nat)(h:diff (fF ks w P)=diff P):qv ks w (n+1) P=fF ks w P:=by
 rw[qv,if_pos h]
theorem aah{ks:iQ}{w:Wd}{P:List Row}{n:Nat}(a:OkS w P)(d:total w<=n+diff P)(h:¬diff (fF ks w P)=diff P):
  ∃m,n=m+1/\total w<=m+diff (fF ks w P)/\qv ks w (n+1) P=qv ks w (m+1) (fF ks w P)/\diff P<diff (fF ks w P)/\diff (fF ks w P)<=total w:=by
 have e:=Aq (ks:=ks) a.1 a.2;have b:=zi ks w P;have c:=Jj b.1 b.2;refine⟨n-1,aD,aD,?_,aD,c⟩;rw[qv,if_neg h,show n-1+1=n by omega]
end Go.Proofs.YtohddpbgflgiaaaGreatDoor.Cz
namespace Go.Proofs.YtohddpbgflgiaaaGreatDoor.Cz
theorem vM{α:Type}(xs:List α)(k j:Nat)(x d:α):(xs.set k x).getD j d=if k=j/\j<xs.length then x else xs.getD j d:=by
 rw[iY,List.getElem?_set,iY];by_cases h:k=j
 ·subst h
  by_cases g:k<xs.length<;>simp[g]
 ·simp[h]
def lM(w:Wd)(k i f:Nat)(y:Int):Wd:=w.set k ((w.getD k []).set i ((row w k i).set f y))
theorem mh(w:Wd)(k i f:Nat)(y:Int)(a:Nat):len (lM w k i f y) a=len w a:=by
 unfold len lM;rw[vM];split
 ·rename_i h;rw[zxl,h.1]
 ·rfl
theorem Ee(w:Wd)(k i f:Nat)(y:Int){a b:Nat}(d:k<w.length)(g:i<len w k):row (lM w k i f y) a b=if k=a/\i=b then (row w k i).set f y else row w a b:=by
 unfold row lM;rw[vM];by_cases e:k=a
 ·subst e
  rw[if_pos ⟨rfl,d⟩,vM];by_cases c:i=b
  ·subst c;rw[if_pos ⟨rfl,g⟩,if_pos ⟨rfl,rfl⟩];rfl
  ·rw[if_neg (fun h=>c h.1),if_neg (fun h=>c h.2)]
 ·rw[if_neg (fun h=>e h.1),if_neg (fun h=>e h.1)]
theorem Hh(w:Wd)(k i f:Nat)(y:Int){a b c:Nat}(g:k<w.length)(j:i<len w k)(l:f<(row w k i).length):cell (lM w k i f y) a b c=if k=a/\i=b/\f=c then y else cell w a b c:=by
 unfold cell;rw[Ee w k i f y g j];by_cases e:k=a/\i=b
 ·rw[if_pos e,vM]
  obtain⟨rfl,rfl⟩:=e;by_cases d:f=c
  ·subst d;rw[if_pos ⟨rfl,l⟩,if_pos ⟨rfl,rfl,rfl⟩]
  ·rw[if_neg (fun h=>d h.1),if_neg (fun h=>d h.2.2)]
 ·rw[if_neg e,if_neg (fun h=>e ⟨h.1,h.2.1⟩)]
theorem aai{ks:iQ}{w:Wd}(h:nH ks w){k i f:Nat}(b:k<w.length)(c:i<len w k)(g:f<(ks.getD k []).length)(e:fk ks k f<0)(y:Int):nH ks (lM w k i f y) where
 lk:=by unfold lM;rw[zxl];exact h.lk
 code:=h.code
 r k' i' hk' hi':=by
  have a:k'<w.length:=by unfold lM at hk';rwa [zxl] at hk'
  rw[mh] at hi';rw[Ee w k i f y b c];split
  ·rename_i q;obtain⟨rfl,rfl⟩:=q;rw[zxl];exact h.r k i b c
  ·exact h.r k' i' a hi'
 ref k' i' f' hk' hi' hf' hr:=by
  have a:k'<w.length:=by unfold lM at hk';rwa [zxl] at hk'
  rw[mh] at hi';obtain⟨j,l,m⟩:=h.ref k' i' f' a hi' hf' hr
  have d:¬(k=k'/\i=i'/\f=f'):=by
   rintro ⟨rfl,rfl,rfl⟩;omega
  rw[Hh w k i f y b c (by rw[h.r k i b c];exact g),if_neg d,mh];exact⟨by unfold lM;rw[zxl];exact j,l,m⟩
end Go.Proofs.YtohddpbgflgiaaaGreatDoor.Cz
namespace Go.Proofs.YtohddpbgflgiaaaGreatDoor
open Go.RowKit
def mM(c:Int)(r:Option Cz.Wd)(w:World)(e:Ending)(w':World):Prop:=
 (match r with
  |some v=>∃a n c,e=.returned (.tuple #[.slice a n c,.int .i64 0])/\cM (w.heap.size<=·) w' (.slice a n c) v
  |none=>e=.returned (.tuple #[.slice none 0 0,.int .i64 c]))/\BL w w'
def aaj(r:Option Cz.Wd):World->Ending->World->Prop:=mM 4 r
def Hl(r s:Option Cz.Wd):Bool:=match r,s with
 |some v,some u=>decide (v=u)
 |_,_=>false
theorem ami{p:Prop}(h:p:=by
  go_wp2
  go_ret
  exact⟨rfl,I5.out⟩):p:=h
theorem Ef{B C:Int}(D s:Option Cz.Wd)(z:Int)(f g h I J:Option Addr)(i j k l m n K L M N:Nat)(w:World)
  (O:∀W,BL w W->CP 9 #[.agg #[.int .i64 z,.slice f i j,.slice g k l,.slice h m n],.slice I K L] W (mM B D W))
  (P:∀W,BL w W->CP 9 #[.agg #[.int .i64 z,.slice f i j,.slice g k l,.slice h m n],.slice J M N] W (mM C s W))(o:B≠0)(p:C≠0):
  CB 7 #[.agg #[.int .i64 z,.slice f i j,.slice g k l,.slice h m n],.slice I K L,.slice J M N] w (.bool (Hl D s)):=by
 obtain⟨w1,hw1⟩:=bJ (w.alloc (.cells #[.int .i64 z,.slice f i j,.slice g k l,.slice h m n] 27));have c:BL w w1:=Cx
 have E:w1.heap[w.heap.size]?=some (.cells #[.int .i64 z,.slice f i j,.slice g k l,.slice h m n] 27 (0,0)):=J7
 have e1:(B==0)=false:=by simpa using o
 have e2:(C==0)=false:=by simpa using p
 have H1:=hid (O w1 c);have X:=hid P;have Q:=hid E;have Y:=hid hw1;have F:=hid c;clear O P hw1 c o p;obtain⟨t,x,y,A⟩:=b4z E;clear E;go_enter func7,ntmps7;go_upto_region 1 with fail;rw[<-Y.out];go_wp2_with fail;refine H1.out.mono ?_;rintro e w2 ⟨R,b⟩;have S:=hid b;have T:=hid (X.out w2 (bO F.out b));clear t x y A;obtain⟨t,x,y,A⟩:=b4z ((b.block _ (aI Q.out)).trans Q.out);clear b;cases D with
 |none=>
  obtain rfl:=R
  go_wp2_with fail
  refine T.out.mono ?_
  rintro e w3 ⟨q,a⟩
  have I5:Hid (BL w w3):=hid (bO F.out (bO S.out a))
  clear a t x y A
  cases s with
  |none=>
   obtain rfl:=q
   exact ami
  |some u=>
   obtain⟨Z,n3,c3,rfl, -⟩:=q
   exact ami
 |some v=>
  obtain⟨a2,n2,c2,rfl,U⟩:=R
  have G:=hid (cM.sl U)
  clear U
  go_wp2_with fail
  refine T.out.mono ?_
  rintro e w3 ⟨q,a⟩
  have I5:Hid (BL w w3):=hid (bO F.out (bO S.out a))
  have cN:=hid a
  clear a t x y A
  cases s with
  |none=>
   obtain rfl:=q
   exact ami
  |some u=>
   obtain⟨Z,n3,c3,rfl,V⟩:=q
   have HS:=hid (Us v u _ _ _ _ w3 (bK.keep G.out (aH.below cN.out)) (cM.sl V))
   have HL:Hid (Hl (some v) (some u)=decide (v=u)):=hid rfl
   clear V
   generalize decide (v=u)=d at*
   go_wp2_with fail
   refine HS.out.mono ?_
   rintro e w4 ⟨rfl,r⟩
   have H:=aR I5 r
   clear r
   go_wp2
   go_ret
   exact⟨by rw[HL.out];rfl,H.out⟩
end Go.Proofs.YtohddpbgflgiaaaGreatDoor
namespace Go.Proofs.YtohddpbgflgiaaaGreatDoor.Cz
theorem Uw(l:List Wd)(v:Wd):best (l++[v])=some (match best l with
  |none=>v
  |some b=>if sC v b<0 then v else b):=by
 unfold best;rw[List.foldl_append,List.foldl_cons,List.foldl_nil];split
 ·rename_i h;rw[h]
 ·rename_i b h
  rw[h];simp only;split<;>rfl
def oz(sort a:Row)(n:Nat)(o:List Nat)(i:Nat):List (List Nat):=
 ((List.range i).filter (fun i=>decide (i∉o/\sort.getD i 0=a.getD o.length 0))).flatMap fun i=>l9 sort a n (o++[i])
theorem PA(sort a:Row)(n:Nat)(o:List Nat):oz sort a n o 0=[]:=rfl
theorem Ux{sort a:Row}{n:Nat}{o:List Nat}{i:Nat}(h:i∉o/\sort.getD i 0=a.getD o.length 0):oz sort a n o (i+1)=oz sort a n o i++l9 sort a n (o++[i]):=by
 unfold oz;rw[zxs,alX,List.flatMap_append]
 have:(List.filter (fun i=>decide (i∉o/\sort.getD i 0=a.getD o.length 0)) [i])=[i]:=by
  exact List.filter_cons_of_pos (p:=fun i=>decide (i∉o/\sort.getD i 0=a.getD o.length 0)) (decide_eq_true h)
 rw[this,alZ,List.flatMap_nil,zxp]
theorem Mg{sort a:Row}{n:Nat}{o:List Nat}{i:Nat}(h:¬(i∉o/\sort.getD i 0=a.getD o.length 0)):oz sort a n o (i+1)=oz sort a n o i:=by
 unfold oz;rw[zxs,alX,List.flatMap_append]
 have:(List.filter (fun i=>decide (i∉o/\sort.getD i 0=a.getD o.length 0)) [i])=[]:=by
  exact List.filter_cons_of_neg (p:=fun i=>decide (i∉o/\sort.getD i 0=a.getD o.length 0)) (fun q=>h (of_decide_eq_true q))
 rw[this,List.flatMap_nil,zxp]
theorem Ho(sort a:Row)(n:Nat)(o:List Nat):oz sort a n o sort.length=l9 sort a (n+1) o:=rfl
end Go.Proofs.YtohddpbgflgiaaaGreatDoor.Cz
namespace Go.Proofs.YtohddpbgflgiaaaGreatDoor
open Go.RowKit
namespace Cz
def kP(ks:iQ)(up k:Nat):List (Nat×Nat):=(List.range k).flatMap fun a=>((List.range (ks.getD a []).length).filter (fun f=>decide (fk ks a f=up))).map fun f=>(a,f)
def lF(ks:iQ)(up k j:Nat):List (Nat×Nat):=((List.range j).filter (fun f=>decide (fk ks k f=up))).map fun f=>(k,f)
theorem sF(ks:iQ)(up k:Nat):kP ks up (k+1)=kP ks up k++lF ks up k (ks.getD k []).length:=by
 unfold kP;rw[zxs,List.flatMap_append];simp[lF]
theorem Eg(ks:iQ)(up k j:Nat):lF ks up k (j+1)=lF ks up k j++if fk ks k j=up then [(k,j)] else []:=by
 unfold lF;rw[zxs,alX,zxj];congr 1;by_cases h:fk ks k j=up<;>simp[h]
theorem Hp(ks:iQ)(up k:Nat){j:Nat}:∀{n:Nat},j<=n->lF ks up k j<+:lF ks up k n
 |0,h=>by
  obtain rfl:j=0:=aD
  exact List.prefix_refl _
 |n+1,h=>by
  by_cases e:j=n+1
  ·rw[e];exact List.prefix_refl _
  ·rw[Eg]
   exact(Hp ks up k aD).trans (List.prefix_append _ _)
theorem Hq(ks:iQ)(up:Nat){k:Nat}:∀{n:Nat},k<=n->kP ks up k<+:kP ks up n
 |0,h=>by
  obtain rfl:k=0:=aD
  exact List.prefix_refl _
 |n+1,h=>by
  by_cases e:k=n+1
  ·rw[e];exact List.prefix_refl _
  ·rw[sF]
   exact(Hq ks up aD).trans (List.prefix_append _ _)
theorem aak(ks:iQ)(up:Nat){k j:Nat}(c:k<ks.length)(b:j<=(ks.getD k []).length):kP ks up k++lF ks up k j<+:jh ks up:=by
 have a:kP ks up (k+1)<+:jh ks up:=Hq ks up (n:=ks.length) aD;rw[sF] at a;exact((List.prefix_append_right_inj _).2 (Hp ks up k b)).trans a
theorem aal(ks:iQ)(up n:Nat)(a:∀k,(ks.getD k []).length<=n):(jh ks up).length<=n*ks.length:=by
 have key:∀k,(kP ks up k).length<=n*k:=by
  intro k;induction k with
  |zero=>simp[kP]
  |succ k ih=>
   rw[sF,rK]
   have b:(lF ks up k (ks.getD k []).length).length<=(ks.getD k []).length:=by
    unfold lF;rw[sM];exact aaU
   have c:=a k
   rw[Nat.mul_succ]
   omega
 exact key ks.length
end Cz
theorem agW(x:aC.cE){k j:Nat}(c:k<x.ah.length)(d:j<(aC.kd x k).aF.length)(up:Nat):Cz.fk (aM x) k j=up↔(aC.fd x k j).kind=1/\aC.eD x k j=up:=by
 rw[mg x c d];unfold iE;by_cases b:(aC.fd x k j).kind=0
 ·rw[if_pos b];omega
 ·rw[if_neg b]
  by_cases a:(aC.fd x k j).kind=1
  ·rw[if_pos a];simp[a]
  ·rw[if_neg a];simp[a]
theorem dO.aam{S:Nat->Prop}{w:World}{x:aC.cE}{z:Int}{a i j:Option Addr}{n l m p q r:Nat}(s:dO S w (.agg #[.int .i64 z,.slice a n p,.slice i l q,.slice j m r]) x){k:Nat}(t:k<x.ah.length):
  ∃b c,dV b x.ah[k].aF.length/\∀W,aH S w W->W.cell? ⟨bM a,bT a+k*4,none⟩=some (.string x.ah[k].name)/\W.cell? ⟨bM a,bT a+k*4+1,none⟩=some (.int .i64 x.ah[k].lo)/\W.cell? ⟨bM a,bT a+k*4+2,none⟩=some (.int .i64 x.ah[k].hi)/\
   W.cell? ⟨bM a,bT a+k*4+3,none⟩=some (.slice b x.ah[k].aF.length c)/\dx S W (.slice b x.ah[k].aF.length c) x.ah[k].aF:=by
 obtain⟨G,WD,u,v,H,I,y,d, -, -, -, -, -⟩:=s.form;cases y;obtain⟨A,B,C,D,E,J,F,g⟩:=iC.at d t;obtain⟨b,c,rfl,f, -, -⟩:=g.form;refine⟨b,c,f,fun W h=>?_⟩;have e:∀(o:Nat),W.cell? ⟨bM a,o,none⟩=w.cell? ⟨bM a,o,none⟩:=fun o=>al1 (h _ B A);exact⟨(e _).trans C,(e _).trans D,(e _).trans E,(e _).trans F,g.keep h⟩
def oL:Nat->Obj->Prop:=cellsOf [3,22]
theorem oL.not{b:Nat}{c:Array Value}{t:TypeId}{f:Nat×Nat}(h1:t≠3)(h2:t≠22):¬oL b (.cells c t f):=by simp[oL,cellsOf,ofT,h1,h2]
theorem Uy(x:aC.cE)(t:∀k∈x.ah,k.aF.length<=20)(ai:x.ah.length<=10)(up:Nat)(r u v R:Option Addr)(y z C T U:Nat)(S:Nat->Prop)(w:World)
  (V:dO S w (.agg (sBx x r u v y z C)) x)
  (b1 b2 b3:Addr)(J:List (Nat×Nat)->World->Prop)(D:∀pre W,J pre W->aH S w W)(X:∀pre A B,J pre A->BL A B->J pre B)
  (n0:Nat)(Y:n0<=w.heap.size)(hY:∀pre (p:Nat×Nat) W,J pre W->pre++[p]<+:Cz.jh (aM x) up->CP 119 #[.int .i64 (p.1:Int),.int .i64 (p.2:Int),.pointer (some b1),.pointer (some b2),.pointer (some b3)] W fun e E=>
   e=.returned (.tuple #[])/\J (pre++[p]) E/\aY oL n0 W E) (h0:J [] w):
  CP 118 #[.agg #[.int .i64 x.aQ,.slice r x.ah.length y,.slice u x.aV.length z,.slice v x.aX.length C,.slice R T U],.int .i64 (up:Int),.func (.func 119) #[] #[.pointer (some b1),.pointer (some b2),.pointer (some b3)]] w fun e E=>
   e=.returned (.tuple #[])/\J (Cz.jh (aM x) up) E/\aY oL n0 w E:=by
 have aj:dV r x.ah.length:=by obtain⟨WC,WD,am,an,WE,WG,he, -, -, -,h, -⟩:=V.form;cases he;exact h
 obtain⟨w1,hw1⟩:=bJ (w.alloc (.cells #[.int .i64 x.aQ,.slice r x.ah.length y,.slice u x.aV.length z,.slice v x.aX.length C,.slice R T U] 124));have i:BL w w1:=Cx
 have Z:w1.heap.size=w.heap.size+1:=J6
 have HX:Hid (∀W,aY oL n0 w1 W->W.heap[w.heap.size]?=some (.cells #[.int .i64 x.aQ,.slice r x.ah.length y,.slice u x.aV.length z,.slice v x.aX.length C,.slice R T U] 124 (0,0))):=hid (fun W hW=>hW.2 _ _ J7 (oL.not iG iG));have Uz:=hid t;clear t;have HV:=hid V;have l:=hid D;have HJ:=hid X;have HY:=hid hY;have aa:=hid (X _ _ _ h0 i);have Gj:Hid (aY oL n0 w w1):=hid (aY.bg i Y);have ab:=hid hw1;have HT:Hid (Cz.jh (aM x) up=Cz.kP (aM x) up x.ah.length):=hid (by unfold Cz.jh;rw[jc];rfl);have F:n0<=w1.heap.size:=aD
 clear V D X hY h0 hw1 i Z;have x1:=(aP (HX.out w1 (aY.refl _ _ _)) 1);simp only[List.getElem?_toArray,List.getElem?_cons_succ,List.getElem?_cons_zero] at x1;go_enter func118,ntmps118;go_upto_region 1 with fail;rw[<-ab.out];go_wp2;clear x1;go_loopw [13] (fun kk wr=>∃k:Nat,k<=x.ah.length/\kk=.int .i64 k/\Hid (J (Cz.kP (aM x) up k) wr)/\Hid (aY oL n0 w1 wr)) (fun kk _=>x.ah.length-(intOf kk).toNat);case atStart=>exact⟨0,zxa _,rfl,aa,hid (aY.refl _ _ _)⟩
 case round=>
  obtain⟨k,hk,rfl,HR,HK⟩:=hrel;by_cases a:k<x.ah.length
  ·have ao:=zN k
   have ap:=zL k x.ah.length
   obtain⟨af,cf,ad,m⟩:=HV.out.aam a;have sZ:=hid m;obtain⟨k0,k1,k2,k3, -⟩:=m wr (l.out _ _ HR.out);have b:Hid ((aC.kd x k).aF.length=x.ah[k].aF.length):=hid (by rw[dH a]);clear m;obtain⟨f,g⟩:=bJ (x.ah[k].aF.length);have AL:=hid g;have aq:f<=20:=by rw[g];exact Uz.out _ (eV a)
   rw[<-g] at k3 ad sZ b;clear g;obtain⟨w4,hw⟩:=bJ (wr.alloc (.cells #[.string x.ah[k].name,.int .i64 x.ah[k].lo,.int .i64 x.ah[k].hi,.slice af f cf] 53));have n:BL wr w4:=R7
   have o:Hid (aY oL n0 w1 w4):=hid (HK.out.trans (aY.bg n (zxb F HK.out.1.size)))
   have zu:Hid (J (Cz.kP (aM x) up k++Cz.lF (aM x) up k 0) w4):=hid (by
    have:=HJ.out _ _ _ HR.out n
    simpa [Cz.lF] using this)
   have G:w4.heap[wr.heap.size]?=some (.cells #[.string x.ah[k].name,.int .i64 x.ah[k].lo,.int .i64 x.ah[k].hi,.slice af f cf] 53 (0,0)):=ahT
   have zP:Hid (∀W,aY oL n0 w4 W->W.cell? ⟨wr.heap.size,3,none⟩=some (.slice af f cf)):=hid (fun W hW=>aP (hW.2 _ _ G (oL.not iG iG)) 3);have c3:=zP.out w4 (aY.refl _ _ _);have Fy:=hid hw;clear hw n G;go_upto_region 4 with fail;rw[<-Fy.out];clear k0 k1 k2 k3;go_wp2;clear c3;generalize Lx:wr=Wb at*;go_loopw [21] (fun jj wr=>∃j:Nat,j<=f/\jj=.int .i64 j/\Hid (J (Cz.kP (aM x) up k++Cz.lF (aM x) up k j) wr)/\Hid (aY oL n0 w4 wr)) (fun jj _=>f-(intOf jj).toNat);case atStart=>exact⟨0,zxa _,rfl,zu,hid (aY.refl _ _ _)⟩
   case round=>
    obtain⟨j,hj,rfl,d,c⟩:=hrel;by_cases hjt:j<f
    ·have au:=zN j
     have av:=zL j f
     have rG:j<x.ah[k].aF.length:=FV
     have c3:=zP.out wr c.out;obtain⟨-, -, -, -,q⟩:=sZ.out wr (l.out _ _ d.out);rw[AL.out] at q;obtain⟨-, -, -, -, -,f3, -⟩:=dx.at q rG;rw[show x.ah[k].aF[j]=aC.fd x k j from (iX a rG).symm] at f3;have HF:=hid (agW x a (by rw[b.out];exact hjt) up);have HS:=hid (Cz.Eg (aM x) up k j);have HU:=hid (uE x k j _ S wr (HV.out.keep (l.out _ _ d.out)))
     obtain⟨⟨s0,s1,s2,s3⟩, -⟩:(wr.cell? ⟨w.heap.size,0,none⟩=some (.int .i64 x.aQ)/\wr.cell? ⟨w.heap.size,1,none⟩=some (.slice r x.ah.length y)/\wr.cell? ⟨w.heap.size,2,none⟩=some (.slice u x.aV.length z)/\wr.cell? ⟨w.heap.size,3,none⟩=some (.slice v x.aX.length C))/\True:=by
      have P:=HX.out wr (o.out.trans c.out);exact⟨⟨aP P 0,aP P 1,aP P 2,aP P 3⟩,trivial⟩
     clear q;generalize (aC.fd x k j).kind=gk at*;generalize aC.eD x k j=Q at*;by_cases H:gk=1
     ·have I:Hid (Cz.fk (aM x) k j=(up:Int)↔Q=(up:Int)):=hid (HF.out.trans ⟨fun h=>h.2,fun h=>⟨H,h⟩⟩)
      clear HF;subst H;go_wp2_with fail;refine HU.out.mono ?_;rintro e w6 ⟨rfl,oH⟩;have K:Hid (J (Cz.kP (aM x) up k++Cz.lF (aM x) up k j) w6):=hid (HJ.out _ _ _ d.out oH);have JT:Hid (aY oL n0 w4 w6):=hid (c.out.trans (aY.bg oH (zxb (zxb F o.out.1.size) c.out.1.size)));clear oH s0 s1 s2 s3 f3 c3 HU;by_cases s:Q=(up:Int)
      ·have e2:(Q==(up:Int))=true:=abB s
       have nN:=I.out.2 s;have L:Hid (Cz.kP (aM x) up k++Cz.lF (aM x) up k j++[(k,j)]=Cz.kP (aM x) up k++Cz.lF (aM x) up k (j+1)):=hid (by rw[HS.out,if_pos nN,zxm])
       have hm:Cz.kP (aM x) up k++Cz.lF (aM x) up k j++[(k,j)]<+:Cz.jh (aM x) up:=by
        rw[L.out];exact Cz.aak (aM x) up (by rw[jc];exact a) (by rw[dJ x a,b.out];exact hjt)
       have M:=hid (HY.out _ (k,j) w6 K.out hm);clear hm nN s;go_wp2_with fail;refine M.out.mono ?_;rintro e w7 ⟨rfl,N,Sz⟩;have O:Hid (J (Cz.kP (aM x) up k++Cz.lF (aM x) up k (j+1)) w7):=hid (by rw[<-L.out];exact N);have KM:Hid (aY oL n0 w4 w7):=hid (JT.out.trans Sz);clear N Sz M;go_wp2;go_roundw;case rel=>exact⟨j+1,aD,zG,O,KM⟩
       exact zI
      ·have e2:(Q==(up:Int))=false:=tH s
       have O:Hid (J (Cz.kP (aM x) up k++Cz.lF (aM x) up k (j+1)) w6):=hid (by
        rw[HS.out,if_neg (fun h=>s (I.out.1 h)),zxp];exact K.out)
       clear s;go_wp2;go_roundw;case rel=>exact⟨j+1,aD,zG,O,JT⟩
       exact zI
     ·have e1:(gk==1)=false:=tH H
      have O:Hid (J (Cz.kP (aM x) up k++Cz.lF (aM x) up k (j+1)) wr):=hid (by
        rw[HS.out,if_neg (fun h=>H (HF.out.1 h).1),zxp];exact d.out)
      clear H s0 s1 s2 s3;go_wp2;go_roundw;case rel=>exact⟨j+1,aD,zG,O,c⟩
      exact zI
    ·obtain rfl:j=f:=by omega
     have ae:Hid (J (Cz.kP (aM x) up (k+1)) wr):=hid (by
      rw[Cz.sF,dJ x a,b.out];exact d.out)
     have ag:Hid (aY oL n0 w1 wr):=hid (o.out.trans c.out);go_wp2;go_roundw;case rel=>exact⟨k+1,aD,zG,ae,ag⟩
     exact zI
  ·obtain rfl:x.ah.length=k:=by omega
   have HE:Hid (J (Cz.jh (aM x) up) wr/\aY oL n0 w wr):=hid ⟨by rw[HT.out];exact HR.out,Gj.out.trans HK.out⟩;go_wp2;go_end0;exact⟨rfl,HE.out⟩
theorem sG{P:Program}{t:TypeId}{bytes:Nat}{w:World}{d:Array Oper}{rest:List Oper}{o:Oper}{a:Act}{Q:Exit->Act->World->Prop}(e:o.guard=none)(s x:Operand)
  (g:o.op=.call {callee:=.builtin .append,args:=#[s,x],argTypes:=#[t,t]})(i:kF P t 3 1 bytes)
  {S:Nat->Prop}{v:Value}{xs:List Int}(j:a.eval s=v)(hown:bp S w v xs){y:Int}{f:TypeId}
  (hx:a.eval x=.slice (some ⟨w.heap.size,0,none⟩) 1 1)(c:xs.length+1<=1000000000)
  (h:∀v' w',bp (Grow S w.heap.size) w' v' (xs++[y])->Turns (fun b=>some b=v.ownBlock) w w'->wpList P d Q rest (a.put o.dst v') w'):
  wpList P d Q (o::rest) a (w.alloc (.cells #[.int .i64 y] f)):=by
 have ha:BL w (w.alloc (.cells #[.int .i64 y] f)):=aG.alloc aL _;refine amL e s x g i j (hown.1.alloc _) _ 1 1 hx (fun _=>⟨_,_,rfl⟩) [.int .i64 y] rfl (iR w #[.int .i64 y] f) (by simp[Value.oneCell']) c (zxa _) (fun v' w' g1 g2 g3=>?_);exact aeF
theorem Jw{P:Program}{t:TypeId}{bytes:Nat}{w:World}{e:Array Oper}{rest:List Oper}{o:Oper}{a:Act}{Q:Exit->Act->World->Prop}(g:o.guard=none)(s x:Operand)
  (l:o.op=.call {callee:=.builtin .append,args:=#[s,x],argTypes:=#[t,t]})(n:kF P t 3 1 bytes)
  {S:Nat->Prop}{v:Value}{xs:List Int}(p:a.eval s=v)(f:bp S w v xs)
  {j:Option Addr}{m c:Nat}(hx:a.eval x=.slice j m c){T:Nat->Prop}{ys:List Int}(q:bB T w (.slice j m c) ys)(d:xs.length+m<=1000000000)
  (h:∀k i,bp (Grow S w.heap.size) i k (xs++ys)->Turns (fun b=>some b=v.ownBlock) w i->wpList P e Q rest (a.put o.dst k) i):
  wpList P e Q (o::rest) a w:=dI g s x l n p f aG hx q d h
namespace Cz
def oM(w:Wd)(S:List Row)(k f i n:Nat):Row:=((List.range n).filter (fun j=>decide (cell w k j f=i))).map (sg S k)
theorem UA(w:Wd)(S:List Row)(k f i n:Nat):oM w S k f i (n+1)=oM w S k f i n++if cell w k n f=i then [sg S k n] else []:=by
 unfold oM;rw[zxs,alX,zxj];congr 1;by_cases h:cell w k n f=i<;>simp[h]
theorem Mh(w:Wd)(S:List Row)(k f i:Nat):oM w S k f i (len w k)=kg w S k f i:=rfl
theorem acG(w:Wd)(S:List Row)(k f i n:Nat):(oM w S k f i n).length<=n:=by
 unfold oM;rw[sM];exact aaU
end Cz
theorem RL.cells{x:aC.cE}{W:aC.dw}{S:List (List Int)}{sv a b:Value}{p B:Nat}{w:World}(h:RL x W S sv a b p B w):w.cell? ⟨p,4,none⟩=some a/\w.cell? ⟨p,5,none⟩=some b:=by
 obtain⟨d,e,f,g,i,j, -,c⟩:=h.cell;exact⟨aP c 4,aP c 5⟩
theorem bp.isT{S:Nat->Prop}{w:World}{v:Value}{xs:List Int}(h:bp S w v xs){b:Nat}{o:Obj}(a:v.ownBlock=some b)(c:w.heap[b]?=some o):oL b o:=by
 rcases h.1.2 with d|⟨g,cap,e,rfl, -,f, -⟩
 ·rw[d.1] at a;cases a
 ·obtain rfl:g=b:=oO a
  rw[f] at c;cases c;simp[oL,cellsOf,ofT]
structure zx(p bs bi bo B i:Nat)(out:List Int)(w:World):Prop where
 s:w.heap[bs]?=some (.cells #[.pointer (some ⟨p,0,none⟩)] 74 (0,0))
 i:w.heap[bi]?=some (.cells #[.int .i64 (i:Int)] 3 (0,0))
 o:∃v,w.heap[bo]?=some (.cells #[v] 22 (0,0))/\bp (fun b=>B<=b/\b≠bs/\b≠bi/\b≠bo) w v out
 ne:bs≠bo/\bi≠bo
 le:B<=bs/\B<=bi/\B<=bo
theorem zx.next{p b c d B i:Nat}{out:List Int}{w w':World}(h:zx p b c d B i out w)(a:BL w w'):zx p b c d B i out w' where
 s:=(a.block _ (aI h.s)).trans h.s
 i:=(a.block _ (aI h.i)).trans h.i
 o:=by
  obtain⟨v,e,f⟩:=h.o;exact⟨v,(a.block _ (aI e)).trans e,aW.keep f (aH.below a)⟩
 ne:=h.ne
 le:=h.le
theorem UB(x:aC.cE)(W:aC.dw)(S:List (List Int))(sv wv uv:Value)(p B:Nat)(w:World)(h:RL x W S sv wv uv p B w)(hS:Cz.OkS W S)(k f i:Nat)(G:k<W.length)(hf:∀j,j<Cz.len W k->f<(Cz.row W k j).length)
  (h5:Cz.len W k<=1000)(H I l:Nat)(out:List Int)(V:out.length<=1000000)(X:zx p H I l B i out w):
  CP 119 #[.int .i64 (k:Int),.int .i64 (f:Int),.pointer (some ⟨H,0,none⟩),.pointer (some ⟨I,0,none⟩),.pointer (some ⟨l,0,none⟩)] w fun e w'=>
   e=.returned (.tuple #[])/\zx p H I l B i (out++((Cz.kg W S k f i).length:Int)::Cz.eU Cz.dB (Cz.kg W S k f i)) w'/\aY oL B w w':=by
 have ai:B<=w.heap.size:=zxb X.le.1 (Nat.le_of_lt (aI X.s));have HH:=hid h;have g:=hid X;obtain⟨aw,cw,rfl,UC, -, -⟩:=h.ze.form;obtain⟨au,cu,rfl,aN, -, -⟩:=h.E7.form;obtain⟨x4,x5⟩:=h.cells;obtain⟨vr,Sw, -,J⟩:=h.ze.at G;have K:k<S.length:=by rw[hS.1];exact G
 have ZE:Hid (S[k].length=W[k].length):=hid (by
  have:=hS.2 k G
  rw[Cz.bh K] at this
  rw[this];unfold Cz.len;rw[Cz.bh G])
 have rS:Hid (Cz.len W k=W[k].length):=hid (by unfold Cz.len;rw[Cz.bh G]);obtain⟨ar,cr,rfl,ak, -, -⟩:=J.form;have x6:=(one_cell X.s).1;have x7:=(one_cell X.i).1;have aO:=zN k
 have aP:=zL k W.length
 have aK:=zL k S.length
 have aQ:=zN f
 have HF:=hid hf;have aR:=hid h5;have HO:=hid V;have L:=hid ai;have Fz:=hid J;obtain⟨Y,qg⟩:=bJ (W[k].length);rw[<-qg] at Sw ak Fz;have HN:=hid qg;have E1:Hid (Y<=1000):=hid (by rw[qg,<-rS.out];exact h5);have aS:=E1.out;clear J hS hf h5 V h X qg;go_enter func119,ntmps119;go_wp2;clear x4 x5 x6 x7 Sw;go_loopw [7,19] (fun ov jj wr=>∃(j:Nat) (own:List Int),j<=Y/\jj=.int .i64 j/\own.length<=j/\Hid (own=Cz.oM W S k f i j)/\Hid (bp (w.heap.size<=·) wr ov own)/\Hid (BL w wr)) (fun _ jj _=>Y-(intOf jj).toNat);case atStart=>exact⟨0,[],zxa _,rfl,aL,hid rfl,hid (bp.nil _ _),hid aG⟩
 case round=>
  obtain⟨j,own,hj,rfl,Jd,M,HI,D⟩:=hrel;obtain⟨ao,co,al,O4, -, -⟩:=(bp.sl HI.out).form;subst al;have aa:=hid (HH.out.keep (D.out.mono L.out));have ab:=hid (g.out.next D.out);have x6:=(one_cell ab.out.s).1;have x7:=(one_cell ab.out.i).1;obtain⟨x4,x5⟩:=aa.out.cells;by_cases r:j<Y
  ·have m:j<W[k].length:=by rw[<-HN.out];exact r
   have N:j<S[k].length:=by rw[ZE.out];exact m
   obtain⟨vj,am, -,O⟩:=(Fz.out.keep (aH.bg (D.out.mono L.out) (fun _ h=>h))).at m;obtain⟨aj,cj,rfl,aM, -, -⟩:=O.form
   have P:f<W[k][j].length:=by
    have:=HF.out j (by rw[rS.out];exact m);unfold Cz.row at this;rwa [Cz.bh G,Cz.bh m] at this
   obtain⟨uf,an, -,Q⟩:=O.at P;obtain rfl:uf=.int .i64 W[k][j][f]:=Q;obtain⟨vs,ap, -,R⟩:=aa.out.E7.at K;obtain⟨sx,cs,rfl,aT, -, -⟩:=R.form;obtain⟨us,wB, -,Q⟩:=R.at N;obtain rfl:us=.int .i64 S[k][j]:=Q
   have HC:Hid (Cz.cell W k j f=W[k][j][f]/\Cz.sg S k j=S[k][j]):=hid (by
    unfold Cz.cell Cz.row Cz.sg
    rw[Cz.bh G,Cz.bh m,Cz.bh P,Cz.bh K,Cz.bh N]
    exact⟨rfl,rfl⟩)
   have aU:=zN j
   have aV:=zL j Y
   have aX:(j:Int)<(S[k].length:Int):=aD
   have aZ:(f:Int)<(W[k][j].length:Int):=aD
   have ad:=hid (Cz.UA W S k f i j);generalize W[k][j][f]=z at*;generalize S[k][j]=y at*;clear P N R O;generalize W[k][j].length=nj at*;clear m;generalize S[k].length=ns at*;have HD:=hid (fun n=>D.out.trans ((aJ (Below.refl wr.heap.size wr) n).mono D.out.size));have v:=hid (fun n=>aW.keep HI.out (aH.below (aJ (Below.refl wr.heap.size wr) n)));by_cases Z:z=(i:Int)
   ·have e1:(z==(i:Int))=true:=abB Z
    have wQ:Hid (own++[y]=Cz.oM W S k f i (j+1)):=hid (by rw[ad.out,if_pos (HC.out.1.trans Z),HC.out.2,M.out]);have vX:own.length+1<=1000000000:=by have:=E1.out;omega
    clear Z;go_wp2;go_quiet (fail);go_wp2_with (at_builtin;go_must (refine sG rfl _ _ rfl Tryz.jG rfl (v.out _) rfl vX ?_));intro v' E FU A;have F:Hid (bp (w.heap.size<=·) E v' (own++[y])):=hid (aW.mono FU (fun b _ d=>d.elim (fun h=>h.1) (fun h=>zxb D.out.size h)));have ou:Hid (BL w E):=hid ((HD.out _).trans (A.below (HD.out _).size (fun b d=>by have:=HI.out.2 b d.symm;exact this)));clear FU A x4 x5 x6 x7 am an ap wB;go_wp2;go_roundw;case rel=>exact⟨j+1,_,aD,zG,jo,wQ,F,ou⟩
    exact zI
   ·have e1:(z==(i:Int))=false:=tH Z
    have wQ:Hid (own=Cz.oM W S k f i (j+1)):=hid (by rw[ad.out,if_neg (by rw[HC.out.1];exact Z),zxp,M.out]);clear Z;go_wp2;go_quiet (fail);go_wp2;go_roundw;case rel=>exact⟨j+1,own,aD,zG,aD,wQ,hid (v.out _),hid (HD.out _)⟩
    exact zI
  ·obtain rfl:j=Y:=by omega
   have aq:Hid (own=Cz.kg W S k f i):=hid (by rw[M.out,HN.out,<-rS.out,Cz.Mh]);have Bj:=hid (G9 _ own (by have:=E1.out;omega) _ wr HI.out);clear x4 x5 x6 x7;go_wp2_with fail;refine Bj.out.mono ?_;rintro e w2 ⟨rfl,uX,ae⟩;have u:Hid (BL w w2):=hid (D.out.trans (ae.below D.out.size (fun b d=>HI.out.2 b d.symm)));obtain⟨vo,C,T⟩:=g.out.o;have K4:=(u.out.block _ (aI C)).trans C;have Tl:=aW.keep T (aH.below u.out);have UD:=hid (fun b d=>(T.1.lt b d).2);have kQ:=hid (aI C);obtain⟨av,ax,rfl,a0, -, -⟩:=(bp.sl Tl).form;have q:=hid Tl;have v:=hid uX;have a1:Hid ((Cz.eU Cz.dB own).length=own.length):=hid (Cz.fZ (c:=Cz.dB)).length_eq;have c4:=(one_cell K4).1;have GH:=hid K4;have ay:out.length+1<=1000000000:=by have:=HO.out;omega
   clear Tl uX ae O4 C T K4;go_wp2_with (at_builtin;go_must (refine sG rfl _ _ rfl Tryz.jG rfl q.out rfl ay ?_));intro v' E FU A;have af:∀b,w.heap.size<=b->b<w2.heap.size->E.heap[b]?=w2.heap[b]?:=fun b d r=>A.block b (fun e=>by have:=UD.out b e.symm;omega) r
   have F:Hid (bp (fun b=>B<=b/\b≠H/\b≠I/\b≠l) E v' (out++[(own.length:Int)])):=hid (aW.mono FU (fun b _ d=>by
    have h1:=aI g.out.s;have h2:=aI g.out.i;have h3:=kQ.out;have h4:=u.out.size;have h5:=L.out;rcases d with h|h
    ·exact h.1
    ·exact⟨aD,aD,aD,aD⟩))
   have JW:Hid (aY oL B w E):=hid ((aY.bg u.out L.out).trans (aY.eX A (zxb L.out u.out.size) (fun b d=>(q.out.2 b d.symm).1) (fun b o d V=>q.out.isT d.symm V)));have Eh:E.heap[l]?=some (.cells #[.slice av out.length ax] 22 (0,0)):=(A.block _ (fun e=>(q.out.2 _ e.symm).2.2.2 rfl) (aI GH.out)).trans GH.out;have Jy:=(A.block _ (fun e=>(q.out.2 _ e.symm).2.1 rfl) (oN (aI g.out.s) u.out.size)).trans ((u.out.block _ (aI g.out.s)).trans g.out.s);have Jz:=(A.block _ (fun e=>(q.out.2 _ e.symm).2.2.1 rfl) (oN (aI g.out.i) u.out.size)).trans ((u.out.block _ (aI g.out.i)).trans g.out.i);have az:=hid (And.intro Eh (And.intro Jy Jz));have aA:Hid (bB (w.heap.size<=·) E (.slice ao own.length co) (Cz.eU Cz.dB own)):=hid ((bp.sl v.out).keep (fun b d r=>af b d r));have aB:(out++[(own.length:Int)]).length+own.length<=1000000000:=by have:=HO.out;have:=E1.out;simp;omega
   obtain⟨a8,n8,c8,rfl⟩:∃a n c,v'=.slice a n c:=abl
   clear FU A af Eh Jy Jz c4;go_wp2_with (at_builtin;go_must (refine Jw rfl _ _ rfl Tryz.jG rfl F.out rfl aA.out aB ?_));intro U w9 FM sS
   have aE:Hid (bp (fun b=>B<=b/\b≠H/\b≠I/\b≠l) w9 U (out++((Cz.kg W S k f i).length:Int)::Cz.eU Cz.dB (Cz.kg W S k f i))):=hid (by
    rw[<-aq.out]
    have:=aW.mono FM (S':=fun b=>B<=b/\b≠H/\b≠I/\b≠l) (fun b _ d=>by
     have h1:=aI g.out.s;have h2:=aI g.out.i;have h3:=kQ.out;have h4:=u.out.size;have h5:=L.out;have h6:=JW.out.1.size;rcases d with h|h
     ·exact h.1
     ·exact⟨aD,aD,aD,aD⟩)
    simpa using this)
   have Wm:Hid (aY oL B w w9):=hid (JW.out.trans (aY.eX sS (zxb L.out JW.out.1.size) (fun b d=>(F.out.2 b d.symm).1) (fun b o d V=>F.out.isT d.symm V)));obtain⟨Eh,Jy,Jz⟩:=az.out;have t:=(sS.block _ (fun e=>(F.out.2 _ e.symm).2.2.2 rfl) (aI Eh)).trans Eh;have ag:=(sS.block _ (fun e=>(F.out.2 _ e.symm).2.1 rfl) (aI Jy)).trans Jy;have ah:=(sS.block _ (fun e=>(F.out.2 _ e.symm).2.2.1 rfl) (aI Jz)).trans Jz;have O9:Hid (aY oL B w (w9.setCell ⟨l,0,none⟩ U)):=hid (Wm.out.setCell (p:=⟨l,0,none⟩) t (by simp[oL,cellsOf,ofT]) g.out.le.2.2 U)
   have JA:Hid (zx p H I l B i (out++((Cz.kg W S k f i).length:Int)::Cz.eU Cz.dB (Cz.kg W S k f i)) (w9.setCell ⟨l,0,none⟩ U)):=hid {
    s:=(mO _ ⟨l,0,none⟩ _ _ g.out.ne.1).trans ag
    i:=(mO _ ⟨l,0,none⟩ _ _ g.out.ne.2).trans ah
    o:=⟨U,one_set U t,aW.keep aE.out (fun b d _=>mO _ ⟨l,0,none⟩ _ _ d.2.2.2)⟩
    ne:=g.out.ne
    le:=g.out.le}
   obtain⟨a9,n9,c9,aF⟩:∃a n c,U=.slice a n c:=by obtain⟨a,c,e,_⟩:=(bp.sl FM).form;exact⟨_,_,_,e⟩
   have c9:=(one_cell t).1;have a2:=(one_cell t).2;clear FM sS Eh Jy Jz t ag ah;subst aF;go_wp2;go_end0;exact⟨rfl,JA.out,O9.out⟩
namespace Cz
def oC(ks:iQ)(w:Wd)(S:List Row)(k i n:Nat):Row:=((List.range n).filter (fun f=>decide (0<=fk ks k f))).map (fun f=>sg S (fk ks k f).toNat (cell w k i f).toNat)
def Ei(ks:iQ)(w:Wd)(S:List Row)(k i:Nat):Row:=oC ks w S k i (ks.getD k []).length
theorem PD(ks:iQ)(w:Wd)(S:List Row)(k i n:Nat):oC ks w S k i (n+1)=oC ks w S k i n++if 0<=fk ks k n then [sg S (fk ks k n).toNat (cell w k i n).toNat] else []:=by
 unfold oC;rw[zxs,alX,zxj];congr 1;by_cases h:0<=fk ks k n<;>simp[h]
theorem Mi(ks:iQ)(w:Wd)(S:List Row)(k i n:Nat):(oC ks w S k i n).length<=n:=by
 unfold oC;rw[sM];exact aaU
theorem UE(ks:iQ)(w:Wd)(S:List Row)(k i:Nat):gJ ks w S k i=sg S k i::(Ei ks w S k i++(jh ks k).flatMap fun p=>((kg w S p.1 p.2 i).length:Int)::eU dB (kg w S p.1 p.2 i)):=rfl
theorem RO{α b:Type}(g:α->List b)(m:Nat)(h:∀a,(g a).length<=m):∀l:List α,(l.flatMap g).length<=l.length*m
 |[]=>by simp
 |a::l=>by
  have c:=RO g m h l;have d:=h a;rw[alZ,rK,zxg,Nat.succ_mul];omega
end Cz
theorem aH.back{S:Nat->Prop}{w a b:World}(h:aH S w a)(g:aH S w b)(d:∀k,S k->k<w.heap.size):aH S a b:=fun k c _=>(g k c (d k c)).trans (h k c (d k c)).symm
theorem RL.mono{x:aC.cE}{W:aC.dw}{S:List (List Int)}{sv c d:Value}{p B e:Nat}{w:World}(h:RL x W S sv c d p B w)(hB:B<=e):RL x W S sv c d p e w where
 cell:=h.cell
 xk:=h.xk.mono (fun b _ a=>oN a hB)
 ze:=h.ze.mono (fun b _ a=>oN a hB)
 E7:=h.E7.mono (fun b _ a=>oN a hB)
 pb:=oN h.pb hB
theorem amo{p:Prop}(h:p:=by
  clear mz hsl wP h6z
  go_wp2
  go_meet
  case rel=>exact⟨_,rfl,JA,nF⟩):p:=h
theorem aar(x:aC.cE)(hu:aC.eT x)(P:∀k∈x.ah,k.aF.length<=20)(bn:x.ah.length<=10)(W:aC.dw)(Nr:W.length=x.ah.length)(S:List (List Int))(ak al ar:Option Addr)(ck cl cr:Nat)(wv uv:Value)(p B:Nat)(w:World)
  (h:RL x W S (.agg (sBx x ak al ar ck cl cr)) wv uv p B w)(L:B<=w.heap.size)(Z:Cz.nH (aM x) W)(hS:Cz.OkS W S)(h5:∀k,Cz.len W k<=1000)(k i:Nat)(hk:k<W.length)(hi:i<Cz.len W k):
  CP 67 #[.pointer (some ⟨p,0,none⟩),.int .i64 (k:Int),.int .i64 (i:Int)] w fun e w'=>∃v,e=.returned v/\bp (w.heap.size<=·) w' v (Cz.gJ (aM x) W S k i)/\BL w w':=by
 have br:Hid (w.heap[p]?=some (.cells #[.int .i64 x.aQ,.slice ak x.ah.length ck,.slice al x.aV.length cl,.slice ar x.aX.length cr,wv,uv] 126 (0,0))):=hid (by
  obtain⟨WC,WD,al',cl',WE,WG,e,hc⟩:=h.cell
  cases e
  exact hc)
 obtain⟨aw,cw,rfl,UC, -, -⟩:=h.ze.form;obtain⟨G,cu,rfl,cz, -, -⟩:=h.E7.form;have bs:p<w.heap.size:=oN h.pb L;have I:Hid (∀V,BL w V->V.heap[p]?=some (.cells #[.int .i64 x.aQ,.slice ak x.ah.length ck,.slice al x.aV.length cl,.slice ar x.aX.length cr,.slice aw W.length cw,.slice G S.length cu] 126 (0,0))):=hid (fun V Q=>(Q.block _ bs).trans br.out);have D:=hid (fun V (Q:BL w V)=>h.keep (Q.mono L));have ab:k<S.length:=by rw[hS.1];exact hk
 have ox:i<W[k].length:=Cy
 have bt:Hid (Cz.len W k=W[k].length):=hid (by unfold Cz.len;rw[Cz.bh hk])
 have aE:i<S[k].length:=by
  have:=hS.2 k hk;rw[Cz.bh ab] at this;rw[this];exact hi
 have aK:Hid (Cz.sg S k i=S[k][i]):=hid (by unfold Cz.sg;rw[Cz.bh ab,Cz.bh aE]);obtain⟨vs,aO,ad,ae⟩:=h.E7.at ab;obtain⟨M,cs,rfl,cA, -, -⟩:=ae.form;obtain⟨us,wB,FA,bu⟩:=ae.at aE;obtain rfl:us=.int .i64 S[k][i]:=bu;have hkx:k<x.ah.length:=by rw[<-Nr];exact hk
 have cB:dV ak x.ah.length:=ahV
 obtain⟨af,cf,bv,aS⟩:=h.xk.aam hkx;have sZ:=hid aS;have Zc:Hid (∀V,BL w V->aH (·<B) w V):=hid (fun V Q=>aH.bg Q (fun b f=>oN f L));obtain⟨nf,R⟩:=bJ (x.ah[k].aF.length);have AL:=hid R;have UF:Hid (nf<=20):=hid (by rw[R];exact P _ (eV hkx))
 have aj4:Hid ((Cz.jh (aM x) k).length<=200):=hid (by
  have H:=Cz.aal (aM x) k 20 (fun j=>by
   by_cases hj:j<x.ah.length
   ·rw[dJ x hj,dH hj];exact P _ (eV hj)
   ·rw[iY,zxr (by rw[jc];omega)];simp)
  rw[jc] at H
  omega)
 rw[<-R] at bv sZ;have cD:=UF.out;have cF:=zN k
 have aj5:=zL k x.ah.length
 have ch:=zL k S.length
 have cG:=zN i
 have ci:(i:Int)<((S[k]).length:Int):=aD
 have HU:=hid hu;have pW:=hid Z;have zy:=hid hS;have H5:=hid h5;have Uz:=hid P;have lP:=hid L;have Mj:=hid Nr;obtain⟨w1,hw1⟩:=bJ ((w.alloc (.cells #[.pointer (some ⟨p,0,none⟩)] 74)).alloc (.cells #[.int .i64 (i:Int)] 3));have bL:Hid (Below w.heap.size w w1):=hid Qw;have Ur:Hid (w1.heap.size=w.heap.size+2):=hid J6;have ag:Hid (∀V,BL w1 V->V.heap[w.heap.size]?=some (.cells #[.pointer (some ⟨p,0,none⟩)] 74 (0,0))):=hid (fun V Q=>(Q.block _ (by rw[hw1];simp;omega)).trans (by rw[hw1];exact cC _ (bD _ _ rfl)));have ai:Hid (∀V,BL w1 V->V.heap[w.heap.size+1]?=some (.cells #[.int .i64 (i:Int)] 3 (0,0))):=hid (fun V Q=>(Q.block _ J6).trans Kj);have aT:Hid (bM G<w1.heap.size):=hid (oN ad bL.out.size);have aU:Hid (w1.cell? ⟨bM G,bT G+k,none⟩=some (.slice M S[k].length cs)):=hid ((bL.out.cell (p:=⟨bM G,bT G+k,none⟩) ad).trans aO);have aY:Hid (bM M<w1.heap.size):=hid (oN FA bL.out.size);have a0:Hid (w1.cell? ⟨bM M,bT M+i,none⟩=some (.int .i64 S[k][i])):=hid ((bL.out.cell (p:=⟨bM M,bT M+i,none⟩) FA).trans wB);have bw:=hid hw1;clear hu Z hS h5 P L Nr hw1 aO ad ae wB FA aS R h;have x4:True:=trivial;have x5:True:=trivial;go_enter func67,ntmps67;go_upto_region 1 with fail;rw[<-bw.out];clear x4 x5;go_cut [7] from 10 to 20 (fun q wx=>∃E:Nat,q=.pointer (some ⟨E,0,none⟩)/\Hid (zx p w.heap.size (w.heap.size+1) E w.heap.size i [Cz.sg S k i] wx)/\Hid (BL w wx))
 case first=>
  have O7:=eC w1 ⟨w.heap.size,0,none⟩ (.pointer (some ⟨p,0,none⟩)) fun d=>(one_cell (ag.out d.1 d.2)).1;have O8:=eC w1 ⟨w.heap.size+1,0,none⟩ (.int .i64 (i:Int)) fun d=>(one_cell (ai.out d.1 d.2)).1;have bx:=eC w1 ⟨p,5,none⟩ (.slice G S.length cu) fun d=>(D.out d.1 (bO bL.out d.2)).cells.2;have bz:=eC w1 ⟨bM G,bT G+k,none⟩ (.slice M S[k].length cs) fun d=>((d.2.cell (p:=⟨bM G,bT G+k,none⟩) aT.out).trans aU.out);have bA:=eC w1 ⟨bM M,bT M+i,none⟩ (.int .i64 S[k][i]) fun d=>((d.2.cell (p:=⟨bM M,bT M+i,none⟩) aY.out).trans a0.out);refine alR w1 12 (.quiet 0 (.quiet 1 (.quiet 2 (.quiet 3 (.quiet 4 (.quiet 5 (.quiet 6 (.quiet 7 (.quiet 8 (.quiet 9 (.two 10 11 (.one 11 .done) (.one 10 .done)))))))))))) nK zK fun w6 fH=>?_
  iterate 10 refine gF ?_
  clear O7 O8 bx bz bA;refine fP rfl rfl ?pA ?pB
  case' pA=>
   go_wp2_with fail
   refine aN (BL w1) (fun _ h=>h) (fH.out.alloc fH.out.size _) ?_
   refine aZ rfl ?_
   go_wp2_with fail
   refine aN (BL w1) (fun _ h=>h) ((fH.out.alloc fH.out.size _).alloc yw _) ?_
   refine bG ?_
   try simp only[jW,jH]
   obtain⟨t,m⟩:=bJ ((w6.alloc (.cells #[.int .i64 S[k][i]] 3)).alloc (.cells #[.slice none 0 0] 22))
   have mz:BL w6 t:=by rw[m];exact(aG.alloc aL _).alloc bH _
   have hsl:t.heap[w6.heap.size]?=some (.cells #[.int .i64 S[k][i]] 3 (0,0)):=by rw[m];exact cC _ (bD _ _ rfl)
   have wP:t.heap[w6.heap.size+1]?=some (.cells #[.slice none 0 0] 22 (0,0)):=by rw[m];exact bD _ _ bH
   have N:=hid (And.intro mz (And.intro hsl wP))
   have aj:=hid m
   clear mz hsl wP m
   rw[<-aj.out]
   obtain⟨mz,hsl,wP⟩:=N.out
   have c1:=(one_cell wP).1
   have bB:=(one_cell wP).2
   have h6z:=fH.out.size
   have bE:=Ur.out
   have kQ:Hid (w.heap.size+2<=w6.heap.size+1):=hid aD
   have I5:=hid (bO bL.out (bO fH.out mz))
   have nF:Hid (BL w (t.setCell ⟨w6.heap.size+1,0,none⟩ (.slice (some ⟨w6.heap.size,0,none⟩) 1 1))):=hid (I5.out.setCell (by have:=kQ.out;show w.heap.size<=w6.heap.size+1;omega) _)
   have JA:Hid (zx p w.heap.size (w.heap.size+1) (w6.heap.size+1) w.heap.size i [Cz.sg S k i] (t.setCell ⟨w6.heap.size+1,0,none⟩ (.slice (some ⟨w6.heap.size,0,none⟩) 1 1))):=hid {
    s:=(mO _ ⟨w6.heap.size+1,0,none⟩ _ _ (by have:=kQ.out;show w.heap.size≠w6.heap.size+1;omega)).trans (ag.out t (bO fH.out mz))
    i:=(mO _ ⟨w6.heap.size+1,0,none⟩ _ _ (by have:=kQ.out;show w.heap.size+1≠w6.heap.size+1;omega)).trans (ai.out t (bO fH.out mz))
    o:=⟨_,one_set _ wP,by
     have h:=(mO t ⟨w6.heap.size+1,0,none⟩ (.slice (some ⟨w6.heap.size,0,none⟩) 1 1) (w6.heap.size) (by show w6.heap.size≠w6.heap.size+1;omega)).trans hsl
     refine⟨⟨rfl,.inr ⟨w6.heap.size,1,_,rfl,zxa _,h,aL,iG,rfl,?_⟩⟩,fun b f=>?_⟩
     ·rw[aK.out];rfl
     ·obtain rfl:w6.heap.size=b:=oO f
      have:=kQ.out;exact⟨aD,aD,aD,aD⟩⟩
    ne:=⟨Kf,Kf⟩
    le:=⟨aL,aD,Kf⟩}
   exact amo
  case' pB=>
   go_wp2_with fail
   refine aN (BL w1) (fun _ h=>h) (fH.out.alloc fH.out.size _) ?_
   refine aZ rfl ?_
   go_wp2_with fail
   refine aN (BL w1) (fun _ h=>h) ((fH.out.alloc fH.out.size _).alloc yw _) ?_
   refine bG ?_
   try simp only[jW,jH]
   obtain⟨t,m⟩:=bJ ((w6.alloc (.cells #[.slice none 0 0] 22)).alloc (.cells #[.int .i64 S[k][i]] 3))
   have mz:BL w6 t:=by rw[m];exact(aG.alloc aL _).alloc bH _
   have hsl:t.heap[w6.heap.size+1]?=some (.cells #[.int .i64 S[k][i]] 3 (0,0)):=by rw[m];exact bD _ _ bH
   have wP:t.heap[w6.heap.size]?=some (.cells #[.slice none 0 0] 22 (0,0)):=by rw[m];exact cC _ (bD _ _ rfl)
   have N:=hid (And.intro mz (And.intro hsl wP))
   have aj:=hid m
   clear mz hsl wP m
   rw[<-aj.out]
   obtain⟨mz,hsl,wP⟩:=N.out
   have c1:=(one_cell wP).1
   have bB:=(one_cell wP).2
   have h6z:=fH.out.size
   have bE:=Ur.out
   have kQ:Hid (w.heap.size+2<=w6.heap.size):=hid aD
   have I5:=hid (bO bL.out (bO fH.out mz))
   have nF:Hid (BL w (t.setCell ⟨w6.heap.size,0,none⟩ (.slice (some ⟨w6.heap.size+1,0,none⟩) 1 1))):=hid (I5.out.setCell (by have:=kQ.out;show w.heap.size<=w6.heap.size;omega) _)
   have JA:Hid (zx p w.heap.size (w.heap.size+1) (w6.heap.size) w.heap.size i [Cz.sg S k i] (t.setCell ⟨w6.heap.size,0,none⟩ (.slice (some ⟨w6.heap.size+1,0,none⟩) 1 1))):=hid {
    s:=(mO _ ⟨w6.heap.size,0,none⟩ _ _ (by have:=kQ.out;show w.heap.size≠w6.heap.size;omega)).trans (ag.out t (bO fH.out mz))
    i:=(mO _ ⟨w6.heap.size,0,none⟩ _ _ (by have:=kQ.out;show w.heap.size+1≠w6.heap.size;omega)).trans (ai.out t (bO fH.out mz))
    o:=⟨_,one_set _ wP,by
     have h:=(mO t ⟨w6.heap.size,0,none⟩ (.slice (some ⟨w6.heap.size+1,0,none⟩) 1 1) (w6.heap.size+1) (by show w6.heap.size+1≠w6.heap.size;omega)).trans hsl
     refine⟨⟨rfl,.inr ⟨w6.heap.size+1,1,_,rfl,zxa _,h,aL,iG,rfl,?_⟩⟩,fun b f=>?_⟩
     ·rw[aK.out];rfl
     ·obtain rfl:w6.heap.size+1=b:=oO f
      have:=kQ.out;exact⟨aD,aD,aD,aD⟩⟩
    ne:=⟨Kf,Kf⟩
    le:=⟨aL,aD,Kf⟩}
   exact amo
 case rest=>
  obtain⟨E,rfl,J,F⟩:=hcut;rename_i wc;have a1:=hid (D.out wc F.out);obtain⟨k0,k1,k2,k3,bF⟩:=sZ.out wc (Zc.out wc F.out);have x6:=(one_cell J.out.s).1;have x4:=aP (I.out wc F.out) 1;simp only[List.getElem?_toArray,List.getElem?_cons_succ,List.getElem?_cons_zero] at x4;clear bF;go_wp2;clear k0 k1 k2 k3 x4 x6;have S9:Hid (zx p w.heap.size (w.heap.size+1) E w.heap.size i (Cz.sg S k i::Cz.oC (aM x) W S k i 0) wc):=J;have Le:=F;generalize Lx:wc=Wb at*;clear Lx J F a1;go_loopw [32] (fun jj wr=>∃j:Nat,j<=nf/\jj=.int .i64 j/\Hid (zx p w.heap.size (w.heap.size+1) E w.heap.size i (Cz.sg S k i::Cz.oC (aM x) W S k i j) wr)/\Hid (BL w wr)) (fun jj _=>nf-(intOf jj).toNat);case atStart=>exact⟨0,zxa _,rfl,S9,Le⟩
  case round=>
   obtain⟨j,hj,rfl,J,F⟩:=hrel;by_cases hjt:j<nf
   ·have cH:=zN j
    have cI:=zL j nf
    have rG:j<x.ah[k].aF.length:=FV
    have a1:=hid (D.out wr F.out);obtain⟨-, -, -, -,am⟩:=sZ.out wr (Zc.out wr F.out);rw[AL.out] at am;obtain⟨Nj, -,f0,f1,f2,f3,f4,f5,uw,ug,f6,f7,CV,a2⟩:=dx.at am rG;obtain⟨bI,bK,rfl, -, -, -⟩:=CV.form;obtain⟨bN,bP,rfl, -, -, -⟩:=a2.form;clear CV a2 am;have Cg:aC.fd x k j=x.ah[k].aF[j]:=iX hkx rG
    have PE:Hid (∀gk,gk=(x.ah[k].aF[j]).kind->(gk=1->iE x k j=aC.eD x k j/\0<=iE x k j)/\(¬gk=1->iE x k j<0)):=hid (by
     rintro gk rfl
     rw[<-Cg]
     constructor
     ·intro H
      have:=HU.out k j hkx Sg H;unfold iE;rw[if_neg aD,if_pos H];exact⟨rfl,this⟩
     ·intro H
      unfold iE;rw[if_neg H];split<;>omega)
    clear Cg;have a3:=hid (Cz.PD (aM x) W S k i j);have tF:Hid (Cz.fk (aM x) k j=iE x k j):=hid (mg x hkx Sg);obtain⟨g,hg⟩:=bJ (x.ah[k].aF[j]);have HG:=hid (PE.out g.kind (by rw[hg]));rw[<-hg] at f0 f1 f2 f3 f4 f5 f6 f7;clear hg PE;obtain⟨gn,go,gu,gk,gl,gh,Fw,bQ⟩:=g;simp only at f0 f1 f2 f3 f4 f5 f6 f7 HG;generalize Fw.length=nw at*;generalize bQ.length=ng at*;obtain⟨w5,hw⟩:=bJ (wr.alloc (.cells #[.string gn,.string go,.string gu,.int .i64 gk,.int .i64 gl,.int .i64 gh,.slice bI nw bK,.slice bN ng bP] 85));have jZ:BL wr w5:=R7
    have K:=aR F jZ;have kY:=hid (J.out.next jZ);have cJ:w5.cell? ⟨wr.heap.size,3,none⟩=some (.int .i64 gk):=Sm
    have EU:=hid hw;clear hw jZ;go_upto_region 5 with fail;rw[<-EU.out];clear f0 f1 f2 f3 f4 f5 f6 f7;by_cases H:gk=1
    ·subst H
     have bR:=hid (HG.out.1 rfl);obtain⟨a4,hg0⟩:=bR.out;have T:=pW.out.ref k i j hk hi afp adr;rw[tF.out] at T;obtain⟨u0,U⟩:∃u:Nat,iE x k j=(u:Int):=⟨(iE x k j).toNat,aD⟩;have zM:=hid (uE x k j _ (·<B) w5 ((D.out w5 K.out).xk));have bS:Hid (aC.eD x k j=(u0:Int)):=hid (by rw[<-a4,U]);rw[U] at T;simp only[zxk] at T;obtain⟨an,wu,Ch⟩:=T;have ox:i<W[k].length:=by rw[<-bt.out];exact hi
     have Ul:j<(W[k][i]).length:=by
      have:=pW.out.r k i hk hi;rw[dJ x hkx,dH hkx] at this;unfold Cz.row at this;rw[Cz.bh hk,Cz.bh ox] at this;rw[this];exact rG
     have ap:Hid (Cz.cell W k i j=W[k][i][j]):=hid (by unfold Cz.cell Cz.row;rw[Cz.bh hk,Cz.bh ox,Cz.bh Ul]);rw[ap.out] at wu Ch;obtain⟨z0,Y⟩:∃z:Nat,W[k][i][j]=(z:Int):=⟨(W[k][i][j]).toNat,aD⟩;rw[Y,zxk] at Ch;have aq:u0<S.length:=by rw[zy.out.1];exact an
     have av:z0<S[u0].length:=by
      have:=zy.out.2 u0 an;rw[Cz.bh aq] at this;rw[this];exact Ch
     have a5:Hid (Cz.sg S u0 z0=S[u0][z0]):=hid (by unfold Cz.sg;rw[Cz.bh aq,Cz.bh av]);obtain⟨vk,vZ,Ej⟩:=(D.out w5 K.out).ze.vG hk;obtain⟨ax,bU,rfl,bV, -, -⟩:=vZ.form;obtain⟨vi,UG,a6⟩:=vZ.vG ox;obtain⟨ay,bW,rfl,bX, -, -⟩:=UG.form;obtain⟨vz,a7,a8⟩:=UG.vG Ul;obtain rfl:vz=.int .i64 W[k][i][j]:=a7;obtain⟨su,az,ba⟩:=(D.out w5 K.out).E7.vG aq;obtain⟨aA,bY,rfl,bZ, -, -⟩:=az.form;obtain⟨sz,bb,aa⟩:=az.vG av;obtain rfl:sz=.int .i64 S[u0][z0]:=bb;rw[Y] at a8;have HB:Hid (∀X,BL w5 X->aH (·<B) w5 X):=hid (fun X hX=>aH.below hX);obtain⟨vo,K4,Tl⟩:=kY.out.o;obtain⟨ao,co,rfl,cK, -, -⟩:=(bp.sl Tl).form;have b0:=hid Tl;have kQ:=hid K4
     have b1:(Cz.sg S k i::Cz.oC (aM x) W S k i j).length+1<=1000000000:=by
      have:=Cz.Mi (aM x) W S k i j;have:=UF.out;simp only[zxg];omega
     have wQ:Hid (Cz.sg S k i::Cz.oC (aM x) W S k i j++[S[u0][z0]]=Cz.sg S k i::Cz.oC (aM x) W S k i (j+1)):=hid (by
      rw[a3.out,if_pos adr,tF.out,U,ap.out,Y,List.cons_append]
      simp only[zxk]
      rw[a5.out])
     have cj:(0:Int)<=(k:Int):=aD
     have cL:=zL k W.length
     have cm:(0:Int)<=(i:Int):=aD
     have b2:(i:Int)<((W[k]).length:Int):=aD
     have b3:(j:Int)<((W[k][i]).length:Int):=aD
     have cn:(0:Int)<=(u0:Int):=aD
     have cM:=zL u0 S.length
     have cp:(0:Int)<=(z0:Int):=aD
     have b4:(z0:Int)<((S[u0]).length:Int):=aD
     obtain⟨y,hy⟩:=bJ (S[u0][z0]);rw[<-hy] at aa wQ;obtain⟨b5,bc⟩:=bJ (W[k].length);rw[<-bc] at Ej bV b2;obtain⟨b6,bd⟩:=bJ (W[k][i].length);rw[<-bd] at a6 bX b3;obtain⟨b7,be⟩:=bJ (S[u0].length);rw[<-be] at ba bZ b4;clear bc bd be;clear a5 ap hy;clear a4 hg0 an wu Ch U vZ UG az av Ul Y ox;go_upto_region 6 with fail;have O7:=eC w5 ⟨w.heap.size,0,none⟩ (.pointer (some ⟨p,0,none⟩)) fun d=>(one_cell (kY.out.next d.2).s).1;have O8:=eC w5 ⟨w.heap.size+1,0,none⟩ (.int .i64 (i:Int)) fun d=>(one_cell (kY.out.next d.2).i).1;have cN:=eC w5 ⟨E,0,none⟩ (.slice ao (Cz.sg S k i::Cz.oC (aM x) W S k i j).length co) fun d=>(one_cell ((d.2.block _ (aI kQ.out)).trans kQ.out)).1;have qo:=eC w5 ⟨p,0,none⟩ (.int .i64 x.aQ) fun d=>aP ((I.out d.1 (bO K.out d.2))) 0;have qp:=eC w5 ⟨p,1,none⟩ (.slice ak x.ah.length ck) fun d=>aP ((I.out d.1 (bO K.out d.2))) 1;have qt:=eC w5 ⟨p,2,none⟩ (.slice al x.aV.length cl) fun d=>aP ((I.out d.1 (bO K.out d.2))) 2;have qu:=eC w5 ⟨p,3,none⟩ (.slice ar x.aX.length cr) fun d=>aP ((I.out d.1 (bO K.out d.2))) 3;have cO:=eC w5 ⟨p,4,none⟩ (.slice aw W.length cw) fun d=>aP ((I.out d.1 (bO K.out d.2))) 4;have cP:=eC w5 ⟨p,5,none⟩ (.slice G S.length cu) fun d=>aP ((I.out d.1 (bO K.out d.2))) 5;have cQ:=eC w5 ⟨bM aw,bT aw+k,none⟩ (.slice ax b5 bU) fun d=>Ej d.1 (HB.out d.1 d.2);have cq:=eC w5 ⟨bM ax,bT ax+i,none⟩ (.slice ay b6 bW) fun d=>a6 d.1 (HB.out d.1 d.2);have ct:=eC w5 ⟨bM ay,bT ay+j,none⟩ (.int .i64 (z0:Int)) fun d=>a8 d.1 (HB.out d.1 d.2);have cv:=eC w5 ⟨bM G,bT G+u0,none⟩ (.slice aA b7 bY) fun d=>ba d.1 (HB.out d.1 d.2);have cx:=eC w5 ⟨bM aA,bT aA+z0,none⟩ (.int .i64 y) fun d=>aa d.1 (HB.out d.1 d.2);refine bq 32 (.quiet 0 (.quiet 1 (.quiet 2 (.quiet 3 (.quiet 4 (.quiet 5 (.quiet 6 (.quiet 7 (.quiet 8 (.quiet 9 (.quiet 10 (.quiet 11 (.quiet 15 (.quiet 16 (.quiet 17 (.quiet 18 (.quiet 19 (.quiet 20 (.quiet 21 (.quiet 22 (.quiet 23 (.quiet 24 (.quiet 25 (.quiet 26 (.quiet 27 (.quiet 28 (.one 12 (.quiet 13 (.quiet 14 (.quiet 29 (.quiet 30 (.one 31 .done)))))))))))))))))))))))))))))))) (BL w5) nK zK (aJ aG 1) ?_;have fH:=hid (aJ (Below.refl w5.heap.size w5) 1);have cR:=hid (zM.out);generalize wg:w5.drewN 1=w6 at*;have bf:=hid (uE x k j _ (·<B) w6 ((D.out w6 (bO K.out fH.out)).xk));rw[bS.out] at bf;clear wg
     iterate 2 refine gF ?_
     iterate 24
      refine bC rfl ?_
      intro hne
      go_big_quiet_step (fail)
      refine iU ?_
     refine aZ rfl ?_;go_wp2_with fail;refine bf.out.mono ?_;rintro e w7 ⟨rfl,f⟩;have pJ:=aR fH f;go_wp2_with fail;refine aN (BL w5) (fun _ h=>h) pJ.out ?_
     iterate 4
      refine bC rfl ?_
      intro hne
      go_big_quiet_step (fail)
      refine iU ?_
     refine aZ rfl ?_;go_wp2_with fail;refine aN (BL w5) (fun _ h=>h) (pJ.out.alloc pJ.out.size _) ?_;refine bG ?_;try simp only[jW,jH]
     have uJ:=hid (aW.keep b0.out (aH.below pJ.out));have b8:=(pJ.out.block _ (aI kQ.out)).trans kQ.out;have xO:=hid (kY.out.next pJ.out);have jb:=aR K pJ.out;have aB:=hid b8;go_wp2_with (at_builtin;go_must (refine sG rfl _ _ rfl Tryz.jG rfl uJ.out rfl b1 ?_));intro v' t FU mw
     have zO:Hid (bp (fun b=>w.heap.size<=b/\b≠w.heap.size/\b≠w.heap.size+1/\b≠E) t v' (Cz.sg S k i::Cz.oC (aM x) W S k i (j+1))):=hid (by
      rw[<-wQ.out]
      refine aW.mono FU (fun b _ f=>?_)
      have H:=aI xO.out.s
      have h2:=aI xO.out.i
      have h3:=aI aB.out
      rcases f with h|h
      ·exact h.1
      ·exact⟨aD,aD,aD,aD⟩)
     have Eh:=(mw.block _ (fun e=>(uJ.out.2 _ e.symm).2.2.2 rfl) (aI aB.out)).trans aB.out;have Jy:=(mw.block _ (fun e=>(uJ.out.2 _ e.symm).2.1 rfl) (aI xO.out.s)).trans xO.out.s;have Jz:=(mw.block _ (fun e=>(uJ.out.2 _ e.symm).2.2.1 rfl) (aI xO.out.i)).trans xO.out.i;have nF:Hid (BL w (t.setCell ⟨E,0,none⟩ v')):=hid (((jb.out.trans (mw.below jb.out.size (fun b f=>(uJ.out.2 b f.symm).1)))).setCell J.out.le.2.2 _)
     have JA:Hid (zx p w.heap.size (w.heap.size+1) E w.heap.size i (Cz.sg S k i::Cz.oC (aM x) W S k i (j+1)) (t.setCell ⟨E,0,none⟩ v')):=hid {
      s:=(mO _ ⟨E,0,none⟩ _ _ J.out.ne.1).trans Jy
      i:=(mO _ ⟨E,0,none⟩ _ _ J.out.ne.2).trans Jz
      o:=⟨v',one_set v' Eh,aW.keep zO.out (fun b f _=>mO _ ⟨E,0,none⟩ _ _ f.2.2.2)⟩
      ne:=J.out.ne
      le:=J.out.le}
     obtain⟨a9,n9,c9,b9⟩:∃a n c,v'=.slice a n c:=abl
     have c9:=(one_cell Eh).1;have cS:=(one_cell Eh).2;subst b9;go_wp2;go_roundw;case rel=>exact⟨j+1,aD,zG,JA,nF⟩
     exact zI
    ·have e1:(gk==1)=false:=tH H
     have wQ:Hid (zx p w.heap.size (w.heap.size+1) E w.heap.size i (Cz.sg S k i::Cz.oC (aM x) W S k i (j+1)) w5):=hid (by
      rw[a3.out,if_neg (by rw[tF.out];have:=HG.out.2 H;omega),zxp]
      exact kY.out)
     go_wp2;go_roundw;case rel=>exact⟨j+1,aD,zG,wQ,K⟩
     exact zI
   ·obtain rfl:j=nf:=by omega
    have N:Hid (Cz.oC (aM x) W S k i j=Cz.Ei (aM x) W S k i):=hid (by unfold Cz.Ei;rw[dJ x hkx,dH hkx,<-AL.out]);have x6:=(one_cell J.out.s).1;have s0:=aP (I.out wr F.out) 0;have s1:=aP (I.out wr F.out) 1;have s2:=aP (I.out wr F.out) 2;have s3:=aP (I.out wr F.out) 3;have s4:=aP (I.out wr F.out) 4;simp only[List.getElem?_toArray,List.getElem?_cons_succ,List.getElem?_cons_zero] at s0 s1 s2 s3 s4
    have DE:=hid (Uy x Uz.out bn k ak al ar aw ck cl cr W.length cw (·<B) wr (D.out wr F.out).xk ⟨w.heap.size,0,none⟩ ⟨w.heap.size+1,0,none⟩ ⟨E,0,none⟩
     (fun pre V=>BL w V/\pre.length<=200/\zx p w.heap.size (w.heap.size+1) E w.heap.size i (Cz.sg S k i::(Cz.Ei (aM x) W S k i++pre.flatMap fun q=>((Cz.kg W S q.1 q.2 i).length:Int)::Cz.eU Cz.dB (Cz.kg W S q.1 q.2 i))) V)
     (fun pre V h=>(aH.bg F.out (fun b f=>oN f lP.out)).back (aH.bg h.1 (fun b f=>oN f lP.out)) (fun b f=>oN f lP.out))
     (fun pre A C h f=>⟨h.1.trans (f.mono h.1.size),h.2.1,h.2.2.next f⟩) w.heap.size F.out.size ?hY ⟨F.out,bH,by rw[<-N.out];simpa using J.out⟩)
    case hY=>
     rintro pre ⟨k',f'⟩ V ⟨H,h2,h3⟩ hpre;have O:(k',f')∈Cz.jh (aM x) k:=hpre.subset bH;unfold Cz.jh at O;rw[List.mem_flatMap] at O;obtain⟨k2,bi,bj⟩:=O;rw[List.mem_map] at bj;obtain⟨f2,ca,e2⟩:=bj;cases e2;rw[List.mem_range,jc] at bi;have bk:=(List.mem_filter.1 ca).1;rw[List.mem_range] at bk;have bl:k'<W.length:=by rw[Mj.out];exact bi
     have cb:=(D.out V H).mono lP.out
     have cT:pre.length+1<=200:=by
      have:=hpre.length_le;have cy:=aj4.out;simp at this;omega
     have cc:(Cz.sg S k i::(Cz.Ei (aM x) W S k i++pre.flatMap fun q=>((Cz.kg W S q.1 q.2 i).length:Int)::Cz.eU Cz.dB (Cz.kg W S q.1 q.2 i))).length<=1000000:=by
      have cU:=Cz.RO (fun q:Nat×Nat=>((Cz.kg W S q.1 q.2 i).length:Int)::Cz.eU Cz.dB (Cz.kg W S q.1 q.2 i)) 1001 (fun q=>by
       have:=Cz.acG W S q.1 q.2 i (Cz.len W q.1);rw[Cz.Mh] at this;have h9:=(Cz.fZ (c:=Cz.dB) (l:=Cz.kg W S q.1 q.2 i)).length_eq;have:=H5.out q.1;simp only[zxg];omega) pre
      have h8:=Cz.Mi (aM x) W S k i ((aM x).getD k []).length;have h6:((aM x).getD k []).length=j:=by rw[dJ x hkx,dH hkx,<-AL.out]
      rw[h6] at h8;have h5:(Cz.Ei (aM x) W S k i).length<=j:=by unfold Cz.Ei;rw[h6];exact h8
      simp only[zxg,rK];have:pre.length*1001<=200*1001:=Nat.mul_le_mul_right _ aD;omega
     refine(UB x W S _ _ _ p w.heap.size V cb zy.out k' f' i bl (fun j hj=>by rw[pW.out.r k' j bl hj];exact bk) (H5.out k') w.heap.size (w.heap.size+1) E _ cc h3).mono ?_;rintro e V' ⟨rfl,cd,bm⟩;refine⟨rfl,⟨H.trans bm.1,jo,?_⟩,bm⟩;simpa [List.flatMap_append] using cd
    go_wp2_with fail;refine DE.out.mono ?_;rintro e w9 ⟨rfl,⟨ce, -,cg⟩,Pb⟩;obtain⟨vo,K4,Tl⟩:=cg.o;have c9:=(one_cell K4).1;obtain⟨ao,no,co,rfl⟩:∃a n c,vo=.slice a n c:=by obtain⟨a,c,e,_⟩:=(bp.sl Tl).form;exact⟨_,_,_,e⟩
    have HE:Hid (bp (w.heap.size<=·) w9 (.slice ao no co) (Cz.gJ (aM x) W S k i)/\BL w w9):=hid ⟨aW.mono (show bp (fun b=>w.heap.size<=b/\b≠w.heap.size/\b≠w.heap.size+1/\b≠E) w9 (.slice ao no co) (Cz.gJ (aM x) W S k i) by rw[Cz.UE];exact Tl) (fun b _ f=>f.1),ce⟩;go_wp2;go_ret;exact⟨_,rfl,HE.out⟩
open Go.Maps (Keyed)
theorem RP:prog.underlying 133=some (.map 3 3):=by kernel_rfl
def Ar(w:World)(b n:Nat)(f:Int->Int):Prop:=
 ∃D:DataW Nat,w.ownsMap prog 3 (plainElem prog 3) b n D/\∀a,vH a->D.atKey (.int .i64 a) (.lit (.int .i64 0))=.lit (.int .i64 (f a))
theorem Ar.made(w:World):Ar (w.alloc (.map #[] 0)) w.heap.size 0 (fun _=>0):=⟨.map [],World.ownsMap_made _ _ _ _,fun _ _=>rfl⟩
theorem Ar.ext{w:World}{b n:Nat}{f g:Int->Int}(h:Ar w b n f)(c:∀a,vH a->f a=g a):Ar w b n g:=by
 obtain⟨D,e,i⟩:=h;exact⟨D,e,fun a d=>by rw[i a d,c a d]⟩
theorem Ar.look{w:World}{b n:Nat}{f:Int->Int}(h:Ar w b n f){a:Int}(e:vH a):
  (Instr.lookup 133 (.map (some b)) (.int .i64 a) false).run prog w=.ok (.int .i64 (f a)) w:=by
 obtain⟨D,g,i⟩:=h;obtain⟨v,c,d, -⟩:=g.lookup_int TX RP DH (Rh w) (TY e);rw[i a e] at d;have:f a=v:=by simpa using d
 rw[this];exact c
theorem Ar.put{w:World}{b n:Nat}{f:Int->Int}(h:Ar w b n f)(r:n<=1000000){a:Int}(l:vH a){v:Int}(m:vH v):
  ∃g,(Instr.mapUpdate 133 (.map (some b)) (.int .i64 a) (.int .i64 v)).run prog w=.ok () g/\Ar g b (n+1) (fun c=>if c=a then v else f c)/\Turns (·=b) w g:=by
 obtain⟨D,j,o⟩:=h;have p:n<maxLen:=Il
 obtain⟨g,i,how,q⟩:=j.update TX RP p (TY l) (val:=.int .i64 v) (d:=.lit (.int .i64 v)) (ps:=[]) (plainElem_int DH m.wf);refine⟨g,i,⟨_,how,fun c k=>?_⟩,Turns.gy q (fun s e=>by cases e;rfl)⟩;by_cases e:c=a
 ·subst e
  rw[Maps.atKey_put_same j.isMap (TX.key (TY k))];simp
 ·rw[Maps.atKey_put_other (fun h=>e Fa),o c k]
  simp[e]
def ag3(S:List Cz.Row)(w:World)(e:Ending)(w':World):Prop:=∃r:Nat,e=.returned (.int .i64 (r:Int))/\(720<r↔720<Cz.arr S)/\r<=1000000/\BL w w'
theorem Au(x:aC.cE)(W:aC.dw)(S:List (List Int))(A:∀r∈S,∀y∈r,vH y)(h5:∀r∈S,r.length<=1000)(ak:S.length<=1000)(sv wv uv:Value)(p B:Nat)(w:World)(h:RL x W S sv wv uv p B w)(n:B<=w.heap.size):
  CP 30 #[.pointer (some ⟨p,0,none⟩)] w (ag3 S w):=by
 have al:=hid (fun V (T:BL w V)=>h.keep (T.mono n));have C:Hid (∀V,BL w V->aH (·<B) w V):=hid (fun V T=>aH.bg T (fun b U=>oN U n));obtain⟨au,cu,rfl,am, -, -⟩:=h.E7.form;have x5:=h.cells.2;have BZ:=hid h.E7;have X:=hid A;have H5:=hid h5;clear h A h5 n;go_enter func30,ntmps30;go_wp2;clear x5;go_loopw [3,14] (fun Y Z wr=>∃k m:Nat,k<=S.length/\Z=.int .i64 k/\Y=.int .i64 m/\m<=720/\Hid (m=Cz.arr (S.take k))/\Hid (BL w wr)) (fun _ Z _=>S.length-(intOf Z).toNat);case atStart=>exact⟨0,1,zxa _,rfl,rfl,aD,hid rfl,hid aG⟩
 case round=>
  obtain⟨k,m,hk,rfl,rfl,hm,HM,R⟩:=hrel;by_cases d:k<S.length
  ·have an:=zN k
   have ao:=zL k S.length
   obtain⟨u,o,og⟩:=BZ.out.vG d;obtain⟨ar,cr,rfl,D, -, -⟩:=o.form;have x6:=og wr (C.out wr R.out);have HR:=hid o;have E:=hid (fun i=>Cz.aaf d i);have F:=hid (fun(i:Nat) (hi:i<S[k].length)=>Cz.aag S[k] hi);have G:Hid (Cz.arr (S.take (k+1))=Cz.arr (S.take k)*Cz.eO (fun _=>0) S[k]):=hid (by rw[yh d,Cz.zw]);have H:=hid (X.out _ (eV d));have I:S[k].length<=1000:=H5.out _ (eV d);obtain⟨r,hr⟩:=bJ (S[k]);rw[<-hr] at x6 D HR E F G H I;obtain⟨J,qg⟩:=bJ r.length;have Cr:=hid qg;rw[<-qg] at x6 D HR I;clear o og hr qg;have ap:= @run_makeMap prog;go_wp2;clear x6;generalize Lx:wr=s at*;clear Lx;have aa:=hid (Ar.made s);have ab:Hid (BL s (s.alloc (.map #[] 0))):=hid (aG.alloc aL _);go_loopw [3,21] (fun Y ii wr=>∃i q:Nat,i<=J/\ii=.int .i64 i/\Y=.int .i64 q/\q<=720/\Hid (q=Cz.arr (S.take k)*Cz.eO (fun _=>0) (r.take i))/\Hid (Ar wr s.heap.size i (fun a=>((r.take i).count a:Nat)))/\Hid (BL s wr)) (fun _ ii _=>J-(intOf ii).toNat);case atStart=>exact⟨0,m,zxa _,rfl,rfl,hm,hid (by rw[HM.out];simp[Cz.eO]),hid (aa.out.ext fun a _=>by simp),ab⟩
   case round=>
    obtain⟨i,q,hi,rfl,rfl,hq,HQ,K,cH⟩:=hrel;have lP:=aR R cH.out;by_cases hit:i<J
    ·have g:i<r.length:=by rw[<-Cr.out];exact hit
     have aq:=zN i
     have av:=zL i J
     obtain⟨y0,ad,L⟩:=(Cr.out▸HR.out).vG g;obtain rfl:y0=.int .i64 r[i]:=ad;have x7:=L wr (C.out wr lP.out);have t:=H.out _ (eV g);have nM:=hid (F.out i g);have RD:Hid (r.take (i+1)=r.take i++[r[i]]):=hid (yh g);have ae:=hid (E.out (i+1));clear L;generalize r[i]=y at*;obtain⟨c,M⟩:=bJ ((r.take i).count y:Nat)
     have aw:c<=1000:=by
      rw[M];have:=List.count_le_length (a:=y) (l:=r.take i);rw[VQ] at this;omega
     have af:=K.out.look t;simp only[<-M] at af;obtain⟨w2,ax,z,N⟩:=K.out.put aD t (v:=(c:Int)+1) ⟨aD,aD⟩;obtain⟨c1,O⟩:=bJ (c+1:Nat);have P:=z.look t;rw[if_pos rfl,show (c:Int)+1=(c1:Int) by omega] at P;obtain⟨f,j⟩:=bJ (q*c1:Nat);have aj:f<=720*1001:=by rw[j];exact Nat.mul_le_mul hq aD
     have ay:IntKind.i64.wrap ((q:Int)*(c1:Int))=(f:Int):=by
      have e:(q:Int)*(c1:Int)=(f:Int):=by rw[j,Int.natCast_mul]
      rw[e];exact IntWalk.i64_in _ aD
     have Q:Hid (f=Cz.arr (S.take k)*Cz.eO (fun _=>0) (r.take (i+1))):=hid (by
      rw[nM.out,j,HQ.out,O,M,Nat.mul_assoc])
     have yj:Hid (Ar w2 s.heap.size (i+1) (fun a=>((r.take (i+1)).count a:Nat))):=hid (z.ext fun a _=>by
      rw[RD.out,List.count_append,M];by_cases e:a=y
      ·subst e;simp
      ·rw[if_neg e];simp[Ne.symm e])
     have cN:Hid (BL s w2):=hid (cH.out.trans (N.below cH.out.size (fun b U=>by rw[U];exact aL)));have gX:=aR R cN.out;clear M O j z N;by_cases ag:720<f
     ·have ah:(720:Int)<(f:Int):=by omega
      have HP:Hid (ag3 S w (.returned (.int .i64 (f:Int))) w2):=hid ⟨f,rfl,⟨fun _=>by have:=ae.out;rw[<-Q.out] at this;omega,fun _=>ag⟩,aD,gX.out⟩;go_wp2;go_ret;exact HP.out
     ·have ah:¬(720:Int)<(f:Int):=by omega
      go_wp2;go_roundw;case rel=>exact⟨i+1,f,aD,zG,rfl,aD,Q,yj,cN⟩
      exact zI
    ·obtain rfl:i=J:=by omega
     have ai:Hid (q=Cz.arr (S.take (k+1))):=hid (by
      rw[G.out,HQ.out,Cr.out,zxw])
     go_wp2;go_roundw;case rel=>exact⟨k+1,q,aD,zG,rfl,hq,ai,lP⟩
     exact zI
  ·obtain rfl:k=S.length:=by omega
   have HP:Hid (ag3 S w (.returned (.int .i64 (m:Int))) wr):=hid ⟨m,rfl,by rw[HM.out,zxw],aD,R.out⟩;go_wp2;go_ret;exact HP.out
end Go.Proofs.YtohddpbgflgiaaaGreatDoor
