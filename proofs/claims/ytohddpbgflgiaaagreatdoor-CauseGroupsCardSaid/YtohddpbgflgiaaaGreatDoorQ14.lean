/- Part 14 of the walks and plain laws that the proof needs (packed). -/
import Derived.Test.YtohddpbgflgiaaaGreatDoorQ1
import Derived.Test.YtohddpbgflgiaaaGreatDoorQ10
import Derived.Test.YtohddpbgflgiaaaGreatDoorQ11
import Derived.Test.YtohddpbgflgiaaaGreatDoorQ12
import Derived.Test.YtohddpbgflgiaaaGreatDoorQ13
set_option linter.all false
set_option maxRecDepth 100000
set_option maxHeartbeats 8000000
open Go.Proofs.Tryz
namespace Go.Proofs.YtohddpbgflgiaaaGreatDoor
open Go.RowKit
section
variable {P:Program} {t e:TypeId} {bytes:Nat} {w:World}
theorem UH(H:TypeId)(N:kF P t e 1 bytes){v:Value}{n:Nat}{xs:List Value}(d:w.ownsRow 0 e 1 v n xs)
  (b c:Nat)(x:Value)(hx:w.cell? ⟨b,0,none⟩=some x)(h1:x.oneCell'=true)(l:n+1<=1000000000)(S:v.ownBlock≠some b):
  ∃q y,(Builtin.append_ #[t,t] H #[v,.slice (some ⟨b,0,none⟩) 1 c]).run P w=.ok q y/\y.ownsRow 0 e 1 q (n+1) (xs++[x])/\w.grownBy y v.ownBlock/\
   (q.ownBlock=v.ownBlock\/q.ownBlock=some w.heap.size)/\y.ownsRow 0 e 1 v n xs/\(q.ownBlock=v.ownBlock->∃a k,v=.slice a n k/\q=.slice a (n+1) k):=by
 have o:∀j u,[x][j]?=some u->w.cell? ⟨bM (some ⟨b,0,none⟩),bT (some ⟨b,0,none⟩)+j,none⟩=some u:=by
  intro j u B;obtain rfl:j=0:=by have:=(zxu.1 B).1;simpa using this
  simp at B;subst B;simpa using hx
 obtain⟨q,y,C,O,T,U⟩:=Ip H N d (some ⟨b,0,none⟩) 1 c (fun _=>⟨_,_,rfl⟩) [x] rfl o Wz l (zxa _);have D:∀k,v.ownBlock=some k->k<w.heap.size:=fun k V=>(d.lt k V).2;refine⟨q,y,C,O,T,U,?_⟩;rcases d.2 with⟨rfl,rfl⟩|⟨g,cap,p,rfl,E,I,F,G,r,f⟩
 ·have J:xs=[]:=zxh (by simpa using d.1)
  subst J;refine⟨World.ownsRow_nil _ _ _ _,fun h=>?_⟩;rcases O.2 with⟨Z,h6⟩|⟨g,cap,p,rfl, -⟩
  ·omega
  ·simp[Value.ownBlock] at h
 ·obtain⟨Q,_,i,z,R,W,A,X,g5,g6,Y⟩:=N
  have m:∀j u,[x][j]?=some u->w.cell? ((⟨b,0,none⟩:Addr).add j)=some u:=fun j u B=>by
   rw[Addr.add_lit];exact o j u B
  by_cases s:n+1<=cap
  ·have K:=run_append_room (P:=P) w t H e i Q R g n cap p I ⟨b,0,none⟩ 1 c [x] (by simp[A]) m Wz s (by rw[A,r];simp;omega)
   rw[K] at C;cases C;have L:xs.length=n:=by simpa using d.1
   refine⟨⟨d.1,.inr ⟨g,cap,_,rfl,E,setRow_heap w g p _ e _ I,F,G,?_,?_⟩⟩,fun _=>⟨_,_,rfl,rfl⟩⟩
   ·simp only[A,Nat.mul_one,List.size_toArray,rK,VQ,List.length_drop,Array.length_toList,zxg,List.length_nil]
    simp only[Nat.mul_one] at r;omega
   ·simp only[A,Nat.mul_one] at f ⊢
    rw[f,zxm,List.take_append_of_le_length aD,<-L,zxw]
  ·have holds:∀j u,xs[j]?=some u->w.cell? ((⟨g,0,none⟩:Addr).add j)=some u:=d.cells (g:=g) rfl
   have M:(n+1)*i.bytes<=140737488355328:=by have:=Nat.mul_le_mul l Y;rw[X];omega
   have K:=run_append_grow (P:=P) w t H e i z Q R W ⟨g,0,none⟩ n cap xs (by rw[A];exact d.1) holds ⟨b,0,none⟩ 1 c [x] (by simp[A]) m aD aD (growslice_fits aD M);rw[K] at C;cases C;refine⟨⟨d.1,.inr ⟨g,cap,p,rfl,E,?_,F,G,r,f⟩⟩,fun h=>?_⟩
   ·exact(Below.heap_alloc w.drew _ g (D g rfl)).trans I
   ·have:=D g rfl
    simp[Value.ownBlock] at h;omega
end
theorem FP{P:Program}{t:TypeId}{bytes:Nat}{w:World}{j:Array Oper}{rest:List Oper}{o:Oper}{a:Act}{Q:Exit->Act->World->Prop}(l:o.guard=none)(s x:Operand)
  (u:o.op=.call {callee:=.builtin .append,args:=#[s,x],argTypes:=#[t,t]})(z:kF P t 3 1 bytes)
  {S:Nat->Prop}{v:Value}{xs:List Int}(A:a.eval s=v)(c:bp S w v xs){y:Int}{m:TypeId}
  (hx:a.eval x=.slice (some ⟨w.heap.size,0,none⟩) 1 1)(d:xs.length+1<=1000000000)
  (h:∀f i,bp (fun b=>v.ownBlock=some b\/w.heap.size<=b) i f (xs++[y])->Turns (fun b=>some b=v.ownBlock) w i->bp S i v xs->(f.ownBlock=v.ownBlock->∃a k,v=.slice a xs.length k/\f=.slice a (xs.length+1) k)->wpList P j Q rest (a.put o.dst f) i):
  wpList P j Q (o::rest) a (w.alloc (.cells #[.int .i64 y] m)):=by
 have r:BL w (w.alloc (.cells #[.int .i64 y] m)):=aG.alloc aL _;have n:∀k,v.ownBlock=some k->k<w.heap.size:=fun k B=>(c.1.lt k B).2;obtain⟨f,i,C,h2,D,E,F,G⟩:=UH o.type z (c.1.alloc (.cells #[.int .i64 y] m)) w.heap.size 1 (.int .i64 y) (aP (bD w _ rfl) 0) (by simp[Value.oneCell']) d (fun e=>Nat.lt_irrefl _ (n _ e));refine wpList_plain l fun K H=>?_;unfold Oper.wp;simp[execOp,u,resolve,invoke,builtin,A,hx,C,Result.andThen]
 refine H _ _ (h f i ⟨ah7,fun b p=>?_⟩ ((Turns.bg r).trans (Turns.gy D fun b q=>q.symm)) ⟨by simpa using F,c.2⟩ (fun e=>by
  obtain⟨a1,I,J,L⟩:=G e;exact⟨a1,I,J,L⟩))
 rcases E with g|g
 ·exact .inl (by rw[<-g];exact p)
 ·rw[g] at p;exact .inr (by have:=oO p;have:=r.size;omega)
def V4(o:List Nat):List Int:=o.map fun(i:Nat)=>(i:Int)
def kD(n:Nat)(o:List Nat):Array Value:=((List.range n).map fun i=>Value.bool (decide (i∈o))).toArray
theorem El(n:Nat)(o:List Nat):(kD n o).size=n:=by simp[kD]
theorem Hs{n i:Nat}(o:List Nat)(b:Bool)(a:List Nat)(h:∀j,j<n->(j∈a↔if j=i then b=true else j∈o)):(kD n o).setIfInBounds i (.bool b)=kD n a:=by
 apply Array.ext
 ·simp[kD]
 ·intro j f d
  have c:j<n:=by simpa [kD] using d
  rw[Array.getElem_setIfInBounds (by simpa [kD] using c)];have:=h j c;by_cases e:i=j
  ·subst e
   rw[if_pos rfl];simp only[kD,List.getElem_toArray,zxo,zxy,Value.bool.injEq];rw[if_pos rfl] at this;cases b with
   |true=>exact(decide_eq_true (this.2 rfl)).symm
   |false=>exact(decide_eq_false (fun q=>by simpa using this.1 q)).symm
  ·rw[if_neg e]
   simp only[kD,List.getElem_toArray,zxo,zxy,Value.bool.injEq];rw[if_neg (Ne.symm e)] at this;exact decide_eq_decide.2 this.symm
structure akm(bs yb bu bw bn u l:Nat)(sv wv:Value)(sort want:List Int)(w:World):Prop where
 s:w.heap[bs]?=some (.cells #[sv] 22 (0,0))
 y:w.heap[yb]?=some (.cells #[.func (.yield l) #[] #[]] 197 (0,0))
 u:w.heap[bu]?=some (.cells #[.slice (some ⟨u,0,none⟩) sort.length sort.length] 121 (0,0))
 wa:w.heap[bw]?=some (.cells #[wv] 22 (0,0))
 nx:w.heap[bn]?=some (.cells #[.func (.func 122) #[] #[.pointer (some ⟨bs,0,none⟩),.pointer (some ⟨yb,0,none⟩),.pointer (some ⟨bu,0,none⟩),.pointer (some ⟨bw,0,none⟩),.pointer (some ⟨bn,0,none⟩)]] 197 (0,0))
 sd:bB dr w sv sort
 wd:bB dr w wv want
def OrdQ(n0 a u n:Nat)(f:World->Prop)(J:(Nat->Prop)->List (Value×List Nat)->World->Prop)(F:Nat->Prop)(pre:List (Value×List Nat))(o:List Nat)(c:Value)(xs:List (List Nat))(W W':World):Prop:=
 ∃d e,e.map (·.2)=xs/\jg F d W W'/\f W'/\J d (pre++e) W'/\W'.heap[u]?=some (.cells (kD n o) 4 (0,0))/\bp (fun b=>a<=b/\F b) W' c (V4 o)/\Below n0 W W'/\
  ∀b,F b->a<=b->b<W.heap.size->c.ownBlock≠some b->W'.heap[b]?=W.heap[b]?
def ag6(n0 a u n:Nat)(b:World->Prop)(J:(Nat->Prop)->List (Value×List Nat)->World->Prop)(F:Nat->Prop)(pre:List (Value×List Nat))(o:List Nat)(c:Value)(xs:List (List Nat))(W:World)(e:Ending)(W':World):Prop:=
 e=.returned (.bool true)/\OrdQ n0 a u n b J F pre o c xs W W'
namespace Cz
def lG(fs:List Int)(r:Row)(n:Nat):Row:=(List.range r.length).map fun f=>if f<n/\fs.getD f (-2)≠ -2 then 0 else r.getD f 0
theorem Em(fs:List Int)(r:Row):lG fs r 0=r:=by
 unfold lG;conv=>rhs;rw[<-eY r 0]
 refine zxq fun f _=>?_;rw[if_neg aD]
theorem Ht(fs:List Int)(r:Row)(n:Nat):(lG fs r n).length=r.length:=by simp[lG]
theorem Hu{fs:List Int}{r:Row}{n:Nat}(a:n<r.length)(h:fs.getD n (-2)≠ -2):(lG fs r n).set n 0=lG fs r (n+1):=by
 refine alW (by simp[lG]) fun j b c=>?_;rw[List.getElem_set];by_cases e:n=j
 ·subst e
  rw[if_pos rfl];simp only[lG,zxo,zxy];rw[if_pos ⟨aD,h⟩]
 ·rw[if_neg e]
  simp only[lG,zxo,zxy];by_cases g:fs.getD j (-2)≠ -2
  ·by_cases l:j<n
   ·rw[if_pos ⟨l,g⟩,if_pos ⟨aD,g⟩]
   ·rw[if_neg (fun h=>l h.1),if_neg (fun h=>by omega)]
  ·rw[if_neg (fun h=>g h.2),if_neg (fun h=>g h.2)]
theorem Mk{fs:List Int}{r:Row}{n:Nat}(h:¬fs.getD n (-2)≠ -2):lG fs r n=lG fs r (n+1):=by
 unfold lG;refine zxq fun j _=>?_;by_cases g:fs.getD j (-2)≠ -2
 ·by_cases l:j<n
  ·rw[if_pos ⟨l,g⟩,if_pos ⟨aD,g⟩]
  ·rw[if_neg (fun h=>l h.1),if_neg (fun a=>?_)]
   have:j=n:=aD
   subst this;exact h a.2
 ·rw[if_neg (fun h=>g h.2),if_neg (fun h=>g h.2)]
theorem Hv(fs:List Int)(r:Row):lG fs r r.length=mask fs r:=by
 unfold lG mask;refine zxq fun j hj=>?_;have hj:j<r.length:=BI
 by_cases g:fs.getD j (-2)= -2
 ·rw[if_pos g,if_neg (fun h=>h.2 g)]
 ·rw[if_neg g,if_pos ⟨hj,g⟩]
def kX(ks:iQ)(w:Wd)(k i:Nat):List Row:=(List.range i).map fun i=>mask (ks.getD k []) (row w k i)
theorem Ml(ks:iQ)(w:Wd)(k i:Nat):kX ks w k (i+1)=kX ks w k i++[mask (ks.getD k []) (row w k i)]:=by simp[kX,zxs]
def UI(ks:iQ)(w:Wd)(k:Nat):List Row:=(List.range k).map fun k=>tA (kX ks w k (len w k))
theorem aau(ks:iQ)(w:Wd)(k:Nat):UI ks w (k+1)=UI ks w k++[tA (kX ks w k (len w k))]:=by simp[UI,zxs]
theorem acI(ks:iQ)(w:Wd):UI ks w w.length=S0 ks w:=rfl
end Cz
structure xW(x:aC.cE)(z:Int)(ak al ar aw:Option Addr)(nk ck nl cl nr cr nw cw:Nat)(p:Nat)(L:List (List Int))(w:World):Prop where
 cell:∃v,w.heap[p]?=some (.cells #[.int .i64 z,.slice ak nk ck,.slice al nl cl,.slice ar nr cr,.slice aw nw cw,v] 126 (0,0))/\fE (p<·) w v L
theorem xW.next{x:aC.cE}{z:Int}{a b c d:Option Addr}{e f g i j k l m p:Nat}{L:List (List Int)}{w w':World}(h:xW x z a b c d e f g i j k l m p L w)(n:BL w w'):xW x z a b c d e f g i j k l m p L w':=by
 obtain⟨v,o,q⟩:=h.cell;exact⟨v,(n.block _ (aI o)).trans o,cW.keep q (aH.below n)⟩
theorem aav{S:Nat->Prop}{w:World}{v:Value}{xs:List (List Int)}(h:fE S w v xs):∀b,v.ownBlock=some b->b<w.heap.size:=by
 obtain⟨-,d,Z,a, -, -⟩:=h;exact fun b c=>(a.lt b c).2
theorem JB{w:World}{F:Nat}{a b c d e f:Value}{t:TypeId}(h:w.heap[F]?=some (.cells #[a,b,c,d,e,f] t (0,0))):
  w.cell? ⟨F,0,none⟩=some a/\w.cell? ⟨F,1,none⟩=some b/\w.cell? ⟨F,2,none⟩=some c/\w.cell? ⟨F,3,none⟩=some d/\w.cell? ⟨F,4,none⟩=some e/\w.cell? ⟨F,5,none⟩=some f:=
 ⟨aP h 0,aP h 1,aP h 2,aP h 3,aP h 4,aP h 5⟩
theorem aeg{p:Prop}(h:p:=by
  go_wp2
  go_roundw
  case rel=>exact⟨f+1,aD,zG,zO,ou⟩
  exact zI):p:=h
theorem amh{p:Prop}(h:p:=by
  subst hv9
  go_wp2
  go_roundw
  case rel=>exact⟨i+1,aD,zG,HQ9,pX⟩
  exact zI):p:=h
theorem PG(x:aC.cE)(W:aC.dw)(C:Cz.nH (aM x) W)(h5:∀k,Cz.len W k<=1000)(aj:∀k∈x.ah,k.aF.length<=20)(bo:x.ah.length<=10)(D E F z:Option Addr)(G H I O:Nat)(w:World)
  (hv:dO (·<w.heap.size) w (.agg (sBx x D E F G H I)) x)(hW:bK (·<w.heap.size) w (.slice z W.length O) W):
  CP 28 #[.agg (sBx x D E F G H I),.slice z W.length O] w fun e w'=>
   e=.returned (.pointer (some ⟨w.heap.size+1,0,none⟩))/\xW x x.aQ D E F z x.ah.length G x.aV.length H x.aX.length I W.length O (w.heap.size+1) (Cz.S0 (aM x) W) w'/\BL w w':=by
 have Nr:W.length=x.ah.length:=by rw[C.lk,jc]
 have UC:dV z W.length:=by obtain⟨a,c,e,h, -⟩:=hW.form;cases e;exact h
 obtain⟨w1,hw1⟩:=bJ (w.alloc (.cells (sBx x D E F G H I) 27));have am:BL w w1:=Cx
 have an:w1.heap.size=w.heap.size+1:=J6
 have ap:w1.heap[w.heap.size]?=some (.cells (sBx x D E F G H I) 27 (0,0)):=J7
 obtain⟨w2,hw2⟩:=bJ (w1.alloc (.cells #[.int .i64 x.aQ,.slice D x.ah.length G,.slice E x.aV.length H,.slice F x.aX.length I,.slice z W.length O,.slice none 0 0] 126));have J:Hid (Below w.heap.size w w2):=hid (by rw[hw2];exact am.alloc aD _);have Nq:Hid (xW x x.aQ D E F z x.ah.length G x.aV.length H x.aX.length I W.length O w1.heap.size (Cz.UI (aM x) W 0) w2):=hid ⟨_,WH,jv.nil _ _ _ _⟩;have a3:=hid hw1;have a4:=hid hw2;have HV:=hid hv;have aq:=hid hW;have pW:=hid C;have H5:=hid h5;have Mj:=hid Nr;have Ur:=hid an;have Uz:=hid aj;obtain⟨y0,y1,y2,y3⟩:=b4z ap;clear hv hW C h5 Nr hw1 am ap hw2 aj an;go_enter func28,ntmps28;go_upto_region 1 with fail;rw[<-a3.out];go_upto_region 2 with fail;rw[<-a4.out];clear y0 y1 y2 y3;go_wp2;go_loopw [20] (fun kk wr=>∃k:Nat,k<=W.length/\kk=.int .i64 k/\Hid (xW x x.aQ D E F z x.ah.length G x.aV.length H x.aX.length I W.length O w1.heap.size (Cz.UI (aM x) W k) wr)/\Hid (BL w wr)) (fun kk _=>W.length-(intOf kk).toNat);case atStart=>exact⟨0,zxa _,rfl,Nq,J⟩
 case round=>
  obtain⟨k,hk,rfl,HP,Z⟩:=hrel;by_cases hlt:k<W.length
  ·have P:k<x.ah.length:=by rw[<-Mj.out];exact hlt
   have br:=zN k
   have bs:=zL k W.length
   obtain⟨vk,aa, -,TV⟩:=(aq.out.keep (aH.bg Z.out (fun _ h=>h))).at hlt;obtain⟨a5,au,av,Q⟩:=aq.out.at hlt;have e:a5=vk:=oO (((Z.out.cell (p:=⟨bM z,bT z+k,none⟩) av).trans au).symm.trans aa);subst e;obtain⟨UJ,UK,rfl,PI, -, -⟩:=Q.form;obtain⟨N,hnk⟩:=bJ (W[k].length);have Fu:=hid hnk;have JC:N<=1000:=alJ
   rw[<-hnk] at aa PI Q;have a6:=hid Q;obtain⟨j,rW⟩:=bJ wr.heap.size;obtain⟨w4,R⟩:=bJ (wr.alloc (.cells #[.slice UJ N UK,.slice none 0 0] 128));have Le:Hid (Below j wr w4):=hid (by rw[R,rW];exact aG.alloc aL _);have ba:Hid (∃v,w4.heap[j]?=some (.cells #[.slice UJ N UK,v] 128 (0,0))/\fE (j<·) w4 v (Cz.kX (aM x) W k 0)):=hid ⟨_,by rw[R];exact bD _ _ rW,jv.nil _ _ _ _⟩;have Fy:=hid R;have ax:=hid rW;have xM:Hid (w.heap.size<=j):=hid (by rw[rW];exact Z.out.size);have xX:Hid (∀X,Below j wr X->BL wr X):=hid (fun X hX=>by rw[rW] at hX;exact hX);have ab:Hid (∀X,Below j wr X->j<=X.heap.size):=hid (fun X hX=>by rw[rW];exact hX.size);clear TV Q hnk au R;go_upto_region 6 with fail;rw[<-ax.out,<-Fy.out];clear aa rW;go_wp2;generalize Lx:wr=wb at*;clear Lx;go_loopw [29] (fun ii wr=>∃i:Nat,i<=N/\ii=.int .i64 i/\Hid (∃v,wr.heap[j]?=some (.cells #[.slice UJ N UK,v] 128 (0,0))/\fE (j<·) wr v (Cz.kX (aM x) W k i))/\Hid (Below j wb wr)) (fun ii _=>N-(intOf ii).toNat);case atStart=>exact⟨0,zxa _,rfl,ba,Le⟩
   case round=>
    obtain⟨i,hi,rfl,HQ,J⟩:=hrel;by_cases hit:i<N
    ·have ox:i<W[k].length:=by rw[<-Fu.out];exact hit
     have bt:=zN i
     have bu:=zL i N
     have Nf:=Z.out.trans (J.out.mono xM.out);obtain⟨vi,ay, -,E5⟩:=(a6.out.keep (aH.bg Nf (fun _ h=>h))).at ox;rw[show W[k][i]=Cz.row W k i from by unfold Cz.row;rw[Cz.bh hlt,Cz.bh ox]] at E5;obtain⟨ai,ci,rfl,bb, -, -⟩:=E5.form;have Ct:Hid ((Cz.row W k i).length=(aC.kd x k).aF.length):=hid (by rw[pW.out.r k i hlt (by unfold Cz.len;rw[Cz.bh hlt];exact ox),dJ x P]);obtain⟨A,qg⟩:=bJ ((Cz.row W k i).length);have Cr:Hid ((Cz.row W k i).length=A):=hid qg.symm;have bn:A<=20:=by rw[qg,Ct.out,dH P];exact Uz.out _ (eV P)
     have GR:=hid (zU (Cz.row W k i) aD _ _ wr E5);rw[<-qg] at ay bb GR;have ad:Hid (wr.heap[j]?=wr.heap[j]?/\True):=hid ⟨rfl,trivial⟩;obtain⟨bv,az, -⟩:=HQ.out;clear ad;have ad:=hid az;clear E5 az qg Nf;go_wp2_with fail;refine GR.out.mono ?_;rintro e w5 ⟨v5,rfl,Nl,jZ⟩;obtain⟨ao,co,aA,aB, -, -⟩:=(bp.sl Nl).form;rw[Cr.out] at aA;subst aA;have iH:=hid jZ;have aE:Hid (bp (wr.heap.size<=·) w5 (.slice ao A co) (Cz.lG ((aM x).getD k []) (Cz.row W k i) 0)):=hid (by rw[Cz.Em];exact Nl);rw[Cr.out] at aB;clear Nl jZ ay;go_wp2;generalize bc:wr=wi at*;clear bc;go_loopw [37] (fun ff wr=>∃f:Nat,f<=A/\ff=.int .i64 f/\Hid (bp (wi.heap.size<=·) wr (.slice ao A co) (Cz.lG ((aM x).getD k []) (Cz.row W k i) f))/\Hid (BL wi wr)) (fun ff _=>A-(intOf ff).toNat);case atStart=>exact⟨0,zxa _,rfl,aE,iH⟩
     case round=>
      obtain⟨f,hf,rfl,HI,cN⟩:=hrel;have Cq:=hid (J.out.trans (cN.out.mono (ab.out _ J.out)));by_cases aK:f<A
      ·have aO:f<(Cz.row W k i).length:=by rw[Cr.out];exact aK
       have bw:=zN f
       have bx:=zL f A
       have rG:f<(aC.kd x k).aF.length:=by rw[<-Ct.out];exact aO
       obtain⟨vs,t, -⟩:=(HP.out.next (xX.out _ Cq.out)).cell;obtain⟨s0,s1,s2,s3,s4, -⟩:=JB t;have ae:=hid (Pw x k f P rG D E F z G H I W.length O (·<w.heap.size) wr (HV.out.keep (aH.bg (Z.out.trans (Cq.out.mono xM.out)) (fun _ h=>h))));have B6:=hid (fun h=>Cz.Hu (fs:=(aM x).getD k []) aO h);have xJ:=hid (fun h=>Cz.Mk (fs:=(aM x).getD k []) (r:=Cz.row W k i) (n:=f) h);have tF:Hid (Cz.fk (aM x) k f=((aM x).getD k []).getD f (-2)):=hid rfl;clear t rG;obtain⟨d,hd⟩:=bJ (decide (Cz.fk (aM x) k f≠ -2));rw[<-hd] at ae;have HD:=hid hd;clear hd;go_wp2_with fail;refine ae.out.mono ?_;rintro e w7 ⟨rfl,mI⟩;have u:=aR cN mI;have uJ:=hid (aW.keep HI.out (aH.below mI));clear mI ae s0 s1 s2 s3 s4;cases d with
       |true=>
        have hne:((aM x).getD k []).getD f (-2)≠ -2:=by rw[<-tF.out];exact of_decide_eq_true HD.out.symm
        have K:(Cz.lG ((aM x).getD k []) (Cz.row W k i) f).length=A:=by rw[Cz.Ht,Cr.out]
        obtain⟨g,cap,hv9, -, -, -,aP⟩:=gU uJ.out.1 (by rw[K];omega)
        rw[K] at hv9
        obtain⟨rfl,rfl⟩:ao=some ⟨g,0,none⟩/\co=cap:=by simpa using hv9
        obtain⟨aS,cf⟩:=aP f (by rw[sM,K];exact aK)
        obtain⟨yc,cc⟩:∃y,w7.cell? ⟨g,f,none⟩=some y:=⟨_,aS⟩
        have HG:=hid (uJ.out.2 g rfl)
        have zO:Hid (bp (wi.heap.size<=·) (w7.setCell ⟨g,f,none⟩ (.int .i64 0)) (.slice (some ⟨g,0,none⟩) A co) (Cz.lG ((aM x).getD k []) (Cz.row W k i) (f+1))):=hid (by
         rw[<-B6.out hne]
         exact bp.put uJ.out K.symm f 0)
        have ou:Hid (BL wi (w7.setCell ⟨g,f,none⟩ (.int .i64 0))):=hid (u.out.setCell HG.out _)
        clear aS hv9 aP K hne
        exact aeg
       |false=>
        have zO:Hid (bp (wi.heap.size<=·) w7 (.slice ao A co) (Cz.lG ((aM x).getD k []) (Cz.row W k i) (f+1))):=hid (by
         rw[<-xJ.out (by rw[<-tF.out];exact of_decide_eq_false HD.out.symm)]
         exact uJ.out)
        go_wp2
        go_roundw
        case rel=>exact⟨f+1,aD,zG,zO,u⟩
        exact zI
      ·obtain rfl:f=A:=by omega
       have bd:Hid (bp (wi.heap.size<=·) wr (.slice ao f co) (Cz.mask ((aM x).getD k []) (Cz.row W k i))):=hid (by
        rw[<-Cz.Hv,Cr.out];exact HI.out)
       obtain⟨lv,m,o⟩:=HQ.out;have S:=(cN.out.block _ (aI m)).trans m;have aT:=cW.keep o (aH.below cN.out);obtain⟨a7,c7,rfl,UL, -, -⟩:=(fE.sl aT).form;have c1:=(pV S).1.2;have be:=(pV S).2 1;have nJ:=hid o;have aU:=hid S
       have vX:(Cz.kX (aM x) W k i).length+1<=1000000000:=by
        simp[Cz.kX];omega
       clear m o S aT;go_wp2_with (at_builtin;go_must (refine iM aW rfl _ _ rfl Tryz.mB rfl nJ.out cN.out rfl (Cz.mask ((aM x).getD k []) (Cz.row W k i)) bd.out rfl vX ?_));intro s B VO Y
       have Fo:Hid (fE (j<·) B s (Cz.kX (aM x) W k (i+1))):=hid (by
        rw[Cz.Ml]
        refine cW.mono VO (fun b _ l=>?_)
        rcases l with h|h
        ·exact h.1
        ·exact oN (aI ad.out) h)
       have T:=(Y.block _ (fun e=>Nat.lt_irrefl _ (nJ.out.1 _ e.symm)) (aI aU.out)).trans aU.out;have ou:Hid (Below j wb B):=hid ((J.out.trans (cN.out.mono (ab.out _ J.out))).trans (Y.below (zxb (ab.out _ J.out) cN.out.size) (fun b l=>Nat.le_of_lt (nJ.out.1 b l.symm))))
       have HQ9:Hid (∃v,(B.setCell ⟨j,1,none⟩ s).heap[j]?=some (.cells #[.slice UJ N UK,v] 128 (0,0))/\fE (j<·) (B.setCell ⟨j,1,none⟩ s) v (Cz.kX (aM x) W k (i+1))):=hid
        ⟨s,(heap_setCell_same _ _ 1 _ _ s T),cW.keep Fo.out (fun b l _=>mO _ ⟨j,1,none⟩ _ _ (fun e=>by have h9:j<b:=l;have e9:b=j:=e;omega))⟩
       have pX:Hid (Below j wb (B.setCell ⟨j,1,none⟩ s)):=hid (ou.out.setCell aL _);obtain⟨a9,n9,c9,hv9⟩:∃a n c,s=.slice a n c:=abm
       have c9:=(pV T).1.2;have bf:=(pV T).2 1;clear VO Y T c1 be;exact amh
    ·obtain rfl:i=N:=by omega
     have lP:=hid (Z.out.trans (J.out.mono xM.out));obtain⟨lv,m,o⟩:=HQ.out;obtain⟨a7,c7,aY,UL, -, -⟩:=(fE.sl o).form;have L:(Cz.kX (aM x) W k i).length=i:=by simp[Cz.kX]
     rw[L] at aY UL;subst aY;have Wt:=hid m;have nJ:=hid o;obtain⟨uv,t,af⟩:=(HP.out.next (xX.out _ J.out)).cell;obtain⟨a8,c8,rfl,UM, -, -⟩:=(fE.sl af).form;have q:=hid t;have ag:=hid af
     have bi:Hid (∀b,(Value.slice a8 (Cz.UI (aM x) W k).length c8).ownBlock=some b->j≠b):=hid (fun b l e=>by
      obtain⟨bj,a0,og⟩:=HP.out.cell;have e1:=(xX.out _ J.out).block _ (aI a0);have e2:=(e1.trans a0).symm.trans t;have e3:bj=.slice a8 (Cz.UI (aM x) W k).length c8:=by simpa using e2
      have h9:=(aav og) b (by rw[e3];exact l);have:=ax.out;omega)
     have bk:i<=1000:=JC;have Bj:=hid (fun X (hX:BL wr X)=>Hf (Cz.kX (aM x) W k i) (by rw[L];exact bk) UJ a7 UK c7 X (cG.mono (S':=(·<X.heap.size)) ((fE.sl nJ.out).keep (aH.below hX)|>fun h=>by rw[L];exact h) (fun b l _=>l)));rw[L] at Bj;have vX:(Cz.UI (aM x) W k).length+1<=1000000000:=by simp[Cz.UI];have:=Mj.out;omega
     obtain⟨⟨z0,z1⟩, -⟩:=pV m;clear m o t af L;go_upto_region 18 with fail;clear z0 z1;have O7:∀M:Held (fun V=>V.heap[j]?=wr.heap[j]?/\V.heap[w1.heap.size]?=wr.heap[w1.heap.size]?),M.1.cell? ⟨j,0,none⟩=some (.slice UJ i UK):=fun M=>(pV (M.2.1.trans Wt.out)).1.1;have O8:∀M:Held (fun V=>V.heap[j]?=wr.heap[j]?/\V.heap[w1.heap.size]?=wr.heap[w1.heap.size]?),M.1.cell? ⟨j,1,none⟩=some (.slice a7 i c7):=fun M=>(pV (M.2.1.trans Wt.out)).1.2;have bl:∀M:Held (fun V=>V.heap[j]?=wr.heap[j]?/\V.heap[w1.heap.size]?=wr.heap[w1.heap.size]?),M.1.cell? ⟨w1.heap.size,5,none⟩=some (.slice a8 (Cz.UI (aM x) W k).length c8):=fun M=>(JB (M.2.2.trans q.out)).2.2.2.2.2;have GR:Hid (∀V,BL wr V->V.heap[j]?=wr.heap[j]?/\V.heap[w1.heap.size]?=wr.heap[w1.heap.size]?):=hid (fun V hV=>⟨hV.block _ (aI Wt.out),hV.block _ (aI q.out)⟩);refine bq 9 (.quiet 0 (.quiet 1 (.quiet 2 (.quiet 3 (.quiet 4 (.quiet 5 (.one 6 (.one 7 (.one 8 .done))))))))) (fun V=>V.heap[j]?=wr.heap[j]?/\V.heap[w1.heap.size]?=wr.heap[w1.heap.size]?) nK zK ⟨rfl,rfl⟩ ?_;have fH:=hid (aJ (Below.refl wr.heap.size wr) 1);generalize wg:wr.drewN 1=w6 at*;clear wg
     iterate 6 refine gF ?_
     refine aZ rfl ?_;go_wp2_with fail;refine(Bj.out w6 fH.out).mono ?_;rintro e w7 ⟨v7,rfl,wh,mI⟩;have u:=aR fH mI;have uJ:=hid (aW.mono wh (S':=(wr.heap.size<=·)) (fun b _ l=>zxb fH.out.size l));obtain⟨bz,n10,bA,rfl⟩:∃a n c,v7=.slice a n c:=abq
     clear wh mI;go_wp2_with fail;refine aN (fun V=>V.heap[j]?=wr.heap[j]?/\V.heap[w1.heap.size]?=wr.heap[w1.heap.size]?) (fun _ h=>h) (GR.out _ u.out) ?_;refine aZ rfl ?_;go_wp2_with fail;refine aN (fun V=>V.heap[j]?=wr.heap[j]?/\V.heap[w1.heap.size]?=wr.heap[w1.heap.size]?) (fun _ h=>h) (GR.out _ (u.out.alloc u.out.size _)) ?_;refine aZ rfl ?_;clear O7 O8 bl;go_wp2_with (at_builtin;go_must (refine iM aW rfl _ _ rfl Tryz.mB rfl ag.out u.out rfl (Cz.tA (Cz.kX (aM x) W k i)) uJ.out rfl vX ?_));intro s B VO Y
     have Fo:Hid (fE (w1.heap.size<·) B s (Cz.UI (aM x) W (k+1))):=hid (by
      rw[Cz.aau]
      have a1:Cz.len W k=i:=by rw[Fu.out];unfold Cz.len;rw[Cz.bh hlt]
      rw[a1]
      refine cW.mono VO (fun b _ l=>?_)
      rcases l with h|h
      ·exact h.1
      ·exact oN (aI q.out) h)
     have mz:BL w B:=lP.out.trans ((u.out.mono lP.out.size).trans (Y.below (zxb lP.out.size u.out.size) (fun b l=>by have h9:w1.heap.size<b:=ag.out.1 b l.symm;have:=Ur.out;omega)));have U:=(Y.block _ (fun e=>Nat.lt_irrefl _ (ag.out.1 _ e.symm)) (oN (aI q.out) u.out.size)).trans ((u.out.block _ (aI q.out)).trans q.out)
     have bm:Hid (xW x x.aQ D E F z x.ah.length G x.aV.length H x.aX.length I W.length O w1.heap.size (Cz.UI (aM x) W (k+1)) (B.setCell ⟨w1.heap.size,5,none⟩ s)):=hid
      ⟨s,heap_setCell_same _ _ 5 _ _ s U,cW.keep Fo.out (fun b l _=>mO _ ⟨w1.heap.size,5,none⟩ _ _ (fun e=>by have h9:w1.heap.size<b:=l;have e9:b=w1.heap.size:=e;omega))⟩
     have pX:Hid (BL w (B.setCell ⟨w1.heap.size,5,none⟩ s)):=hid (mz.setCell (by show w.heap.size<=w1.heap.size;have:=Ur.out;omega) _);have wR:=hid U;have a2:Hid (B.heap[j]?=wr.heap[j]?/\B.heap[w1.heap.size]?=wr.heap[w1.heap.size]?):=hid ⟨(Y.block _ (fun e=>bi.out _ e.symm rfl) (oN (aI Wt.out) u.out.size)).trans (u.out.block _ (aI Wt.out)),U.trans q.out.symm⟩;obtain⟨bB,n11,bE,rfl⟩:∃a n c,s=.slice a n c:=abm
     clear VO Y mz U;refine aN (fun V=>V.heap[j]?=wr.heap[j]?/\V.heap[w1.heap.size]?=wr.heap[w1.heap.size]?) (fun _ h=>h) ⟨a2.out.1,a2.out.2⟩ ?_;refine bG ?_;try simp only[jW,jH]
     have c9:=(JB wR.out).2.2.2.2.2;have bf:=fM wR.out 5;go_wp2;go_roundw;case rel=>exact⟨k+1,aD,zG,bm,pX⟩
     exact zI
  ·obtain rfl:W.length=k:=by omega
   have HE:Hid (xW x x.aQ D E F z x.ah.length G x.aV.length H x.aX.length I W.length O w1.heap.size (Cz.S0 (aM x) W) wr/\BL w wr):=hid ⟨by rw[<-Cz.acI];exact HP.out,Z.out⟩;go_wp2;go_ret;exact⟨by rw[<-Ur.out];rfl,by rw[<-Ur.out];exact HE.out⟩
namespace Cz
def nI(ks:iQ)(w:Wd)(S:List Row)(k i:Nat):List Row:=(List.range i).map (gJ ks w S k)
theorem PJ(ks:iQ)(w:Wd)(S:List Row)(k i:Nat):nI ks w S k (i+1)=nI ks w S k i++[gJ ks w S k i]:=by simp[nI,zxs]
def Bs(ks:iQ)(w:Wd)(S:List Row)(k:Nat):List Row:=(List.range k).map fun k=>tA (nI ks w S k (len w k))
theorem PK(ks:iQ)(w:Wd)(S:List Row)(k:Nat):Bs ks w S (k+1)=Bs ks w S k++[tA (nI ks w S k (len w k))]:=by simp[Bs,zxs]
theorem UN(ks:iQ)(w:Wd)(S:List Row):Bs ks w S w.length=fF ks w S:=rfl
end Cz
theorem xW.akp{x:aC.cE}{W:aC.dw}{c d e j:Option Addr}{f g i k p n0:Nat}{L:List (List Int)}{w:World}(h:xW x x.aQ c d e j x.ah.length f x.aV.length g x.aX.length i W.length k p L w)
  (m:dO (·<n0) w (.agg (sBx x c d e f g i)) x)(n:bK (·<n0) w (.slice j W.length k) W)(s:n0<=p):
  ∃v,RL x W L (.agg (sBx x c d e f g i)) (.slice j W.length k) v p w.heap.size w:=by
 obtain⟨v,l,o⟩:=h.cell;have q:=aI l;exact⟨v,⟨c,f,d,g,e,i,rfl,l⟩,m.mono (fun b _ a=>by have r:b<n0:=a;show b<w.heap.size;omega),n.mono (fun b _ a=>by have r:b<n0:=a;show b<w.heap.size;omega),cG.mono (fE.sl o) (fun b a _=>a),q⟩
theorem PL(x:aC.cE)(hu:aC.eT x)(ae:∀k∈x.ah,k.aF.length<=20)(am:x.ah.length<=10)(W:aC.dw)(z:Cz.nH (aM x) W)(h5:∀k,Cz.len W k<=1000)(hT:Cz.total W<=100000)
  (Q R S T:Option Addr)(U V Y cw p n0:Nat)(Z:n0<=p)(w:World)
  (hv:dO (·<n0) w (.agg (sBx x Q R S U V Y)) x)(hW:bK (·<n0) w (.slice T W.length cw) W)(h:xW x x.aQ Q R S T x.ah.length U x.aV.length V x.aX.length Y W.length cw p (Cz.S0 (aM x) W) w):
  CP 29 #[.pointer (some ⟨p,0,none⟩)] w fun e w'=>e=.returned (.tuple #[])/\xW x x.aQ Q R S T x.ah.length U x.aV.length V x.aX.length Y W.length cw p (Cz.sorts (aM x) W) w'/\Turns (fun b=>b=p) w w':=by
 have Mj:Hid (W.length=x.ah.length):=hid (by rw[z.lk,jc]);have Nr:=Mj.out;have HU:=hid hu;have pW:=hid z;have H5:=hid h5;have Uz:=hid ae;have ao:=hid hv;have ap:=hid hW;have BZ:=hid h;have aq:Hid (p<=w.heap.size):=hid (by obtain⟨v,E, -⟩:=h.cell;exact Nat.le_of_lt (aI E));have UC:dV T W.length:=by obtain⟨a,c,e,h, -⟩:=hW.form;cases e;exact h
 clear hu z h5 ae hv hW h;have IL:W.length<=10:=aD
 clear Nr;go_enter func29,ntmps29;go_wp2;go_loopw [2] (fun bb wr=>∃(b:Int) (L:List Cz.Row),bb=.int .i64 b/\Hid (xW x x.aQ Q R S T x.ah.length U x.aV.length V x.aX.length Y W.length cw p L wr)/\Hid (Cz.OkS W L)/\Hid (Turns (fun b=>b=p) w wr)/\Hid ((b= -1/\L=Cz.S0 (aM x) W)\/∃P n,Cz.OkS W P/\b=(Cz.diff P:Nat)/\L=Cz.fF (aM x) W P/\Cz.sorts (aM x) W=Cz.qv (aM x) W (n+1) P/\Cz.total W<=n+Cz.diff P)/\ -1<=b/\b<=(Cz.total W:Nat)) (fun bb _=>Cz.total W+1-(intOf bb+1).toNat);case atStart=>exact⟨-1,Cz.S0 (aM x) W,rfl,BZ,hid (Cz.Z0 (aM x) W),hid (Turns.refl _ _),hid (.inl ⟨rfl,rfl⟩),aD,aD⟩
 case round=>
  obtain⟨b,L,rfl,HP,K,HB,Bt,aU,aY⟩:=hrel;have af:=hid (HB.out.below aq.out (fun c hc=>Nat.le_of_eq hc.symm));obtain⟨uv,G⟩:=HP.out.akp (ao.out.keep (aH.bg af.out (fun c hc=>oN hc Z))) (ap.out.keep (aH.bg af.out (fun c hc=>oN hc Z))) Z
  have yV:Hid (L.length<=1000/\∀r∈L,r.length<=1000):=hid ⟨by rw[K.out.1];omega,fun r hr=>by
   obtain⟨j,hj,rfl⟩:=zxf hr;have:=K.out.2 j (by rw[<-K.out.1];exact hj);rw[Cz.bh hj] at this;rw[this];exact H5.out j⟩
  have aa:=hid (wU x W L yV.out.1 yV.out.2 _ _ uv p wr.heap.size wr aL G);obtain⟨d,hd⟩:=bJ (Cz.diff L);have a0:d<=Cz.total W:=by rw[hd];exact Cz.Jj K.out.1 K.out.2
  have HD:=hid hd;rw[<-hd] at aa;clear hd;go_wp2_with fail;refine aa.out.mono ?_;rintro e w1 ⟨rfl,A⟩;have bL:=hid A;have Um:=hid (HP.out.next A);have ab:=hid (wU x W L yV.out.1 yV.out.2 _ _ uv p wr.heap.size w1 A.size (G.keep A));rw[<-HD.out] at ab;have ag:=hid G;clear A aa G;by_cases B:b=(d:Int)
  ·have e1:(b !=(d:Int))=false:=abA B
   have HE:Hid (L=Cz.sorts (aM x) W):=hid (by
    rcases Bt.out with⟨E, -⟩|⟨P,n,E,h2,M,h4,h5⟩
    ·omega
    ·rw[h4,M]
     have h6:Cz.diff (Cz.fF (aM x) W P)=Cz.diff P:=by
      have:=HD.out;rw[M] at this;omega
     exact(Cz.Mf n h6).symm)
   have au:Hid (xW x x.aQ Q R S T x.ah.length U x.aV.length V x.aX.length Y W.length cw p (Cz.sorts (aM x) W) w1/\Turns (fun b=>b=p) w w1):=hid ⟨by rw[<-HE.out];exact Um.out,HB.out.trans (Turns.bg bL.out)⟩;clear B;go_wp2;go_end0;exact⟨rfl,au.out⟩
  ·have e1:(b !=(d:Int))=true:=Ny B
   have UO:Hid (((d:Int)= -1/\Cz.fF (aM x) W L=Cz.S0 (aM x) W)\/∃P n,Cz.OkS W P/\(d:Int)=(Cz.diff P:Nat)/\Cz.fF (aM x) W L=Cz.fF (aM x) W P/\Cz.sorts (aM x) W=Cz.qv (aM x) W (n+1) P/\Cz.total W<=n+Cz.diff P):=hid (.inr (by
    rcases Bt.out with⟨E,h2⟩|⟨P,n,E,h2,M,h4,h5⟩
    ·exact⟨L,Cz.total W,K.out,by rw[HD.out],rfl,by rw[h2];rfl,aD⟩
    ·have h6:¬Cz.diff (Cz.fF (aM x) W P)=Cz.diff P:=fun h=>B (by rw[h2,<-h,<-M,HD.out])
     obtain⟨m,e1,e2,e3, -, -⟩:=Cz.aah E h5 h6;exact⟨L,m,K.out,by rw[HD.out],rfl,by rw[h4,e3,M],by rw[M];exact e2⟩))
   have aT:b<(d:Int):=by
    rcases Bt.out with⟨E,h2⟩|⟨P,n,E,h2,M,h4,h5⟩
    ·omega
    ·have h6:Cz.diff P<=Cz.diff (Cz.fF (aM x) W P):=Cz.Aq E.1 E.2
     rw[<-M,<-HD.out] at h6;omega
   clear B;go_wp2_with fail;refine ab.out.mono ?_;rintro e u ⟨rfl,JZ⟩;have Nq:=hid (Um.out.next JZ);have ad:=aR bL JZ;have nM:=hid ((ag.out.keep ad.out).mono ad.out.size);have ai:Hid (Turns (fun b=>b=p) w u):=hid (HB.out.trans (Turns.bg ad.out));have av:=hid (nM.out.ze);have Zd:Hid (∀X,BL u X->aH (·<u.heap.size) u X):=hid (fun X N=>aH.below N);obtain⟨a1,o, -⟩:=Nq.out.cell;obtain⟨-, -, -, -,s4, -⟩:=JB o;clear o JZ ab;go_wp2;clear s4;generalize ax:wr=a2 at*;clear ax;go_loopw [3,20] (fun nv kk wr=>∃(k:Nat) (an:Option Addr) (nn cn:Nat),k<=W.length/\kk=.int .i64 k/\nv=.slice an nn cn/\Hid (fE (u.heap.size<=·) wr (.slice an nn cn) (Cz.Bs (aM x) W L k))/\Hid (BL u wr)) (fun _ kk _=>W.length-(intOf kk).toNat);case atStart=>exact⟨0,none,0,0,zxa _,rfl,rfl,hid (jv.nil _ _ _ _),hid aG⟩
   case round=>
    obtain⟨k,an,nn,cn,hk,rfl,rfl,Je,s⟩:=hrel;by_cases hlt:k<W.length
    ·have a3:k<x.ah.length:=by rw[<-Mj.out];exact hlt
     have a4:=zN k
     have a5:=zL k W.length
     obtain⟨vk,vZ,Ej⟩:=av.out.vG hlt;have y1:=Ej wr (Zd.out _ s.out);obtain⟨UJ,UK,rfl,PI, -, -⟩:=vZ.form;obtain⟨C,hnk⟩:=bJ (W[k].length);have Fu:=hid hnk;have JC:C<=1000:=alJ
     have pQ:Hid (Cz.len W k=C):=hid (by rw[hnk];unfold Cz.len;rw[Cz.bh hlt]);rw[<-hnk] at y1 PI;obtain⟨f,rW⟩:=bJ wr.heap.size;obtain⟨w4,H⟩:=bJ (wr.alloc (.cells #[.slice UJ C UK,.slice none 0 0] 128));have Le:Hid (Below f wr w4):=hid (by rw[H,rW];exact aG.alloc aL _);have ay:Hid (∃v,w4.heap[f]?=some (.cells #[.slice UJ C UK,v] 128 (0,0))/\fE (f<·) w4 v (Cz.nI (aM x) W L k 0)):=hid ⟨_,by rw[H];exact bD _ _ rW,jv.nil _ _ _ _⟩;have Fy:=hid H;have az:=hid rW;have xM:Hid (u.heap.size<=f):=hid (by rw[rW];exact s.out.size);have aj:Hid (∀X,Below f wr X->f<=X.heap.size):=hid (fun X N=>by rw[rW];exact N.size);have aA:Hid (∀X,Below f wr X->aH (u.heap.size<=·) wr X):=hid (fun X N b _ hlt=>by rw[<-rW] at hlt;exact N.block b hlt);clear vZ Ej hnk H;go_upto_region 8 with fail;rw[<-az.out,<-Fy.out];clear y1 rW;go_wp2;generalize Lx:wr=wb at*;clear Lx;go_loopw [29] (fun ii wr=>∃i:Nat,i<=C/\ii=.int .i64 i/\Hid (∃v,wr.heap[f]?=some (.cells #[.slice UJ C UK,v] 128 (0,0))/\fE (f<·) wr v (Cz.nI (aM x) W L k i))/\Hid (Below f wb wr)) (fun ii _=>C-(intOf ii).toNat);case atStart=>exact⟨0,zxa _,rfl,ay,Le⟩
     case round=>
      obtain⟨i,hi,rfl,HQ,cH⟩:=hrel;by_cases hit:i<C
      ·have a6:=zN i
       have a8:=zL i C
       have aB:i<Cz.len W k:=by rw[pQ.out];exact hit
       have Nf:=s.out.trans (cH.out.mono xM.out);have lP:=hid Nf;obtain⟨lv,t,q⟩:=HQ.out;have aE:=hid (fun X (N:BL u X)=>aar x HU.out Uz.out am W Mj.out L Q R S U V Y _ _ p u.heap.size X (nM.out.keep N) N.size pW.out K.out H5.out k i hlt aB);obtain⟨a7,c7,D,UL, -, -⟩:=(fE.sl q).form;have g:(Cz.nI (aM x) W L k i).length=i:=by simp[Cz.nI]
       rw[g] at D UL;subst D;have Wt:=hid t;have nJ:=hid q;obtain⟨⟨z0,z1⟩, -⟩:=pV t;have vX:(Cz.nI (aM x) W L k i).length+1<=1000000000:=by rw[g];omega
       clear t q Nf g;go_upto_region 11 with fail;clear z0 z1;have O8:=eC wr ⟨f,1,none⟩ (.slice a7 i c7) fun xh=>(pV ((xh.2.block _ (aI Wt.out)).trans Wt.out)).1.2;refine bq 7 (.quiet 0 (.quiet 1 (.quiet 2 (.quiet 3 (.quiet 4 (.one 5 (.one 6 .done))))))) (BL wr) nK zK (aJ aG 1) ?_;have fH:=hid (aJ (Below.refl wr.heap.size wr) 1);generalize wg:wr.drewN 1=w6 at*;clear wg
       iterate 5 refine gF ?_
       refine aZ rfl ?_;go_wp2_with fail;refine(aE.out w6 (bO lP.out fH.out)).mono ?_;rintro e w7 ⟨v7,rfl,wh,mI⟩;have y:=aR fH mI;have uJ:=hid (aW.mono wh (S':=(wr.heap.size<=·)) (fun b _ l=>zxb fH.out.size l));obtain⟨aK,n10,aO,rfl⟩:∃a n c,v7=.slice a n c:=abq
       clear wh mI;go_wp2_with fail;refine aN (BL wr) (fun _ h=>h) y.out ?_;refine aZ rfl ?_;go_wp2_with fail;refine aN (BL wr) (fun _ h=>h) (y.out.alloc y.out.size _) ?_;refine bG ?_;try simp only[jW,jH]
       clear O8;go_wp2_with (at_builtin;go_must (refine iM aW rfl _ _ rfl Tryz.mB rfl nJ.out y.out rfl (Cz.gJ (aM x) W L k i) uJ.out rfl vX ?_));intro F O VO mw
       have Fo:Hid (fE (f<·) O F (Cz.nI (aM x) W L k (i+1))):=hid (by
        rw[Cz.PJ]
        refine cW.mono VO (fun b _ l=>?_)
        rcases l with h|h
        ·exact h.1
        ·exact oN (aI Wt.out) h)
       have I:=(mw.block _ (fun e=>Nat.lt_irrefl _ (nJ.out.1 _ e.symm)) (oN (aI Wt.out) y.out.size)).trans ((y.out.block _ (aI Wt.out)).trans Wt.out);have ou:Hid (Below f wb O):=hid ((cH.out.trans (y.out.mono (aj.out _ cH.out))).trans (mw.below (zxb (aj.out _ cH.out) y.out.size) (fun b l=>Nat.le_of_lt (nJ.out.1 b l.symm))))
       have HQ9:Hid (∃v,(O.setCell ⟨f,1,none⟩ F).heap[f]?=some (.cells #[.slice UJ C UK,v] 128 (0,0))/\fE (f<·) (O.setCell ⟨f,1,none⟩ F) v (Cz.nI (aM x) W L k (i+1))):=hid
        ⟨F,(heap_setCell_same _ _ 1 _ _ F I),cW.keep Fo.out (fun b l _=>mO _ ⟨f,1,none⟩ _ _ (fun e=>by have h9:f<b:=l;have e9:b=f:=e;omega))⟩
       have pX:Hid (Below f wb (O.setCell ⟨f,1,none⟩ F)):=hid (ou.out.setCell aL _);obtain⟨a9,n9,c9,hv9⟩:∃a n c,F=.slice a n c:=abm
       have c9:=(pV I).1.2;have ba:=(pV I).2 1;clear VO mw I;exact amh
      ·obtain rfl:i=C:=by omega
       have lP:=hid (s.out.trans (cH.out.mono xM.out));obtain⟨lv,t,q⟩:=HQ.out;obtain⟨a7,c7,D,UL, -, -⟩:=(fE.sl q).form;have g:(Cz.nI (aM x) W L k i).length=i:=by simp[Cz.nI]
       rw[g] at D UL;subst D;have Bj:=hid (Hf (Cz.nI (aM x) W L k i) (by rw[g];exact JC) UJ a7 UK c7 wr (cG.mono (S':=(·<wr.heap.size)) (show cG (f<·) wr (.slice a7 (Cz.nI (aM x) W L k i).length c7) _ by rw[g];exact fE.sl q) (fun b l _=>l)));rw[g] at Bj;have vX:(Cz.Bs (aM x) W L k).length+1<=1000000000:=by simp[Cz.Bs];omega
       obtain⟨⟨z0,z1⟩, -⟩:=pV t;have Cr:=hid (cW.keep Je.out (aA.out _ cH.out));clear t q g;go_wp2_with fail;refine Bj.out.mono ?_;rintro e w7 ⟨v7,rfl,wh,mI⟩;have y:=hid mI;have uJ:=hid wh;obtain⟨aK,n10,aO,rfl⟩:∃a n c,v7=.slice a n c:=abq
       clear wh mI z0 z1;go_wp2_with (at_builtin;go_must (refine iM aW rfl _ _ rfl Tryz.mB rfl Cr.out y.out rfl (Cz.tA (Cz.nI (aM x) W L k i)) uJ.out rfl vX ?_));intro F O VO mw
       have Fo:Hid (fE (u.heap.size<=·) O F (Cz.Bs (aM x) W L (k+1))):=hid (by
        rw[Cz.PK,pQ.out]
        refine cW.mono VO (fun b _ l=>?_)
        rcases l with h|h
        ·exact h.1
        ·exact zxb lP.out.size h)
       have ou:Hid (BL u O):=hid ((bO lP.out y.out).trans (mw.below (zxb lP.out.size y.out.size) (fun b l=>Cr.out.1 b l.symm)));obtain⟨bc,n11,bd,rfl⟩:∃a n c,F=.slice a n c:=abm
       clear VO mw;go_wp2;go_roundw;case rel=>exact⟨k+1,_,_,_,aD,zG,rfl,Fo,ou⟩
       exact zI
    ·obtain rfl:W.length=k:=by omega
     obtain⟨uv,o,aP⟩:=Nq.out.cell;have J:=(s.out.block _ (aI o)).trans o
     have aS:Hid (xW x x.aQ Q R S T x.ah.length U x.aV.length V x.aX.length Y W.length cw p (Cz.fF (aM x) W L) (wr.setCell ⟨p,5,none⟩ (.slice an nn cn))):=hid
      ⟨_,heap_setCell_same _ _ 5 _ _ _ J,by
       rw[<-Cz.UN]
       refine cW.keep (cW.mono Je.out (S':=(p<·)) (fun b _ l=>oN (aI o) l)) (fun b l _=>mO _ ⟨p,5,none⟩ _ _ (fun e=>by have h9:p<b:=l;have e9:b=p:=e;omega))⟩
     have pX:Hid (Turns (fun b=>b=p) w (wr.setCell ⟨p,5,none⟩ (.slice an nn cn))):=hid ((ai.out.trans (Turns.bg s.out)).setCell ⟨p,5,none⟩ _ rfl);obtain⟨s0,s1,s2,s3,s4,s5⟩:=JB J;have be:=fM J 5;clear o aP J;go_wp2;go_roundw;case rel=>exact⟨(d:Int),Cz.fF (aM x) W L,rfl,aS,hid (Cz.zi (aM x) W L),pX,UO,aD,aD⟩
     exact zI
namespace Cz
def iZ(ks:iQ)(w:Wd)(a:List (List Nat))(k i n:Nat):Row:=(List.range (row w k i).length).map fun f=>if f<n then val ks a k f (cell w k i f) else cell w k i f
def Ce(ks:iQ)(w:Wd)(a:List (List Nat))(k i:Nat):Row:=(List.range (row w k i).length).map fun f=>val ks a k f (cell w k i f)
theorem rC(ks:iQ)(w:Wd)(a:List (List Nat))(k i n:Nat):(iZ ks w a k i n).length=(row w k i).length:=by simp[iZ]
theorem Hw(ks:iQ)(w:Wd)(a:List (List Nat))(k i:Nat):iZ ks w a k i 0=row w k i:=by
 unfold iZ;conv=>rhs;rw[<-eY (row w k i) 0]
 refine zxq fun f _=>?_;rw[if_neg aD];rfl
theorem Mn(ks:iQ)(w:Wd)(a:List (List Nat))(k i:Nat):iZ ks w a k i (row w k i).length=Ce ks w a k i:=by
 unfold iZ Ce;refine zxq fun f hf=>?_;rw[if_pos ah6]
theorem RQ{ks:iQ}{w:Wd}{a:List (List Nat)}{k i f:Nat}(h:f<(iZ ks w a k i f).length):(iZ ks w a k i f)[f]=cell w k i f:=by
 simp only[iZ,zxo,zxy];rw[if_neg aD]
theorem Mp{ks:iQ}{w:Wd}{a:List (List Nat)}{k i n:Nat}{v:Int}(c:n<(row w k i).length)(b:val ks a k n (cell w k i n)=v):(iZ ks w a k i n).set n v=iZ ks w a k i (n+1):=by
 refine alW (by simp[iZ]) fun j d f=>?_;rw[List.getElem_set];by_cases e:n=j
 ·subst e
  rw[if_pos rfl];simp only[iZ,zxo,zxy];rw[if_pos aD,b]
 ·rw[if_neg e]
  simp only[iZ,zxo,zxy];by_cases l:j<n
  ·rw[if_pos l,if_pos aD]
  ·rw[if_neg l,if_neg aD]
theorem Mq{ks:iQ}{w:Wd}{a:List (List Nat)}{k i n:Nat}(h:fk ks k n= -2):iZ ks w a k i n=iZ ks w a k i (n+1):=by
 unfold iZ;refine zxq fun j _=>?_;by_cases l:j<n
 ·rw[if_pos l,if_pos aD]
 ·rw[if_neg l]
  by_cases e:j=n
  ·subst e
   rw[if_pos aD];unfold val;rw[if_pos h]
  ·rw[if_neg aD]
def jL(ks:iQ)(w:Wd)(a:List (List Nat))(k m:Nat):List Row:=(List.range m).map fun j=>Ce ks w a k ((a.getD k []).getD j 0)
theorem En(ks:iQ)(w:Wd)(a:List (List Nat))(k m:Nat):jL ks w a k (m+1)=jL ks w a k m++[Ce ks w a k ((a.getD k []).getD m 0)]:=by simp[jL,zxs]
def mo(ks:iQ)(w:Wd)(a:List (List Nat))(k:Nat):Wd:=(List.range w.length).map fun j=>if j<k then jL ks w a j (a.getD j []).length else []
theorem Hx(ks:iQ)(w:Wd)(a:List (List Nat)):mo ks w a 0=List.replicate w.length []:=by
 refine alW (by simp[mo]) fun j b c=>?_;simp[mo]
theorem Hy(ks:iQ)(w:Wd)(a:List (List Nat)){k:Nat}(b:k<w.length):(mo ks w a k).set k (jL ks w a k 0)=mo ks w a k:=by
 refine alW (by simp[mo]) fun j c d=>?_;rw[List.getElem_set];by_cases e:k=j
 ·subst e;rw[if_pos rfl];simp[mo,jL]
 ·rw[if_neg e]
theorem amj{p:Prop}(h:p:=by
  by_cases l:j<k
  ·rw[if_pos l,if_pos aD]
  ·rw[if_neg l,if_neg aD]):p:=h
theorem Hz(ks:iQ)(w:Wd)(a:List (List Nat)){k:Nat}(b:k<w.length):mo ks w a (k+1)=(mo ks w a k).set k (jL ks w a k (a.getD k []).length):=by
 refine alW (by simp[mo]) fun j c d=>?_;rw[List.getElem_set];by_cases e:k=j
 ·subst e;rw[if_pos rfl];simp[mo]
 ·rw[if_neg e]
  simp only[mo,zxo,zxy];exact amj
theorem Mr(ks:iQ)(w:Wd)(a:List (List Nat)):mo ks w a w.length=bN ks w a:=by
 unfold mo bN;refine zxq fun k hk=>?_;rw[if_pos abo];unfold jL;conv=>rhs;rw[<-eY (a.getD k []) 0,alV]
 rfl
end Cz
theorem amw{p:Prop}(h:p:=by
  go_wp2
  go_roundw
  case rel=>exact⟨f+1,aD,zG,zO,ou⟩
  exact zI):p:=h
theorem JD(x:aC.cE)(hu:aC.eT x)(aJ:∀k∈x.ah,k.aF.length<=20)(bn:x.ah.length<=10)(W:aC.dw)(S:List (List Int))(ak al ar:Option Addr)(ck cl cr:Nat)(wv uv:Value)(p B:Nat)(w:World)
  (h:RL x W S (.agg (sBx x ak al ar ck cl cr)) wv uv p B w)(K:B<=w.heap.size)(D:Cz.nH (aM x) W)(h5:∀k,Cz.len W k<=1000)(a:List (List Nat))(aK:a.length=W.length)(hp:∀k,k<W.length->(a.getD k []).Perm (List.range (Cz.len W k)))
  (v:Value)(T:Nat->Prop)(ha:cG T w v (a.map fun o=>o.map fun(i:Nat)=>(i:Int))):
  CP 32 #[.pointer (some ⟨p,0,none⟩),v] w fun e w'=>∃g,e=.returned (.slice (some ⟨g,0,none⟩) W.length W.length)/\cM (w.heap.size<=·) w' (.slice (some ⟨g,0,none⟩) W.length W.length) (Cz.bN (aM x) W a)/\BL w w':=by
 have bo:Hid (w.heap[p]?=some (.cells #[.int .i64 x.aQ,.slice ak x.ah.length ck,.slice al x.aV.length cl,.slice ar x.aX.length cr,wv,uv] 126 (0,0))):=hid (by
  obtain⟨WC,WD,al',cl',WE,WG,e,hc⟩:=h.cell
  cases e
  exact hc)
 obtain⟨aw,cw,rfl,UC, -, -⟩:=h.ze.form;obtain⟨au,cu,rfl,cb, -, -⟩:=h.E7.form;have bq:p<w.heap.size:=oN h.pb K;have Hr:Hid (∀V,BL w V->V.heap[p]?=some (.cells #[.int .i64 x.aQ,.slice ak x.ah.length ck,.slice al x.aV.length cl,.slice ar x.aX.length cr,.slice aw W.length cw,.slice au S.length cu] 126 (0,0))):=hid (fun V hV=>(hV.block _ bq).trans bo.out);have br:=hid (fun V (hV:BL w V)=>h.keep (hV.mono K));have bs:=hid h.ze;have bt:=hid h.xk;have Zc:Hid (∀V,BL w V->aH (·<B) w V):=hid (fun V hV=>aH.bg hV (fun b C=>oN C K));have L:Hid (∀V,BL w V->aH T w V):=hid (fun V hV=>aH.below hV);have cd:dV ak x.ah.length:=ahV
 obtain⟨aa,ca,aO,aS, -, -⟩:=ha.form;rw[sM] at aO aS;subst aO;have HA:=hid ha;have HU:=hid hu;have pW:=hid D;have H5:=hid h5;have Uz:=hid aJ;have Mj:Hid (W.length=x.ah.length):=hid (by rw[D.lk,jc]);have J4:=hid aK;have HP:=hid hp;have IL:W.length<=1000000:=by rw[Mj.out];omega
 have bu:=fun V=>oQ (P:=prog) (t:=33) (e:=42) (b:=24) zK zK aD W.length IL V;have x4:=aP (Hr.out w aG) 4;simp only[List.getElem?_toArray,List.getElem?_cons_succ,List.getElem?_cons_zero] at x4;clear hu D h5 aJ bn aK hp ha h K;go_enter func32,ntmps32;go_wp2;clear bu x4;obtain⟨q,hg0⟩:=bJ w.heap.size;have Rv:Hid (cM (w.heap.size<=·) (w.alloc (.cells (gM W.length) 42)) (.slice (some ⟨q,0,none⟩) W.length W.length) (Cz.mo (aM x) W a 0)):=hid (by rw[hg0,Cz.Hx];exact ud w _ IL);rw[<-hg0];clear hg0;go_loopw [22] (fun kk wr=>∃k:Nat,k<=W.length/\kk=.int .i64 k/\Hid (cM (w.heap.size<=·) wr (.slice (some ⟨q,0,none⟩) W.length W.length) (Cz.mo (aM x) W a k))/\Hid (BL w wr)) (fun kk _=>W.length-(intOf kk).toNat);case atStart=>exact⟨0,zxa _,rfl,Rv,hid (aG.alloc aL _)⟩
 case round=>
  obtain⟨k,ce,rfl,Rv,HB⟩:=hrel;by_cases hk:k<W.length
  ·have hkx:k<x.ah.length:=by rw[<-Mj.out];exact hk
   have ch:=zN k
   have cj:=zL k W.length
   have aj5:=zL k x.ah.length
   have ap:k<a.length:=by rw[J4.out];exact hk
   have b5:=zL k a.length
   obtain⟨vk,M,Ej⟩:=HA.out.vG (j:=k) (by simpa using ap);have ek:((a.map fun o=>o.map fun(i:Nat)=>(i:Int))[k]'(by simpa using ap))=(a.getD k []).map fun(i:Nat)=>(i:Int):=by rw[Cz.bh ap];simp
   rw[ek] at M;obtain⟨cm,cn,rfl,PI, -, -⟩:=M.form;have x6:=Ej wr (L.out wr HB.out);obtain⟨no,N⟩:=bJ ((a.getD k []).length);have aT:((a.getD k []).map fun(i:Nat)=>(i:Int)).length=no:=by rw[sM,N]
   rw[aT] at x6 PI M;have xJ:=hid N;have UD:Hid (no<=1000):=hid (by rw[N,(HP.out k hk).length_eq];simp;exact H5.out k);have Pa:=hid M;obtain⟨af,cf,bv,aU⟩:=bt.out.aam hkx;have sZ:=hid aU;obtain⟨s,O⟩:=bJ (x.ah[k].aF.length);have AL:=hid O;have UF:Hid (s<=20):=hid (by rw[O];exact Uz.out _ (eV hkx));rw[<-O] at bv sZ;have cp:=UF.out;have Jd:=UD.out
   have bw:Hid (cM (w.heap.size<=·) wr (.slice (some ⟨q,0,none⟩) W.length W.length) ((Cz.mo (aM x) W a k).set k (Cz.jL (aM x) W a k 0))):=hid (by
    rw[Cz.Hy (aM x) W a hk];exact Rv.out)
   have bL:=HB;clear M Ej ek N aT aU O Rv;go_wp2;clear x6;generalize bx:wr=wq at*;clear bx HB;go_loopw [29] (fun mm wr=>∃m:Nat,m<=no/\mm=.int .i64 m/\Hid (cM (w.heap.size<=·) wr (.slice (some ⟨q,0,none⟩) W.length W.length) ((Cz.mo (aM x) W a k).set k (Cz.jL (aM x) W a k m)))/\Hid (BL w wr)) (fun mm _=>no-(intOf mm).toNat);case atStart=>exact⟨0,zxa _,rfl,bw,bL⟩
   case round=>
    obtain⟨m,hm,rfl,HO,E⟩:=hrel;by_cases zQ:m<no
    ·have cq:=zN m
     have cs:=zL m no
     have aq:m<(a.getD k []).length:=by rw[<-xJ.out];exact zQ
     have aY:m<((a.getD k []).map fun(i:Nat)=>(i:Int)).length:=by simpa using aq
     obtain⟨vm,a0,a1⟩:=Pa.out.vG aY;obtain rfl:vm=.int .i64 (((a.getD k []).map fun(i:Nat)=>(i:Int))[m]):=a0;have x7:=a1 wr (L.out wr E.out);have em:((a.getD k []).map fun(i:Nat)=>(i:Int))[m]=((a.getD k [])[m]:Int):=bH
     rw[em] at x7
     have hi:(a.getD k [])[m]<Cz.len W k:=by
      have:=(HP.out k hk).mem_iff.1 (eV aq);simpa using this
     have ax:Hid (∀j,j=(a.getD k [])[m]->(a.getD k []).getD m 0=j):=hid (fun j h=>by rw[h,Cz.bh aq]);obtain⟨i,ay⟩:=bJ ((a.getD k [])[m]);have ax:=hid (ax.out i ay);rw[<-ay] at x7 hi;clear a1 em ay;have ox:i<W[k].length:=Cy
     obtain⟨vk,M,Ej⟩:=bs.out.vG hk;obtain⟨UJ,UK,rfl,PI, -, -⟩:=M.form;obtain⟨vi,UG,a2⟩:=M.vG ox;have y1:=Ej wr (Zc.out wr E.out);have y2:=a2 wr (Zc.out wr E.out);have E5:=UG.keep (Zc.out wr E.out);rw[show W[k][i]=Cz.row W k i from by unfold Cz.row;rw[Cz.bh hk,Cz.bh ox]] at E5;obtain⟨ai,ci,rfl,bz, -, -⟩:=E5.form;have Q:(Cz.row W k i).length=s:=by rw[pW.out.r k i hk hi,dJ x hkx,dH hkx,<-AL.out]
     have Ct:Hid (∀n,(Cz.iZ (aM x) W a k i n).length=s):=hid (fun n=>by rw[Cz.rC,Q]);have DE:Hid (∀f (h:f<(Cz.iZ (aM x) W a k i f).length),f<=f->(Cz.iZ (aM x) W a k i f)[f]=Cz.cell W k i f):=hid (fun f h _=>Cz.RQ h);have GR:=hid (zU (Cz.row W k i) (by have:=UF.out;omega) _ _ wr E5);rw[Q] at y2 bz GR;have x4:=aP (Hr.out wr E.out) 4;simp only[List.getElem?_toArray,List.getElem?_cons_succ,List.getElem?_cons_zero] at x4;have ct:=zN i
     have bA:(i:Int)<(W[k].length:Int):=aD
     obtain⟨cx,a3⟩:=bJ (W[k].length);rw[<-a3] at y1 PI bA;have Ze:=hid Q;clear M Ej UG a2 E5 a3 Q;go_wp2_with fail;refine GR.out.mono ?_;rintro e w4 ⟨v4,rfl,az,aA⟩;obtain⟨ao,co,a4,a5, -, -⟩:=(bp.sl az).form;rw[Ze.out] at a4 a5;subst a4;have gX:=hid aA;have bB:Hid (bp (wr.heap.size<=·) w4 (.slice ao s co) (Cz.iZ (aM x) W a k i 0)):=hid (by rw[Cz.Hw];exact az);have a6:=aR E aA;obtain⟨k0,k1,k2,k3, -⟩:=sZ.out w4 (Zc.out w4 a6.out);have x1:=aP (Hr.out w4 a6.out) 1;simp only[List.getElem?_toArray,List.getElem?_cons_succ,List.getElem?_cons_zero] at x1;clear az aA x4 x7 y1 y2 GR;go_wp2;clear k0 k1 k2 k3 x1;generalize Nr:wr=I at*;clear Nr;go_loopw [56] (fun ff wr=>∃f:Nat,f<=s/\ff=.int .i64 f/\Hid (bp (I.heap.size<=·) wr (.slice ao s co) (Cz.iZ (aM x) W a k i f))/\Hid (BL I wr)) (fun ff _=>s-(intOf ff).toNat);case atStart=>exact⟨0,zxa _,rfl,bB,gX⟩
     case round=>
      obtain⟨f,hf,rfl,HI,cN⟩:=hrel;by_cases hft:f<s
      ·have cy:=zN f
       have cz:=zL f s
       have rG:f<x.ah[k].aF.length:=by rw[<-AL.out];exact hft
       have a7:=aR E cN.out;obtain⟨-, -, -, -,aB⟩:=sZ.out wr (Zc.out wr a7.out);rw[AL.out] at aB;obtain⟨Nj, -,f0,f1,f2,f3,f4,f5,uw,ug,f6,f7,CV,a8⟩:=dx.at aB rG;obtain⟨bE,bF,rfl, -, -, -⟩:=CV.form;obtain⟨bI,bK,rfl, -, -, -⟩:=a8.form;clear CV a8 aB;have Cg:aC.fd x k f=x.ah[k].aF[f]:=iX hkx rG
       have PE:Hid (∀gk,gk=(x.ah[k].aF[f]).kind->(gk=0->iE x k f= -1)/\(gk=1->iE x k f=aC.eD x k f/\0<=iE x k f)/\(¬gk=0->¬gk=1->iE x k f= -2)):=hid (by
        rintro gk rfl
        rw[<-Cg]
        refine⟨fun R=>?_,fun J=>?_,fun R J=>?_⟩
        ·unfold iE;rw[if_pos R]
        ·have:=HU.out k f hkx Sg J
         unfold iE;rw[if_neg aD,if_pos J];exact⟨rfl,this⟩
        ·unfold iE;rw[if_neg R,if_neg J])
       clear Cg;have tF:Hid (Cz.fk (aM x) k f=iE x k f):=hid (mg x hkx Sg);have Rl:Hid (Cz.fk (aM x) k f= -2->Cz.iZ (aM x) W a k i f=Cz.iZ (aM x) W a k i (f+1)):=hid (fun h=>Cz.Mq h);have a9:Hid (∀v,Cz.val (aM x) a k f (Cz.cell W k i f)=v->(Cz.iZ (aM x) W a k i f).set f v=Cz.iZ (aM x) W a k i (f+1)):=hid (fun v h=>Cz.Mp (by have:=Ct.out 0;rw[Cz.rC] at this;omega) h);obtain⟨g,hg⟩:=bJ (x.ah[k].aF[f]);have HG:=hid (PE.out g.kind (by rw[hg]));rw[<-hg] at f0 f1 f2 f3 f4 f5 f6 f7;clear hg PE;obtain⟨gn,go,gu,gk,gl,gh,Fw,bP⟩:=g;simp only at f0 f1 f2 f3 f4 f5 f6 f7 HG;generalize Fw.length=nw at*;generalize bP.length=ng at*;obtain⟨w5,hw⟩:=bJ (wr.alloc (.cells #[.string gn,.string go,.string gu,.int .i64 gk,.int .i64 gl,.int .i64 gh,.slice bE nw bF,.slice bI ng bK] 85));have jZ:BL wr w5:=R7
       have iH:=aR cN jZ;have PN:=aR a7 jZ;have qf:=hid (aW.keep HI.out (aH.below jZ));have cA:w5.cell? ⟨wr.heap.size,3,none⟩=some (.int .i64 gk):=Sm
       have EU:=hid hw;clear hw jZ;go_upto_region 12 with fail;rw[<-EU.out];clear f0 f1 f2 f3 f4 f5 f6 f7;by_cases R:gk=0
       ·have hml:(Cz.iZ (aM x) W a k i f).length=s:=Ct.out f
        obtain⟨g,cap,A, -, -, -,F⟩:=gU qf.out.1 (by rw[hml];omega);rw[hml] at A;obtain⟨rfl,rfl⟩:ao=some ⟨g,0,none⟩/\co=cap:=by simpa using A
        obtain⟨ba,cf⟩:=F f (by rw[sM,hml];exact hft);obtain⟨yc,cc⟩:∃y,w5.cell? ⟨g,f,none⟩=some y:=⟨_,ba⟩;have aE:=hid (qf.out.2 g rfl)
        have zO:Hid (bp (I.heap.size<=·) (w5.setCell ⟨g,f,none⟩ (.int .i64 0)) (.slice (some ⟨g,0,none⟩) s co) (Cz.iZ (aM x) W a k i (f+1))):=hid (by
         rw[<-a9.out 0 (by unfold Cz.val;rw[tF.out,HG.out.1 R,if_neg aD,if_pos rfl])]
         exact bp.put qf.out hml.symm f 0)
        have ou:Hid (BL I (w5.setCell ⟨g,f,none⟩ (.int .i64 0))):=hid (iH.out.setCell aE.out _);subst R;clear ba A F hml;exact amw
       ·by_cases J:gk=1
        ·have U:=HG.out.2.1 J
         obtain⟨U,hg0⟩:=U;have Y:=pW.out.ref k i f hk hi afp adr;rw[tF.out] at Y;obtain⟨u0,Z⟩:∃u:Nat,iE x k f=(u:Int):=⟨(iE x k f).toNat,aD⟩;have bQ:Hid (aC.eD x k f=(u0:Int)):=hid (by rw[<-U,Z]);rw[Z] at Y;simp only[zxk] at Y;obtain⟨ab,wu,Ch⟩:=Y;obtain⟨z0,ad⟩:∃z:Nat,Cz.cell W k i f=(z:Int):=⟨(Cz.cell W k i f).toNat,aD⟩;rw[ad,zxk] at Ch;have G:u0<a.length:=by rw[J4.out];exact ab
         have an:z0∈a[u0]:=by
          have:=(HP.out u0 ab).mem_iff.2 (List.mem_range.2 Ch);rwa [Cz.bh G] at this
         have I9:Hid (Cz.val (aM x) a k f (Cz.cell W k i f)=(a[u0].idxOf z0:Nat)):=hid (by
          unfold Cz.val
          rw[tF.out,Z,if_neg aD,if_neg aD,ad,zxk,zxk,Cz.bh G])
         obtain⟨vu,ae,bb⟩:=HA.out.vG (j:=u0) (by simpa using G);have eu:((a.map fun o=>o.map fun(i:Nat)=>(i:Int))[u0]'(by simpa using G))=a[u0].map fun(i:Nat)=>(i:Int):=bH
         rw[eu] at ae;obtain⟨bR,bS,rfl,bU, -, -⟩:=ae.form
         have aj:=hid (fun X (hX:BL w X)=>Uu (a[u0].map fun(i:Nat)=>(i:Int)) (by
          have:=(HP.out u0 ab).length_eq
          rw[Cz.bh G] at this
          have:=H5.out u0
          simp at*;omega) (z0:Int) _ _ X (ae.keep (L.out X hX)))
         rw[acF a[u0] z0 an] at aj;have b6:=zN u0
         have b7:=zL u0 a.length
         obtain⟨am,bc⟩:=bJ (a[u0].idxOf z0:Nat);rw[<-bc] at aj I9;have hml:(Cz.iZ (aM x) W a k i f).length=s:=Ct.out f;obtain⟨g,cap,A, -, -, -,F⟩:=gU qf.out.1 (by rw[hml];omega);rw[hml] at A;obtain⟨rfl,rfl⟩:ao=some ⟨g,0,none⟩/\co=cap:=by simpa using A
         obtain⟨cc,cf⟩:=F f (by rw[sM,hml];exact hft)
         have bd:Hid (w5.cell? ⟨g,f,none⟩=some (.int .i64 (z0:Int))):=hid (by
          rw[cc]
          simp only[zxo]
          rw[DE.out f FW aL,ad])
         have be:=hid (qf.out.1.lt g rfl).2;have aE:=hid (qf.out.2 g rfl);obtain⟨bV,bf⟩:=bJ ((a[u0].map fun(i:Nat)=>(i:Int)).length);rw[<-bf] at bb bU aj;subst J;have e0:((1:Int)==0)=false:=rfl;clear U hg0 ab wu Ch Z ad ae eu bc bf an A cc F hml;go_upto_region 16 with fail;have qo:=eC w5 ⟨p,0,none⟩ (.int .i64 x.aQ) fun d=>aP (Hr.out d.1 (bO PN.out d.2)) 0;have qp:=eC w5 ⟨p,1,none⟩ (.slice ak x.ah.length ck) fun d=>aP (Hr.out d.1 (bO PN.out d.2)) 1;have qt:=eC w5 ⟨p,2,none⟩ (.slice al x.aV.length cl) fun d=>aP (Hr.out d.1 (bO PN.out d.2)) 2;have qu:=eC w5 ⟨p,3,none⟩ (.slice ar x.aX.length cr) fun d=>aP (Hr.out d.1 (bO PN.out d.2)) 3;have bW:=eC w5 ⟨bM aa,bT aa+u0,none⟩ (.slice bR bV bS) fun d=>bb d.1 (L.out d.1 (bO PN.out d.2));have bX:=eC w5 ⟨g,f,none⟩ (.int .i64 (z0:Int)) fun d=>(d.2.cell (p:=⟨g,f,none⟩) be.out).trans bd.out;refine alR w5 18 (.quiet 0 (.quiet 1 (.quiet 2 (.quiet 3 (.quiet 4 (.quiet 5 (.quiet 6 (.quiet 7 (.quiet 8 (.quiet 9 (.quiet 13 (.quiet 14 (.quiet 15 (.quiet 16 (.one 10 (.quiet 11 (.quiet 12 (.one 17 .done)))))))))))))))))) nK zK fun w6 fH=>?_;have bi:=hid (uE x k f _ (·<B) w6 ((br.out w6 (bO PN.out fH.out)).xk));rw[bQ.out] at bi
         iterate 14 refine gF ?_
         refine aZ rfl ?_;go_wp2_with fail;refine bi.out.mono ?_;rintro e w7 ⟨rfl,C⟩;have pJ:=aR fH C;clear C;go_wp2_with fail;refine aN (BL w5) (fun _ h=>h) pJ.out ?_
         iterate 2 refine gF ?_
         refine aZ rfl ?_;have bY:=hid (aj.out w7 (bO PN.out pJ.out));go_wp2_with fail;refine bY.out.mono ?_;rintro e w' ⟨rfl,rfl⟩;go_wp2_with fail;refine aN (BL w5) (fun _ h=>h) pJ.out ?_;refine bG ?_;try simp only[jW,jH]
         clear qo qp qt qu bW bX;have uJ:=hid (aW.keep qf.out (aH.below pJ.out))
         have zO:Hid (bp (I.heap.size<=·) (w7.setCell ⟨g,f,none⟩ (.int .i64 (am:Int))) (.slice (some ⟨g,0,none⟩) s co) (Cz.iZ (aM x) W a k i (f+1))):=hid (by
          rw[<-a9.out (am:Int) I9.out]
          exact bp.put uJ.out (Ct.out f).symm f (am:Int))
         have ou:Hid (BL I (w7.setCell ⟨g,f,none⟩ (.int .i64 (am:Int)))):=hid ((bO iH.out pJ.out).setCell aE.out _);have bj:=(pJ.out.cell (p:=⟨g,f,none⟩) be.out).trans bd.out
         obtain⟨cB,cC⟩:w7.cell? ⟨g,f,none⟩=some (.int .i64 (z0:Int))/\w7.frozen? ⟨g,f,none⟩=false:=⟨bj,by
          obtain⟨g',b8,b0, -, -, -,bk⟩:=gU uJ.out.1 (by rw[Ct.out f];omega)
          cases b0
          exact(bk f (by rw[sM,Ct.out f];exact hft)).2⟩
         clear bj;try simp only[jW,jH]
         exact amw
        ·have Je:Hid (bp (I.heap.size<=·) w5 (.slice ao s co) (Cz.iZ (aM x) W a k i (f+1))):=hid (by
          rw[<-Rl.out (by rw[tF.out];exact HG.out.2.2 R J)]
          exact qf.out)
         have e0:(gk==0)=false:=tH R;have e1:(gk==1)=false:=tH J;clear R J;go_wp2;go_roundw;case rel=>exact⟨f+1,aD,zG,Je,iH⟩
         exact zI
      ·obtain rfl:f=s:=by omega
       have b1:Hid (bp (I.heap.size<=·) wr (.slice ao f co) (Cz.Ce (aM x) W a k i)):=hid (by
        have e:=Cz.Mn (aM x) W a k i
        rw[show (Cz.row W k i).length=f by have:=Ct.out 0;rwa [Cz.rC] at this] at e
        rw[<-e];exact HI.out)
       have b2:k<((Cz.mo (aM x) W a k).set k (Cz.jL (aM x) W a k m)).length:=by simp[Cz.mo];exact hk
       obtain⟨g,cD,uu,TT,e1,e2,e3,Np,aI,bl,Bm,E3, -,H⟩:=jv.borrow cW HO.out k b2
       have b3:q=g:=by
        exact Dp
       subst b3;rw[List.getElem_set_self] at Bm;obtain⟨ag,cg,rfl, -, -, -⟩:=(fE.sl Bm).form;have bm:q<I.heap.size:=kK I ⟨q,k,none⟩ aI;have cF:=(cN.out.cell (p:=⟨q,k,none⟩) bm).trans aI;have b9:wr.frozen? ⟨q,k,none⟩=false:=(World.frozen?_of_block (a:=⟨q,k,none⟩) (cN.out.block _ bm)).trans bl;have Z3:=hid Bm;have Rw:=hid (fun w2 u'=>H w2 u' (Cz.jL (aM x) W a k m++[Cz.Ce (aM x) W a k i]));have LY:=hid E3;have cH:dV (some ⟨q,0,none⟩) W.length:=fun _=>⟨_,_,rfl⟩;have mz:=cN.out
       have vX:(Cz.jL (aM x) W a k m).length+1<=1000000000:=by
        have:=UD.out;simp[Cz.jL];omega
       clear e1 e2 e3 Bm E3 H aI bl;go_wp2_with (at_builtin;go_must (refine iM aW rfl _ _ rfl Tryz.mB rfl Z3.out mz rfl (Cz.Ce (aM x) W a k i) b1.out rfl vX ?_));intro v' w9 Sc sS;have b4:=Rw.out w9 v' ((Turns.bg mz).trans (sS.mono fun b _ C=>Z3.out.1 b C.symm)) Sc;obtain⟨k1,k2,k3,k4⟩:=b4;rw[List.set_set,show Cz.jL (aM x) W a k m++[Cz.Ce (aM x) W a k i]=Cz.jL (aM x) W a k (m+1) from (by rw[Cz.En,ax.out])] at k3;have rV:Hid (cM (w.heap.size<=·) (w9.setCell ⟨q,k,none⟩ v') (.slice (some ⟨q,0,none⟩) W.length W.length) ((Cz.mo (aM x) W a k).set k (Cz.jL (aM x) W a k (m+1)))):=hid (bZ.mono k3 (fun b _ C=>eE E.out.size b C))
       have pX:Hid (BL w (w9.setCell ⟨q,k,none⟩ v')):=hid (E.out.trans (k4.below E.out.size (fun b C=>by
        rcases C with C|C
        ·exact(LY.out b C).1
        ·rw[C];exact Np)))
       obtain⟨av,lv,cv,rfl⟩:∃a l c,v'=.slice a l c:=ahU
       clear Sc sS k3 k4 Rw Z3 LY HO;go_wp2;go_roundw;case rel=>exact⟨m+1,aD,zG,rV,pX⟩
       exact zI
    ·obtain rfl:m=no:=by omega
     have QX:Hid (cM (w.heap.size<=·) wr (.slice (some ⟨q,0,none⟩) W.length W.length) (Cz.mo (aM x) W a (k+1))):=hid (by
      rw[Cz.Hz (aM x) W a hk,<-xJ.out];exact HO.out)
     go_wp2;go_roundw;case rel=>exact⟨k+1,aD,zG,QX,E⟩
     exact zI
  ·obtain rfl:k=W.length:=by omega
   have cI:¬((W.length:Int)<(a.length:Int)):=by rw[J4.out];omega
   have HE:Hid (cM (w.heap.size<=·) wr (.slice (some ⟨q,0,none⟩) W.length W.length) (Cz.bN (aM x) W a)):=hid (by rw[<-Cz.Mr];exact Rv.out);go_wp2;go_ret;exact⟨_,rfl,HE.out,HB.out⟩
theorem Cz.UQ(sort a:Cz.Row)(k:Nat)(o:List Nat){i:Nat}(b:i<sort.length):Cz.oz sort a k o (i+1)<+:Cz.l9 sort a (k+1) o:=by
 rw[<-Cz.Ho]
 have key:∀n,i+1<=n->Cz.oz sort a k o (i+1)<+:Cz.oz sort a k o n:=by
  intro n;induction n with
  |zero=>intro h;omega
  |succ n ih=>
   intro h
   by_cases e:i+1=n+1
   ·rw[e];exact List.prefix_refl _
   ·refine(ih aD).trans ?_
    unfold Cz.oz;rw[zxs,alX,List.flatMap_append];exact List.prefix_append _ _
 exact key _ aD
theorem aaz(sort d:List Int)(hw:d.length=sort.length)(hn:sort.length<=1000)(n0 nB bs yb bu bw D u l m:Nat)(an:n0<=u)(aa:n0<=m)(bv:u<m)(aC:D<m)(sv wv:Value)(F0:Nat->Prop)(ab:F0 u)(bA:Nat->Obj->Prop)(E:World->Prop)
  (w:∀X,E X->akm bs yb bu bw D u l sv wv sort d X)
  (ap:∀(F:Nat->Prop) X Y,(∀b,F0 b->F b)->E X->aY (fun b o=>(bA b o\/cD nB b o)/\¬F b) n0 X Y->E Y)
  (UR:∀X Y,E X->X.heap.size<=Y.heap.size->Below n0 X Y->(∀b,b<m->b≠u->b<X.heap.size->Y.heap[b]?=X.heap[b]?)->E Y)
  (J:(Nat->Prop)->List (Value×List Nat)->World->Prop)(hJ:∀F I pre A B,J F pre A->jg F I A B->aY (fun b _=>F b) n0 A B->J I pre B)(all:List (List Nat))
  (hY:∀F pre (x:Value×List Nat) W1,J F pre W1->(bB dr W1 x.1 (V4 x.2)/\(pre++[x]).map (·.2)<+:all)->YieldAt Fence.wide 0 prog l #[x.1] W1 fun e W'=>
   aY (fun b o=>(bA b o\/cD nB b o)/\¬F b) n0 W1 W'/\e=.returned (.bool true)/\J F (pre++[x]) W'):
  ∀(k:Nat) (o:List Nat) (ov:Value) (F:Nat->Prop) (pre:List (Value×List Nat)) (W:World),o.length+k=sort.length->(∀b,F0 b->F b)->E W->J F pre W->W.heap[u]?=some (.cells (kD sort.length o) 4 (0,0))->bp (fun b=>m<=b/\F b) W ov (V4 o)->m<=W.heap.size->pre.map (·.2)++Cz.l9 sort d k o<+:all->
   CP 122 #[ov,.pointer (some ⟨bs,0,none⟩),.pointer (some ⟨yb,0,none⟩),.pointer (some ⟨bu,0,none⟩),.pointer (some ⟨bw,0,none⟩),.pointer (some ⟨D,0,none⟩)] W (ag6 n0 m u sort.length E J F pre o ov (Cz.l9 sort d k o) W)
 |0,o,ov,F,pre,W,hok,Uo,hkp,hj,hu,hI,hN1,hpre=>by
  have ak:o.length=sort.length:=aD
  obtain⟨t,r,Q,bx, -, -⟩:=(bp.sl hI).form;have aq:ov=.slice t sort.length r:=by rw[Q];simp[V4,ak]
  subst aq;have hB:=w W hkp;obtain⟨sx,cs,ZJ, -, -, -⟩:=hB.sd.form;subst ZJ;have c1:=(one_cell hB.s).1;have c2:=(one_cell hB.y).1;obtain⟨fn,b2,assign,body,RA,hR⟩:=hY F pre (.slice t sort.length r,o) W hj ⟨bB.mono (bp.sl hI) (fun _ _ _=>trivial),by rw[zxj];exact hpre⟩;have HR:=hid hR;have HI:=hid hI;have L:=hid hu;have J2:=hid hkp;have N:=hid Uo;have aE:=hid ap;clear hpre hkp hj hR hB hY w ap UR hJ ak hI hu Q Uo;refine(callsIn_wide (n:=1)).1 ?_;refine callsIn_of_wp func122 rfl trivial ?_ rfl;simp only[ntmps122,List.size_toArray,zxg,List.length_nil,Nat.reduceAdd,Nat.reduceSub,Array.replicate_succ,Array.replicate_zero,List.push_toArray,List.append_toArray,List.nil_append,List.cons_append];gi_wp2;refine(RoundIn.jD rfl HR.out).mono ?_;rintro e G ⟨ht,rfl,aF⟩
  have HP:Hid (ag6 n0 m u sort.length E J F pre o (.slice t sort.length r) [o] W (.returned (.bool true)) G):=hid ⟨rfl,F,[(.slice t sort.length r,o)],rfl,jg.refl _ _ _,aE.out F W G N.out J2.out ht,aF,ht.2 _ _ L.out (fun h=>h.2 (N.out _ ab)),⟨wT HI.out.1 ht (fun b o f wP=>absurd (HI.out.2 b wP).2 f.2),HI.out.2⟩,ht.1,fun b f _ O _=>by
   obtain⟨ob,wV⟩:∃ob,W.heap[b]?=some ob:=⟨_,zxi O⟩;rw[wV];exact ht.2 _ _ wV (fun h=>h.2 f)⟩
  clear ht aF HR RA c1 c2;gi_wp2;go_ret;exact HP.out
 |k+1,o,ov,F,pre,W,hok,Uo,hkp,hj,hu,hI,hN1,hpre=>by
  have b3:o.length<sort.length:=aD
  have Cp:o.length<d.length:=aD
  have bz:=hid (aaz sort d hw hn n0 nB bs yb bu bw D u l m an aa bv aC sv wv F0 ab bA E w ap UR J hJ all hY k);obtain⟨t,r,Q,bx, -, -⟩:=(bp.sl hI).form;have aq:ov=.slice t o.length r:=by rw[Q];simp[V4]
  subst aq;have hB:=w W hkp;obtain⟨sx,cs,ZJ,b4, -, -⟩:=hB.sd.form;subst ZJ;obtain⟨b5,cw,RB,UC, -, -⟩:=hB.wd.form;rw[hw] at RB UC;subst RB;have c1:=(one_cell hB.s).1;have hne:((o.length:Int)==(sort.length:Int))=false:=tH aD;have b6:(0:Int)<=(o.length:Int):=aD
  have b7:(o.length:Int)<(sort.length:Int):=aD
  have aK:Hid (pre.map (·.2)++Cz.l9 sort d (k+1) o<+:all):=hid hpre;have N:=hid Uo;have HN:=hid hN1;have bD:=hid aC;have HA:Hid (E W/\J F pre W/\W.heap[u]?=some (.cells (kD sort.length o) 4 (0,0))/\bp (fun b=>m<=b/\F b) W (.slice t o.length r) (V4 o)):=hid ⟨hkp,hj,hu,hI⟩;have bE:(V4 o).length=o.length:=by simp[V4]
  clear Q hB hpre hkp hj hu hI hN1 Uo hY bE;go_enter func122,ntmps122;go_wp2;clear c1 hne
  go_loopw [20] (fun ii wr=>∃(i:Nat) (I:Nat->Prop) (H:List (Value×List Nat)),i<=sort.length/\ii=.int .i64 i/\Hid (H.map (·.2)=Cz.oz sort d k o i)/\Hid (jg F I W wr)/\Hid (E wr)/\Hid (J I (pre++H) wr)/\Hid (wr.heap[u]?=some (.cells (kD sort.length o) 4 (0,0)))/\Hid (bp (fun b=>m<=b/\F b) wr (.slice t o.length r) (V4 o))/\Hid (Below n0 W wr)/\
   Hid (∀b,F b->m<=b->b<W.heap.size->(Value.slice t o.length r).ownBlock≠some b->wr.heap[b]?=W.heap[b]?)) (fun ii _=>sort.length-(intOf ii).toNat)
  case atStart=>exact⟨0,F,[],zxa _,rfl,hid (by rw[Cz.PA];rfl),hid (jg.refl _ _ _),hid HA.out.1,hid (by rw[zxp];exact HA.out.2.1),hid HA.out.2.2.1,hid HA.out.2.2.2,hid aG,hid (fun _ _ _ _ _=>rfl)⟩
  case round=>
   obtain⟨i,I,H,b8,rfl,R,HG,HK,S,L,HI,T,K⟩:=hrel;have hB:=w wr HK.out;have c1:=(one_cell hB.s).1;have c3:=(one_cell hB.u).1;have c4:=(one_cell hB.wa).1;by_cases hi:i<sort.length
   ·have b9:=zN i
    have ca:=zL i sort.length
    have cu:wr.cell? ⟨u,i,none⟩=some (.bool (decide (i∈o))):=by
     rw[aP L.out i];simp only[kD,List.getElem?_toArray,alY,List.getElem?_range hi];rfl
    have ad:=fM L.out i;obtain⟨y1,bF, -,bI⟩:=hB.sd.at hi;obtain rfl:y1=.int .i64 sort[i]:=bI;obtain⟨y2,bJ, -,bK⟩:=hB.wd.at Cp;obtain rfl:y2=.int .i64 d[o.length]:=bK;have sZ:Hid (∀n,E (wr.drewN n)):=hid (fun n=>UR _ _ HK.out aL (aJ aG n) (fun _ _ _ _=>rfl));have ae:Hid (∀n,J I (pre++H) (wr.drewN n)):=hid (fun n=>hJ _ _ _ _ _ S.out (jg.refl _ _ _) ((aY.refl _ _ _).drewN n));have af:Hid (∀n,bp (fun b=>m<=b/\F b) (wr.drewN n) (.slice t o.length r) (V4 o)):=hid (fun n=>aW.keep HI.out (fun _ _ _=>rfl));have ag:Hid (∀n,Below n0 W (wr.drewN n)):=hid (fun n=>aJ T.out n);clear hB;by_cases Ms:i∈o
    ·have ar:Hid (H.map (·.2)=Cz.oz sort d k o (i+1)):=hid (by rw[R.out,Cz.Mg (fun h=>h.1 Ms)])
     rw[decide_eq_true Ms] at cu;clear Ms;go_wp2;go_quiet (fail);go_wp2;go_roundw;case rel=>exact⟨i+1,I,H,aD,zG,ar,hid HG.out,hid (sZ.out _),hid (ae.out _),hid L.out,hid (af.out _),hid (ag.out _),hid K.out⟩
     exact zI
    ·have aM:=hid Ms
     rw[decide_eq_false Ms] at cu;by_cases U:sort[i]=d[o.length]
     ·have aO:i∉o/\sort.getD i 0=d.getD o.length 0:=⟨Ms,by rw[Cz.bh hi,Cz.bh Cp];exact U⟩
      have aQ:=hid (Cz.Ux (n:=k) aO)
      have bL:Hid ((pre++H).map (·.2)++Cz.l9 sort d k (o++[i])<+:all):=hid (by
       refine List.IsPrefix.trans ?_ aK.out
       rw[zxj,R.out,zxm,<-aQ.out]
       exact(List.prefix_append_right_inj _).2 (Cz.UQ sort d k o hi))
      have e2:(sort[i] !=d[o.length])=false:=abA U;go_wp2;go_quiet (fail);have aR:=hid (show (wr.drewN nq).heap[u]?=some (.cells (kD sort.length o) 4 (0,0)) from L.out);have aS:=hid (sZ.out nq);have aT:=hid (ae.out nq);have aU:=hid (af.out nq);have zP:=hid (ag.out nq);have aV:Hid (∀b,F b->m<=b->b<W.heap.size->(Value.slice t o.length r).ownBlock≠some b->(wr.drewN nq).heap[b]?=W.heap[b]?):=hid K.out;have aX:Hid ((wr.drewN nq).heap.size=wr.heap.size):=hid rfl;generalize bM:wr.drewN nq=M at*;clear bM L HK S HI T K sZ ae af ag c1 c3 c4 cu ad bF bJ;have L:=aR;have HK:=aS;have S:=aT;have HI:=aU;have T:=zP;have K:=aV;clear aR aS aT aU zP aV;have a0:=w _ HK.out;have c3:=(one_cell a0.u).1;have ad:=fM L.out i;obtain⟨cb,cu⟩:∃y,M.cell? ⟨u,i,none⟩=some y:=⟨_,(aP L.out i).trans (zxi (by rw[El];exact hi))⟩;clear a0;have T1:aY (fun b _=>I b) n0 M (M.setCell ⟨u,i,none⟩ (.bool true)):=aY.setCell (aY.refl _ _ _) (p:=⟨u,i,none⟩) L.out (HG.out.1 _ (N.out _ ab)) an _
      have Nh:Hid ((M.setCell ⟨u,i,none⟩ (.bool true)).heap[u]?=some (.cells (kD sort.length (o++[i])) 4 (0,0))):=hid (by
       rw[heap_setCell_same _ _ i _ _ _ L.out,Hs o true (o++[i]) (fun j hj=>by
        by_cases e:j=i
        ·subst e;simp
        ·simp[e])])
      have a1:Hid (E (M.setCell ⟨u,i,none⟩ (.bool true))):=hid (UR _ _ HK.out bH T1.1 (fun b _ f _=>mO _ ⟨u,i,none⟩ _ _ f));have bN:Hid (J I (pre++H) (M.setCell ⟨u,i,none⟩ (.bool true))):=hid (hJ _ _ _ _ _ S.out (jg.refl _ _ _) T1);have bO:Hid (bp (fun b=>m<=b/\F b) (M.setCell ⟨u,i,none⟩ (.bool true)) (.slice t o.length r) (V4 o)):=hid (aW.keep HI.out (fun b f _=>mO _ ⟨u,i,none⟩ _ _ (fun e=>by have e1:b=u:=e;have:=f.1;omega)));have cH:Hid (Below n0 W (M.setCell ⟨u,i,none⟩ (.bool true))):=hid (T.out.trans T1.1);have vU:Hid (∀b,F b->m<=b->b<W.heap.size->(Value.slice t o.length r).ownBlock≠some b->(M.setCell ⟨u,i,none⟩ (.bool true)).heap[b]?=W.heap[b]?):=hid (fun b h1 h2 Z h4=>(mO _ ⟨u,i,none⟩ _ _ (fun e=>by have e1:b=u:=e;omega)).trans (K.out b h1 h2 Z h4));have ER:Hid ((M.setCell ⟨u,i,none⟩ (.bool true)).heap.size=M.heap.size):=hid bH;have Nb:=w _ a1.out;have BU:=hid Nb.nx;clear T1 aO;go_wp2;generalize a2:M.setCell ⟨u,i,none⟩ (.bool true)=G at*;have ah:Hid (M.heap.size<=G.heap.size):=hid (by rw[<-a2];simp);clear a2;clear c3 cu ad;have bP:∀xh:Held (fun V=>V.heap[D]?=G.heap[D]?),xh.1.cell? ⟨D,0,none⟩=some (.func (.func 122) #[] #[.pointer (some ⟨bs,0,none⟩),.pointer (some ⟨yb,0,none⟩),.pointer (some ⟨bu,0,none⟩),.pointer (some ⟨bw,0,none⟩),.pointer (some ⟨D,0,none⟩)]):=fun xh=>(one_cell (xh.2.trans BU.out)).1;refine bq 5 (.quiet 0 (.quiet 1 (.quiet 2 (.one 3 (.one 4 .done))))) (fun V=>V.heap[D]?=G.heap[D]?) nK zK rfl ?_;have z:=hid (aJ (Below.refl G.heap.size G) 1);have bQ:Hid ((G.drewN 1).heap=G.heap):=hid rfl;generalize G.drewN 1=w6 at*
      iterate 3 refine gF ?_
      refine aZ rfl ?_;go_wp2_with fail;refine aN (fun V=>V.heap[D]?=G.heap[D]?) (fun _ h=>h) ((z.out.alloc z.out.size _).block _ (aI BU.out)) ?_;refine aZ rfl ?_;have vX:(V4 o).length+1<=1000000000:=by simp[V4];omega
      have Mt:=hid (aW.keep bO.out (aH.below z.out));go_wp2_with (at_builtin;go_must (refine FP rfl _ _ rfl Tryz.jG rfl Mt.out rfl vX ?_));intro v' w3 Ca C al am;have au:m<=w6.heap.size:=zxb HN.out (zxb T.out.size (zxb ah.out z.out.size));have a3:w3.heap[D]?=G.heap[D]?:=(C.block _ (fun e=>by have:=(Mt.out.2 _ e.symm).1;have:=bD.out;omega) (oN (aI BU.out) z.out.size)).trans (z.out.block _ (aI BU.out));obtain⟨F3,ai⟩:∃F3:Nat->Prop,F3=fun b=>I b\/(w6.heap.size<=b/\b<w3.heap.size):=⟨_,rfl⟩;have vV:Hid (jg I F3 G w3):=hid (by rw[ai];exact⟨fun b h=>.inl h,fun b h=>h.imp id (fun h=>⟨zxb z.out.size h.1,h.2⟩)⟩)
      have bR:Hid (bp (fun b=>m<=b/\F3 b) w3 v' (V4 (o++[i]))):=hid (by
       refine⟨by simpa [V4] using Ca.1,fun b f=>?_⟩
       have O:=(Ca.1.lt b f).2
       rw[ai]
       rcases Ca.2 b f with h|h
       ·have:=Mt.out.2 b h
        exact⟨this.1,.inl (HG.out.1 b this.2)⟩
       ·exact⟨zxb au h,.inr ⟨h,O⟩⟩)
      have Iy:Hid (aY (fun b _=>I b) n0 G w3):=hid ((aY.bg z.out (zxb aa (zxb HN.out (zxb T.out.size ah.out)))).trans (aY.eX C (zxb aa au) (fun b f=>zxb aa (Mt.out.2 b f.symm).1) (fun b _ f _=>HG.out.1 b (Mt.out.2 b f.symm).2)));have bS:Hid (J F3 (pre++H) w3):=hid (hJ _ _ _ _ _ bN.out vV.out Iy.out);have a4:Hid (E w3):=hid (UR _ _ a1.out Iy.out.1.size Iy.out.1 (fun b f cc O=>(C.block _ (fun e=>by have:=(Mt.out.2 _ e.symm).1;omega) (oN O z.out.size)).trans (z.out.block _ O)));have bT:Hid (w3.heap[u]?=some (.cells (kD sort.length (o++[i])) 4 (0,0))):=hid ((C.block _ (fun e=>by have:=(Mt.out.2 _ e.symm).1;omega) (oN (aI Nh.out) z.out.size)).trans ((z.out.block _ (aI Nh.out)).trans Nh.out));have UU:Hid (bp (fun b=>m<=b/\F b) w3 (.slice t o.length r) (V4 o)):=hid al;have cN:Hid (Below n0 W w3):=hid (cH.out.trans Iy.out.1);have a5:Hid (∀b,F b->m<=b->b<W.heap.size->(Value.slice t o.length r).ownBlock≠some b->w3.heap[b]?=W.heap[b]?):=hid (fun b h1 h2 Z h4=>(C.block _ (fun e=>h4 e.symm) (oN Z (zxb (by rw[ER.out];exact T.out.size) z.out.size))).trans ((z.out.block _ (oN Z (by rw[ER.out];exact T.out.size))).trans (vU.out b h1 h2 Z h4)));have a6:=hid am;have bU:Hid (m<=w3.heap.size):=hid (zxb au (by have:=C.size;exact this));have a7:=hid (bz.out (o++[i]) v' F3 (pre++H) w3 jo (fun b f=>vV.out.1 b (HG.out.1 b (N.out b f))) a4.out bS.out bT.out bR.out bU.out bL.out);have EY:Hid (M.heap.size<=w6.heap.size):=hid (zxb ah.out z.out.size);have a8:Hid (w6.heap.size<=w3.heap.size):=hid C.size
      have aj:Hid (jg F F3 W w3):=hid ⟨fun b f=>vV.out.1 b (HG.out.1 b f),fun b f=>by
       rw[ai] at f;rcases f with h|h
       ·exact(HG.out.2 b h).imp id (fun q=>⟨q.1,oN q.2 (zxb (by rw[<-aX.out];exact aL) (zxb EY.out a8.out))⟩)
       ·exact .inr ⟨zxb (zxb T.out.size EY.out) h.1,h.2⟩⟩
      obtain⟨a9,n9,c9,rfl⟩:∃a n c,v'=.slice a n c:=by obtain⟨a,c,e,_⟩:=(bp.sl Ca).form;exact⟨_,_,_,e⟩
      have ba:=hid Ca.2;have bb:Hid (W.heap.size<=w6.heap.size):=hid (zxb T.out.size (zxb ah.out z.out.size));clear bP Ca C al am ai Mt z bQ;refine aN (fun V=>V.heap[D]?=G.heap[D]?) (fun _ h=>h) a3 ?_;refine bG ?_;try simp only[jW,jH]
      clear a3;go_wp2_with fail;refine a7.out.mono ?_;rintro e P ⟨rfl,F4,av,bc,aw,ax,bd,ay,be,az,aA⟩
      have DM:=hid (show jg F F4 W (P.setCell ⟨u,i,none⟩ (.bool false)) from ⟨fun b f=>aw.1 b (aj.out.1 b f),fun b f=>by
       have hz:(P.setCell ⟨u,i,none⟩ (.bool false)).heap.size=P.heap.size:=bH
       rw[hz];rcases aw.2 b f with h|h
       ·exact(aj.out.2 b h).imp id (fun q=>⟨q.1,oN q.2 az.size⟩)
       ·exact .inr ⟨zxb cN.out.size h.1,h.2⟩⟩)
      have bV:Hid (bp (fun b=>m<=b/\F b) P (.slice t o.length r) (V4 o)):=hid (by
       refine⟨?_,UU.out.2⟩
       rcases UU.out.1.2 with h0|⟨g,cap,bW,hv,h1,h2,Z,h4,h5,h6⟩
       ·exact⟨UU.out.1.1,.inl h0⟩
       ·obtain⟨rfl,cd,rfl⟩:t=some ⟨g,0,none⟩/\o.length=(V4 o).length/\r=cap:=by simpa using hv
        have bf:=UU.out.2 g rfl;by_cases e:(Value.slice a9 n9 c9).ownBlock=some g
        ·obtain⟨a',k',⟨ea, -,ek⟩,e2⟩:=a6.out e
         subst ea;subst ek;rcases be.1.2 with h0|⟨g',bi,bj,bX,j1,j2,j3,j4,j5,j6⟩
         ·exact absurd (e2.symm.trans h0.1) bH
         ·have bk:=e2.symm.trans bX
          have bY:g=g':=by have:=congrArg Value.ownBlock bk;simpa [Value.ownBlock] using this
          have bZ:r=bi:=congrArg (fun v=>match v with| .slice _ _ c=>c|_=>0) bk;subst bY;subst bZ;refine⟨UU.out.1.1,.inr ⟨g,r,bj,hv,h1,j2,Z,h4,j5,?_⟩⟩;have j7:=congrArg (List.take (V4 o).length) j6;rw[List.take_take] at j7;have e3:min (V4 o).length ((V4 (o++[i])).length*1)=(V4 o).length:=by simp[V4]
          rw[e3] at j7;rw[Nat.mul_one,j7];simp[V4]
        ·have:=aA g (aj.out.1 g bf.2) bf.1 (aI h2) e
         exact⟨UU.out.1.1,.inr ⟨g,r,bW,hv,h1,this.trans h2,Z,h4,h5,h6⟩⟩)
      have aB:=hid ay;have bl:=hid ax;have T5:aY (fun b _=>F4 b) n0 P (P.setCell ⟨u,i,none⟩ (.bool false)):=aY.setCell (aY.refl _ _ _) (p:=⟨u,i,none⟩) ay (DM.out.1 _ (N.out _ ab)) an _;have bm:Hid (E (P.setCell ⟨u,i,none⟩ (.bool false))):=hid (UR _ _ ax bH T5.1 (fun b _ f _=>mO _ ⟨u,i,none⟩ _ _ f))
      have b0:Hid (J F4 (pre++(H++av)) (P.setCell ⟨u,i,none⟩ (.bool false))):=hid (by
       rw[<-zxm]
       exact hJ _ _ _ _ _ bd (jg.refl _ _ _) T5)
      have bo:Hid ((H++av).map (·.2)=Cz.oz sort d k o (i+1)):=hid (by rw[zxj,R.out,bc,aQ.out])
      have b1:Hid ((P.setCell ⟨u,i,none⟩ (.bool false)).heap[u]?=some (.cells (kD sort.length o) 4 (0,0))):=hid (by
       rw[heap_setCell_same _ _ i _ _ _ aB.out,Hs (o++[i]) false o (fun j hj=>by
        by_cases e:j=i
        ·subst e;simpa using aM.out
        ·simp[e])])
      have qf:Hid (bp (fun b=>m<=b/\F b) (P.setCell ⟨u,i,none⟩ (.bool false)) (.slice t o.length r) (V4 o)):=hid (aW.keep bV.out (fun b f _=>mO _ ⟨u,i,none⟩ _ _ (fun e=>by have e1:b=u:=e;have:=f.1;omega)));have iH:Hid (Below n0 W (P.setCell ⟨u,i,none⟩ (.bool false))):=hid ((cN.out.trans az).trans T5.1)
      have br:Hid (∀b,F b->m<=b->b<W.heap.size->(Value.slice t o.length r).ownBlock≠some b->(P.setCell ⟨u,i,none⟩ (.bool false)).heap[b]?=W.heap[b]?):=hid (fun b h1 h2 Z h4=>by
       refine(mO _ ⟨u,i,none⟩ _ _ (fun e=>by have e1:b=u:=e;omega)).trans ((aA b (aj.out.1 b h1) h2 (oN Z cN.out.size) ?_).trans (a5.out b h1 h2 Z h4));intro e;rcases ba.out b e with h|h
       ·exact h4 h
       ·have:=bb.out
        omega)
      have bt:=w _ bl.out;have c3:=(one_cell bt.u).1;have cu:=aP aB.out i;have ad:=fM aB.out i;clear bc aw ax bd ay be az aA T5 bt;obtain⟨yu,ce⟩:∃y,P.cell? ⟨u,i,none⟩=some y:=⟨_,cu.trans (zxi (by rw[El];exact hi))⟩;clear cu;go_wp2;go_roundw;case rel=>exact⟨i+1,F4,H++av,aD,zG,bo,DM,bm,b0,b1,qf,iH,br⟩
      exact zI
     ·have e2:(sort[i] !=d[o.length])=true:=Ny U
      have ar:Hid (H.map (·.2)=Cz.oz sort d k o (i+1)):=hid (by rw[R.out,Cz.Mg (fun h=>U (by have:=h.2;rwa [Cz.bh hi,Cz.bh Cp] at this))]);generalize sort[i]=z1 at*;generalize d[o.length]=z2 at*;clear U Ms;go_wp2;go_quiet (fail);go_wp2;go_roundw;case rel=>exact⟨i+1,I,H,aD,zG,ar,hid HG.out,hid (sZ.out _),hid (ae.out _),hid L.out,hid (af.out _),hid (ag.out _),hid K.out⟩
      exact zI
   ·obtain rfl:i=sort.length:=by omega
    have HP:Hid (ag6 n0 m u sort.length E J F pre o (.slice t o.length r) (Cz.l9 sort d (k+1) o) W (.returned (.bool true)) wr):=hid ⟨rfl,I,H,by rw[R.out,Cz.Ho],HG.out,HK.out,S.out,L.out,HI.out,T.out,K.out⟩;clear hB c3 c4;go_wp2;go_ret;exact HP.out
theorem PO(a:Option Addr)(n c:Nat)(w:World):CP 69 #[.slice a n c] w fun e b=>e=.returned (.func (.func 121) #[] #[.pointer (some ⟨w.heap.size,0,none⟩)])/\b=w.alloc (.cells #[.slice a n c] 22):=by
 go_enter func69,ntmps69;exact Ez
theorem UW(n:Nat):(List.replicate n (Value.bool false)).toArray=kD n []:=by
 unfold kD;congr 1;refine alW bH fun j a b=>?_;simp
theorem PS(w:World)(o a:Obj){b:Nat}(h:b<w.heap.size):((w.alloc o).alloc a).heap[b]?=w.heap[b]?:=
 (Below.heap_alloc _ _ _ jo).trans (Below.heap_alloc _ _ _ h)
def OrdG(sort:List Int)(pre:List (Value×List Nat))(x:Value×List Nat)(W:World):Prop:=bB dr W x.1 (V4 x.2)/\(pre++[x]).map (·.2)<+:Cz.orders sort
theorem Mu(sort:List Int)(hn:sort.length<=1000)(n0 nB f:Nat)(sv:Value)(bA:Nat->Obj->Prop)(w:World)(E:n0<=w.heap.size)(hs:bB (·<n0) w sv sort)(p:w.heap[f]?=some (.cells #[sv] 22 (0,0)))
  (JZ:∀o,¬bA f o):
  GZ (α:=Value×List Nat) prog n0 nB 121 #[.pointer (some ⟨f,0,none⟩)] (fun x=> #[x.1]) (OrdG sort) bA (fun xs _=>xs.map (·.2)=Cz.orders sort) w:=by
 intro l J W T hJ hY h0;have i:=(T.block _ (aI p)).trans p;have r:bB (·<n0) W sv sort:=hs.keep (aH.below T);have G:n0<=W.heap.size:=zxb E T.size;obtain⟨sx,cs,rfl,ao, -, -⟩:=r.form;have c1:=(one_cell i).1;have aa:f<W.heap.size:=aI i;have HJ:=hid hJ;have HY:=hid hY;have H0:=hid h0;have H:=hid i;have HS:=hid r;have ab:=hid JZ;have U:=hid G;have ad:=fun V=>Di (P:=prog) (t:=121) (e:=4) (b:=1) zK zK aD sort.length aD V;clear hJ hY h0 T E hs p JZ i r G;refine(callsIn_wide (n:=1)).1 ?_;refine callsIn_of_wp func121 rfl trivial ?_ rfl;simp only[ntmps121,List.size_toArray,zxg,List.length_nil,Nat.reduceAdd,Nat.reduceSub,Array.replicate_succ,Array.replicate_zero,List.push_toArray,List.append_toArray,List.nil_append,List.cons_append];rw[wpIn_wide];obtain⟨w3,d⟩:=bJ (((W.alloc (.cells #[.func (.yield l) #[] #[]] 197)).alloc (.cells (Array.replicate sort.length (Value.bool false)) 4)).alloc (.cells #[.slice (some ⟨W.heap.size+1,0,none⟩) sort.length sort.length] 121));have vW:w3.heap.size=W.heap.size+3:=by rw[d];simp
 have s:BL W w3:=by rw[d];exact((aG.alloc aL _).alloc bH _).alloc jo _
 have I:w3.heap[W.heap.size]?=some (.cells #[.func (.yield l) #[] #[]] 197 (0,0)):=by rw[d];exact cC _ (cC _ (bD _ _ rfl))
 have K:w3.heap[W.heap.size+1]?=some (.cells (kD sort.length []) 4 (0,0)):=by rw[d,<-UW,List.toArray_replicate];exact cC _ (bD _ _ bH)
 have L:w3.heap[W.heap.size+1+1]?=some (.cells #[.slice (some ⟨W.heap.size+1,0,none⟩) sort.length sort.length] 121 (0,0)):=by rw[d];exact bD _ _ bH
 have j:=hid (And.intro s (And.intro vW (And.intro I (And.intro K L))));have ae:=hid d;have af:=(one_cell ((s.block _ (aI H.out)).trans H.out)).1;clear s vW I K L d;go_upto_region 2 with fail;rw[<-ae.out];clear c1 aa ad;go_wp2_with fail;refine(D6 _ _ _ _).mono ?_;rintro e w4 ⟨rfl,u⟩;have v:BL w3 w4:=by rw[u];exact aG.alloc aL _
 have Bj:=hid (D9 sort aD w3.heap.size _ w4 (bB.mono (S':=(·<w4.heap.size)) (HS.out.keep (aH.below (j.out.1.trans (v.mono j.out.1.size)))) (fun b M _=>M)) (by rw[u];exact bD _ _ rfl));have Z:=hid v;clear u v af;go_wp2_with fail;refine Bj.out.mono ?_;rintro e w5 ⟨wv,rfl,Nl,jZ⟩;have iH:=hid (j.out.1.trans ((bO Z.out jZ).mono j.out.1.size));have qf:=hid Nl;have ag:Hid (W.heap.size+3<=w4.heap.size):=hid (by have:=j.out.2.1;have:=Z.out.size;omega);have N:=aR Z jZ;have O:=hid jZ.size;obtain⟨aw,nw,cw,rfl⟩:∃a n c,wv=.slice a n c:=by obtain⟨a,c,e,_⟩:=(bp.sl Nl).form;exact⟨_,_,_,e⟩
 clear Nl jZ Bj;obtain⟨w6,C⟩:=bJ ((w5.alloc (.cells #[.slice aw nw cw] 22)).alloc (.cells #[.func (.func 122) #[] #[.pointer (some ⟨f,0,none⟩),.pointer (some ⟨W.heap.size,0,none⟩),.pointer (some ⟨W.heap.size+1+1,0,none⟩),.pointer (some ⟨w5.heap.size,0,none⟩),.pointer (some ⟨w5.heap.size+1,0,none⟩)]] 197));have EY:=hid C;have oH:BL w5 w6:=by rw[C];exact(aG.alloc aL _).alloc bH _
 have y:w6.heap.size=w5.heap.size+2:=by rw[C];simp
 have Q:w6.heap[w5.heap.size]?=some (.cells #[.slice aw nw cw] 22 (0,0)):=by rw[C];exact cC _ (bD _ _ rfl)
 have z:w6.heap[w5.heap.size+1]?=some (.cells #[.func (.func 122) #[] #[.pointer (some ⟨f,0,none⟩),.pointer (some ⟨W.heap.size,0,none⟩),.pointer (some ⟨W.heap.size+1+1,0,none⟩),.pointer (some ⟨w5.heap.size,0,none⟩),.pointer (some ⟨w5.heap.size+1,0,none⟩)]] 197 (0,0)):=by rw[C];exact bD _ _ bH
 have mA:=aR iH oH;have ah:=hid y;have H6:=hid (And.intro Q z);have BW:=hid (fun(b:Nat) (o:Obj) (h:w3.heap[b]?=some o)=>((oH.block _ (oN (aI h) N.out.size)).trans ((N.out.block _ (aI h)).trans h):w6.heap[b]?=some o));have ai:=(one_cell z).1;clear C oH y Q z;go_upto_region 5 with fail;rw[<-EY.out];have aj:n0<=w6.heap.size:=zxb U.out mA.out.size;have R:(Cz.eU Cz.dB sort).length=sort.length:=(Cz.fZ (c:=Cz.dB)).length_eq;have A:w6.heap[f]?=some (.cells #[.slice sx sort.length cs] 22 (0,0)):=(mA.out.block _ (aI H.out)).trans H.out;have k:w6.heap[W.heap.size+1]?=some (.cells (kD sort.length []) 4 (0,0)):=BW.out _ _ j.out.2.2.2.1
 have g:∀X,((∀b,b<w6.heap.size->b≠W.heap.size+1->b<n0\/b=f\/W.heap.size<=b->X.heap[b]?=w6.heap[b]?)/\Below n0 w6 X)->akm f W.heap.size (W.heap.size+1+1) w5.heap.size (w5.heap.size+1) (W.heap.size+1) l (.slice sx sort.length cs) (.slice aw nw cw) sort (Cz.eU Cz.dB sort) X:=by
  rintro X ⟨D,ak⟩;have am:=aI H.out;have ap:=ag.out;have an:=O.out;have y:=ah.out
  refine⟨(D f aD aD (.inr (.inl rfl))).trans A,(D _ aD aD (.inr (.inr aL))).trans (BW.out _ _ j.out.2.2.1),(D _ aD aD (.inr (.inr aD))).trans (BW.out _ _ j.out.2.2.2.2),
   (D _ aD aD (.inr (.inr aD))).trans H6.out.1,(D _ aD aD (.inr (.inr aD))).trans H6.out.2,?_,?_⟩
  ·exact bB.mono (HS.out.keep (aH.bg ((mA.out.mono U.out).trans ak) (fun _ h=>h))) (fun _ _ _=>trivial)
  ·refine bB.mono (bp.sl (aW.keep qf.out (w':=X) (fun b M al=>?_))) (fun _ _ _=>trivial)
   have h9:w3.heap.size<=b:=by have:=Z.out.size;have h8:w4.heap.size<=b:=M;omega
   have vW:=j.out.2.1;rw[D b aD aD (.inr (.inr aD)),EY.out];exact PS _ _ _ al
 have HC:=hid (aaz sort (Cz.eU Cz.dB sort) R hn n0 nB f W.heap.size (W.heap.size+1+1) w5.heap.size (w5.heap.size+1) (W.heap.size+1) l w6.heap.size (by have:=U.out;omega) aj (aI k) (aI H6.out.2) (.slice sx sort.length cs) (.slice aw nw cw)
  (fun b=>W.heap.size<=b/\b<w6.heap.size) ⟨aD,aI k⟩ bA
  (fun X=>(∀b,b<w6.heap.size->b≠W.heap.size+1->b<n0\/b=f\/W.heap.size<=b->X.heap[b]?=w6.heap[b]?)/\Below n0 w6 X) g
  (fun F X Y hF ⟨h1,h2⟩ ht=>⟨fun b B g2 m=>by
   have hx:=h1 b B g2 m;rcases m with m|rfl|m
   ·rw[ht.1.block b m,hx]
   ·rw[A] at hx ⊢
    exact ht.2 _ _ hx (fun q=>q.1.elim (ab.out _) (fun q=>by simp[cD,book] at q))
   ·rw[<-hx]
    have wV:X.heap[b]?=some w6.heap[b]:=by rw[hx];exact zxi B
    rw[wV];exact ht.2 _ _ wV (fun q=>q.2 (hF b ⟨m,B⟩)),h2.trans ht.1⟩)
  (fun X Y ⟨h1,h2⟩ hsz M hk=>⟨fun b B g2 m=>by
   have hx:=h1 b B g2 m;have wV:X.heap[b]?=some w6.heap[b]:=by rw[hx];exact zxi B
   rw[hk b B g2 (aI wV),hx],h2.trans M⟩)
  J HJ.out (Cz.orders sort) HY.out sort.length [] (.slice none 0 0) (fun b=>W.heap.size<=b/\b<w6.heap.size) [] w6 bH (fun _ h=>h)
  ⟨fun _ _ _ _=>rfl,aG⟩
  (HJ.out _ _ _ _ _ H0.out ⟨fun _ h=>h.elim,fun b h=>.inr h⟩ (aY.bg mA.out U.out)) k (bp.nil _ _) aL (List.prefix_refl _))
 clear g A k R;go_wp2_with fail;refine HC.out.mono ?_;rintro e w9 ⟨rfl,F',ys,S, -, -,hj, -⟩;have HE:=hid (And.intro S hj);clear S hj ai;go_wp2;go_end0;exact⟨⟨_,rfl⟩,F',ys,HE.out.1,HE.out.2⟩
theorem eA.Bu{α:Type}{R:World->Value->α->Prop}{S:Nat->Prop}{W W':World}{v:Value}{xs:List α}(h:eA R S W v xs)(i:∀b c t f,S b->W.heap[b]?=some (.cells c t f)->W'.heap[b]?=some (.cells c t f))(k:∀u x,R W u x->R W' u x):eA R S W' v xs:=by
 obtain⟨a,cap,rfl,l,m,n,g,o⟩:=h;refine⟨a,cap,rfl,l,m,n,g,fun j p=>?_⟩;obtain⟨u,d,q⟩:=o j p;refine⟨u,?_,k _ _ q⟩;unfold World.cell? at d ⊢;split at d
 ·rename_i e
  rw[i _ _ _ _ (g aD) e];exact d
 ·cases d
theorem bB.Bu{S:Nat->Prop}{W W':World}{v:Value}{xs:List Int}(h:bB S W v xs)(d:∀b c t a,S b->W.heap[b]?=some (.cells c t a)->W'.heap[b]?=some (.cells c t a)):bB S W' v xs:=eA.Bu h d fun _ _ h=>h
theorem cG.Bu{S:Nat->Prop}{W W':World}{v:Value}{xs:List (List Int)}(h:cG S W v xs)(a:∀b c t d,S b->W.heap[b]?=some (.cells c t d)->W'.heap[b]?=some (.cells c t d)):cG S W' v xs:=eA.Bu h a fun _ _ h=>bB.Bu h a
theorem Bv(a:Option Addr)(n c:Nat)(k:Int)(p:Nat)(w:World):CP 31 #[.pointer (some ⟨p,0,none⟩),.int .i64 k,.slice a n c] w fun e b=>
  e=.returned (.func (.func 68) #[] #[.pointer (some ⟨w.heap.size+1,0,none⟩),.pointer (some ⟨w.heap.size,0,none⟩),.pointer (some ⟨w.heap.size+1+1,0,none⟩)])/\b=((w.alloc (.cells #[.pointer (some ⟨p,0,none⟩)] 74)).alloc (.cells #[.int .i64 k] 3)).alloc (.cells #[.slice a n c] 42):=by
 go_enter func31,ntmps31;exact Ez
def gQ(a:List (List Nat)):List (List Int):=a.map V4
def akC(L:List (List (List Nat)))(pre:List (Value×List (List Nat)))(x:Value×List (List Nat))(W:World):Prop:=cG dr W x.1 (gQ x.2)/\(pre++[x]).map (·.2)<+:L
theorem acT{T:List Cz.Row}{r:Cz.Row}{before:List (List Nat)}{pre:List (Value×List Nat)}{x:Value×List Nat}{a:List (List (List Nat))}(h1:(pre++[x]).map (·.2)<+:Cz.orders r)(h2:a<+:Cz.lK T (before++[x.2])):
  (pre.flatMap fun o=>Cz.lK T (before++[o.2]))++a<+:Cz.lK (r::T) before:=by
 obtain⟨b,c⟩:=h1;obtain⟨d,e⟩:=h2;refine⟨d++b.flatMap fun o=>Cz.lK T (before++[o]),?_⟩;rw[show Cz.lK (r::T) before=(Cz.orders r).flatMap (fun o=>Cz.lK T (before++[o])) from rfl,<-c];simp only[zxj,List.flatMap_append,zxt,List.map_nil,alZ,List.flatMap_nil,zxp,zxm,List.flatMap_map];rw[<-e];simp[zxm]
structure Eo(S:List Cz.Row)(k:Nat)(before:List (List Nat))(n0 bk bS bb p:Nat)(uv bv:Value)(PB:Nat->Prop)(w:World):Prop where
 st:∃(a b c d e:Value),w.heap[p]?=some (.cells #[a,b,c,d,e,uv] 126 (0,0))
 E7:cG (·<n0) w uv S
 pb:p<n0
 k:w.heap[bk]?=some (.cells #[.int .i64 (k:Int)] 3 (0,0))
 s:w.heap[bS]?=some (.cells #[.pointer (some ⟨p,0,none⟩)] 74 (0,0))
 b:w.heap[bb]?=some (.cells #[bv] 42 (0,0))
 bf:cG (fun b=>b<n0\/PB b) w bv (gQ before)
 P:PB bk/\PB bS/\PB bb
theorem Eo.keep{S:List Cz.Row}{k:Nat}{before:List (List Nat)}{n0 j l m p:Nat}{n o:Value}{PB:Nat->Prop}{w w':World}(h:Eo S k before n0 j l m p n o PB w)(g:∀b,b<n0\/PB b->b<w.heap.size->w'.heap[b]?=w.heap[b]?):Eo S k before n0 j l m p n o PB w' where
 st:=by
  obtain⟨a,b,c,d,e,q⟩:=h.st;exact⟨a,b,c,d,e,(g _ (.inl h.pb) (aI q)).trans q⟩
 E7:=h.E7.keep (fun b i f=>g b (.inl i) f)
 pb:=h.pb
 k:=(g _ (.inr h.P.1) (aI h.k)).trans h.k
 s:=(g _ (.inr h.P.2.1) (aI h.s)).trans h.s
 b:=(g _ (.inr h.P.2.2) (aI h.b)).trans h.b
 bf:=h.bf.keep (fun b i f=>g b i f)
 P:=h.P
theorem Eo.next{S:List Cz.Row}{k:Nat}{before:List (List Nat)}{n0 c d e p:Nat}{f g:Value}{PB:Nat->Prop}{w w':World}(h:Eo S k before n0 c d e p f g PB w)(i:BL w w'):Eo S k before n0 c d e p f g PB w':=h.keep fun b _ a=>i.block b a
theorem Bw{P:Program}{n:Nat}{b:Func}{a:Array Value}{w:World}{R:Ending->World->Prop}{v:Value}{D:Nat}(c:w.heap[D]?=some (.deferred (some [])))(h1:(results b a).run P (w.putObj D (.deferred none))=.ok v (w.putObj D (.deferred none)))
  (h2:R (.returned v) (w.putObj D (.deferred none))):LeavesInM Fence.wide n P b a R [{target:=.collected D,args:=#[]}] .returning w:=
 ⟨bH,.inl ⟨D,_,rfl,run_takeDeferred c,⟨_,h1,h2⟩⟩⟩
theorem all_zero(S:List Cz.Row)(before:List (List Nat))(n0 M C D j p:Nat)(N O:Value)(PB:Nat->Prop)(P:Nat->Obj->Prop)(w:World)(m:n0<=w.heap.size)(hA:Eo S S.length before n0 C D j p N O PB w):
  GZ (α:=Value×List (List Nat)) prog n0 M 68 #[.pointer (some ⟨C,0,none⟩),.pointer (some ⟨D,0,none⟩),.pointer (some ⟨j,0,none⟩)] (fun x=> #[x.1]) (akC (Cz.lK [] before)) P (fun Q _=>Q.map (·.2)=Cz.lK [] before) w:=by
 intro l J W o q E F;have r:n0<=W.heap.size:=zxb m o.size;obtain⟨w0,a⟩:=bJ (W.alloc (.cells #[.func (.yield l) #[] #[]] 134));have d:BL W w0:=by rw[a];exact aG.alloc aL _
 have c:w0.heap[W.heap.size]?=some (.cells #[.func (.yield l) #[] #[]] 134 (0,0)):=by rw[a];exact bD _ _ rfl
 have f:=hid ((hA.next o).next d);obtain⟨au,cu,rfl,R, -, -⟩:=f.out.E7.form;obtain⟨t,u,rfl,T, -, -⟩:=f.out.bf.form;obtain⟨z0,z1,z2,z3,z4,G⟩:=f.out.st;obtain⟨-, -, -, -, -,U⟩:=JB G;have c1:=(one_cell f.out.k).1;have c2:=(one_cell f.out.s).1;have c3:=(one_cell f.out.b).1;have c4:=(one_cell c).1;have v:=hid a;have V:=hid c;have y:J (fun b=>b=W.heap.size) [] w0:=q _ _ _ _ _ F ⟨fun _ h=>h.elim,fun b h=>.inr ⟨aD,by rw[h];exact aI c⟩⟩ (aY.bg d r);have z:=hid (fun n=>q _ _ _ _ _ y (jg.refl _ _ _) ((aY.refl (fun b _=>b=W.heap.size) n0 w0).drewN n));have X:=hid E;clear q E F hA a d c G o;refine(callsIn_wide (n:=1)).1 ?_;refine callsIn_of_wp func68 rfl trivial ?_ rfl;simp only[ntmps68,List.size_toArray,zxg,List.length_nil,Nat.reduceAdd,Nat.reduceSub,Array.replicate_succ,Array.replicate_zero,List.push_toArray,List.append_toArray,List.nil_append,List.cons_append];gi_wp2;rw[<-v.out,wpIn_wide];go_quiet (fail);obtain⟨fn,H,assign,body,Y,I⟩:=YieldAt.jD (m':=0) rfl (X.out _ [] (.slice t (gQ before).length u,before) (w0.drewN nq) (z.out nq) ⟨cG.mono (f.out.bf.keep (fun _ _ _=>rfl)) (fun _ _ _=>trivial),List.prefix_refl _⟩);have K:=hid I;generalize g:w0.drewN nq=L at*;have A:L.cell? ⟨j,0,none⟩=some (.slice t (gQ before).length u):=by rw[<-g];exact c3
 have B:L.cell? ⟨W.heap.size,0,none⟩=some (.func (.yield l) #[] #[]):=by rw[<-g];exact c4
 clear I g c1 c2 c3 c4 U;gi_wp2;refine(RoundIn.jD rfl K.out).mono ?_;rintro e W2 ⟨-,rfl,i⟩;have Z:=hid i;clear i K Y A B;gi_wp2;refine bodyPost_ret (results_none rfl _ _ _) rfl ?_;exact⟨⟨_,rfl⟩,_,[(.slice t (gQ before).length u,before)],rfl,Z.out⟩
theorem JE{P:Program}{t:TypeId}{bytes:Nat}{w:World}{i:Array Oper}{rest:List Oper}{o:Oper}{a:Act}{Q:Exit->Act->World->Prop}(q:o.guard=none)(s x:Operand)
  (D:o.op=.call {callee:=.builtin .append,args:=#[s,x],argTypes:=#[t,t]})(n:kF P t 22 1 bytes)
  {B:Nat}{E:Nat->Prop}{v:Value}{xs:List Cz.Row}(F:a.eval s=v)(k:jM B E w v xs)
  {u:Value}{r:TypeId}(hx:a.eval x=.slice (some ⟨w.heap.size,0,none⟩) 1 1)(y:Cz.Row)(G:bB (fun b=>E b/\v.ownBlock≠some b) w u y)(h1:u.oneCell'=true)
  (d:xs.length+1<=1000000000)(hB:B<=w.heap.size)
  (h:∀l f,jM B E f l (xs++[y])->Turns (fun b=>v.ownBlock=some b) w f->wpList P i Q rest (a.put o.dst l) f):
  wpList P i Q (o::rest) a (w.alloc (.cells #[u] r)):=by
 obtain⟨p,H,A,I⟩:=k;have C:BL w (w.alloc (.cells #[u] r)):=aG.alloc aL _;refine amL q s x D n F (H.alloc _) _ 1 1 hx (fun _=>⟨_,_,rfl⟩) [u] rfl (iR w #[u] r) Wz d jo (fun l f g1 J m=>?_);have c:=Turns.gy (S:=fun b=>v.ownBlock=some b) J fun b z=>z;have n:Turns (fun b=>v.ownBlock=some b) w f:=(Turns.bg C).trans ⟨c.os,c.tape,c.output,c.size,c.block⟩;refine h l f ⟨p++[u],WU,by simp[A],fun j K R=>?_⟩ n
 have keep:∀{u y},bB (fun b=>E b/\v.ownBlock≠some b) w u y->bB (fun b=>E b/\l.ownBlock≠some b) f u y:=fun h=>by
  have:=bB.mono (S':=fun b=>(E b/\v.ownBlock≠some b)/\b<w.heap.size) h (fun b g L=>⟨L,g⟩);refine bB.mono (bB.keep this (n.keep (fun b g=>g.1.2))) (fun b _ g=>⟨g.1.1,?_⟩);rcases m with m|m
  ·rw[m];exact g.1.2
  ·rw[m];intro e
   have T:=oO e;have U:=g.2;have M:=C.size;omega
 by_cases e:j<p.length
 ·rw[Xi e,Xi aD]
  exact keep (I j e aD)
 ·have N:j=p.length:=by simp at K;omega
  subst N;simp only[zAr aL,Nat.sub_self,List.getElem_cons_zero]
  have O:(xs++[y])[p.length]=y:=by
   rw[zAr aD];simp[A]
  rw[O];exact keep G
end Go.Proofs.YtohddpbgflgiaaaGreatDoor
