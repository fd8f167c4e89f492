/- Part 3 of the walks and plain laws that the proof needs (packed). -/
import Derived.Test.YtohddpbgflgiaaaGreatDoorRows
import Derived.WalkKit
import Derived.WalkSpells
import Derived.WalkLawsBesides
import Derived.BigQuiet
import Derived.Deep.QuietTactic
import Derived.StillTail
import Derived.RangeFuncNested
import Derived.RangeFuncBound
import Derived.RangeFuncCalls
import Derived.RangeFuncLeaves
import Derived.OwnWalkIn
import Derived.TacticsInMore
import Derived.LoopNIn
import Derived.LoopIn
import Derived.Test.YtohddpbgflgiaaaGreatDoorQ1
set_option linter.all false
set_option maxRecDepth 100000
set_option maxHeartbeats 8000000
open Go.Proofs.Tryz
variable{p:Prop}
namespace Go.Proofs.YtohddpbgflgiaaaGreatDoor
open Go.RowKit
theorem hid{p:Prop}(h:p):Hid p:=h
theorem zK{p:Prop}(h:p:=by kernel_rfl):p:=h
theorem zG{p:Prop}(h:p:=by go_num):p:=h
theorem zI{p:Prop}(h:p:=by simp[intOf];omega):p:=h
theorem zN(k:Nat):(0:Int)<=(k:Int):=Int.natCast_nonneg k
theorem zL(a b:Nat)(h:a<b:=by omega):(a:Int)<(b:Int):=aD
abbrev BL(w x:World):Prop:=Below w.heap.size w x
theorem bJ{A:Sort _}(e:A):∃n,n=e:=⟨_,rfl⟩
theorem bO{w v x:World}(h:Below w.heap.size w v)(g:Below v.heap.size v x):Below w.heap.size w x:=h.trans (g.mono h.size)
theorem nK:prog.follows .mixedOrders=true:=by kernel_rfl
abbrev CP(f:FuncId)(a:Array Value)(X:World)(R:Ending->World->Prop):Prop:=Calls prog f a X R
abbrev CB(f:FuncId)(a:Array Value)(X:World)(v:Value):Prop:=Calls prog f a X fun e b=>e=.returned v/\Below X.heap.size X b
theorem aG{N:Nat}{w:World}:Below N w w:=Below.refl N w
theorem aL{n:Nat}:n<=n:=Nat.le_refl n
theorem aR{w v x:World}(h:Hid (BL w v))(g:BL v x):Hid (BL w x):=hid (bO h.out g)
theorem abA{a b:Int}(h:a=b):(a !=b)=false:=Fa
theorem Ny{a b:Int}(h:a≠b):(a !=b)=true:=Fa
theorem abB{a b:Int}(h:a=b):(a==b)=true:=Fa
theorem tH{a b:Int}(h:a≠b):(a==b)=false:=Fa
def bM(a:Option Addr):Nat:=(a.getD ⟨0,0,none⟩).block
def bT(a:Option Addr):Nat:=(a.getD ⟨0,0,none⟩).off
@[simp,go_sem] theorem fK (b o:Nat) (s:Option Nat):bM (some ⟨b,o,s⟩)=b:=rfl
@[simp,go_sem] theorem fL (b o:Nat) (s:Option Nat):bT (some ⟨b,o,s⟩)=o:=rfl
def dV(a:Option Addr)(n:Nat):Prop:=0<n->∃b o,a=some ⟨b,o,none⟩
@[go_sem] theorem VR {P:Program} (w:World) (t:TypeId) (a:Option Addr) (len cap:Nat) (k:IntKind) (i:Int)
  (h:P.underlying t=some (.slice (P.elem t)))(hok:dV a len)(h0:0<=i)(h1:i<len):
  (Instr.indexAt t (.slice a len cap) (.int k i)).run P w=
   ((sizeOf (P.elem t)).run P w).andThen fun s w=>.ok (.pointer (some ⟨bM a,bT a+i.toNat*s,none⟩)) w:=by
 obtain⟨b,o,rfl⟩:=hok aD;rw[run_indexAt_slice w t _ len cap k i h,if_pos ⟨h0,h1⟩];simp[Addr.add_lit]
def aH(S:Nat->Prop)(w w':World):Prop:=∀b,S b->b<w.heap.size->w'.heap[b]?=w.heap[b]?
theorem aH.bg{S:Nat->Prop}{w w':World}{B:Nat}(h:Below B w w')(a:∀b,S b->b<B):aH S w w':=fun b c _=>h.block b (a b c)
theorem aH.below{S:Nat->Prop}{w w':World}(h:BL w w'):aH S w w':=fun b _ a=>h.block b a
theorem aH.gy{S:Nat->Prop}{w w':World}{row:Option Nat}(h:w.grownBy w' row)(c:∀b,S b->some b≠row):aH S w w':=fun b d a=>h.block b a (c b d)
def eA{α:Type}(R:World->Value->α->Prop)(S:Nat->Prop)(w:World)(v:Value)(xs:List α):Prop:=
 ∃a cap,v=.slice a xs.length cap/\dV a xs.length/\xs.length<=cap/\cap<=maxLen/\(0<xs.length->S (bM a))/\
  ∀j (h:j<xs.length),∃u,w.cell? ⟨bM a,bT a+j,none⟩=some u/\R w u xs[j]
theorem eA.keep{α:Type}{R:World->Value->α->Prop}{S:Nat->Prop}{w w':World}{v:Value}{xs:List α}
  (h:eA R S w v xs)(d:aH S w w')(e:∀u x,R w u x->R w' u x):eA R S w' v xs:=by
 obtain⟨a,cap,rfl,f,g,i,b,k⟩:=h;refine⟨a,cap,rfl,f,g,i,b,fun j l=>?_⟩;obtain⟨u,c,m⟩:=k j l;refine⟨u,?_,e _ _ m⟩;rw[World.cell?_of_block (w:=w) (a:=⟨bM a,bT a+j,none⟩) (d _ (b aD) (World.block_lt_of_cell? w ⟨bM a,bT a+j,none⟩ c))];exact c
theorem eA.mono{α:Type}{R R':World->Value->α->Prop}{S S':Nat->Prop}{w:World}{v:Value}{xs:List α}
  (h:eA R S w v xs)(f:∀b,b<w.heap.size->S b->S' b)(g:∀u x,R w u x->R' w u x):eA R' S' w v xs:=by
 obtain⟨a,cap,rfl,i,k,l,m,d⟩:=h;refine⟨a,cap,rfl,i,k,l,fun e=>?_,fun j n=>?_⟩
 ·obtain⟨u,c,_⟩:=d 0 e
  exact f _ (World.block_lt_of_cell? w ⟨bM a,bT a+0,none⟩ c) (m e)
 ·obtain⟨u,c,o⟩:=d j n
  exact⟨u,c,g _ _ o⟩
theorem eA.nil{α:Type}(R:World->Value->α->Prop)(S:Nat->Prop)(w:World):eA R S w (.slice none 0 0) []:=
 ⟨none,0,rfl,fun h=>absurd h bH,aL,Nat.zero_le _,fun h=>absurd h bH,fun j h=>absurd h bH⟩
abbrev bB(S:Nat->Prop):=eA (fun _ u (x:Int)=>u=.int .i64 x) S
abbrev cG(S:Nat->Prop):=eA (bB S) S
abbrev bK(S:Nat->Prop):=eA (cG S) S
abbrev dr:Nat->Prop:=fun _=>True
theorem bB.keep{S w w' v xs}(h:bB S w v xs)(a:aH S w w'):bB S w' v xs:=eA.keep h a fun _ _ h=>h
theorem cG.keep{S w w' v xs}(h:cG S w v xs)(a:aH S w w'):cG S w' v xs:=eA.keep h a fun _ _ h=>bB.keep h a
theorem bK.keep{S w w' v xs}(h:bK S w v xs)(a:aH S w w'):bK S w' v xs:=eA.keep h a fun _ _ h=>cG.keep h a
theorem bB.mono{S S' w v xs}(h:bB S w v xs)(a:∀b,b<w.heap.size->S b->S' b):bB S' w v xs:=eA.mono h a fun _ _ h=>h
theorem cG.mono{S S' w v xs}(h:cG S w v xs)(a:∀b,b<w.heap.size->S b->S' b):cG S' w v xs:=eA.mono h a fun _ _ h=>bB.mono h a
theorem bK.mono{S S' w v xs}(h:bK S w v xs)(a:∀b,b<w.heap.size->S b->S' b):bK S' w v xs:=eA.mono h a fun _ _ h=>cG.mono h a
def around(n a:Int):Int:=if a<1 then 0 else (if n<0 then -(n+1) else n) % a
theorem Nz{n a:Int}(c:1<=a)(b:n<0): -((n+1).tmod a)=around n a:=by
 unfold around;rw[if_neg aD,if_pos b,<-Int.neg_tmod,Int.tmod_eq_emod_of_nonneg aD]
theorem NA{n a:Int}(b:1<=a)(c:0<=n):n % a=around n a:=by
 unfold around;rw[if_neg aD,if_neg aD]
theorem uV(n a:Int)(b:1<=a):0<=around n a/\around n a<a:=by
 unfold around;rw[if_neg aD];exact⟨Int.emod_nonneg _ aD,Int.emod_lt_of_pos _ aD⟩
theorem iL{k:IntKind}{a b:Int}(h:a=b):Ending.returned (.int k a)=.returned (.int k b):=by rw[h]
theorem gL{a b:Bool}(h:a=b):Ending.returned (.bool a)=.returned (.bool b):=by rw[h]
theorem oU(n a:Int)(w:World)(h1: -9223372036854775808<=n)(h2:n<=9223372036854775807)(b:1<=a)(f:a<=100000000):
  Calls prog 22 #[.int .i64 n,.int .i64 a] w fun e c=>e=.returned (.int .i64 (around n a))/\w=c:=by
 by_cases d:n<0
 ·go_enter func22,ntmps22
  go_wp2;go_ret;exact⟨iL (Nz b d),rfl⟩
 ·go_enter func22,ntmps22
  go_wp2;go_ret;exact⟨iL (NA b aD),rfl⟩
def atI(l:List Int)(i:Nat)(a:Int):Int:=if i<l.length then around (l.getD i 0) a else 0
theorem NC(l:List Int)(i:Nat)(a:Int)(b:1<=a):0<=atI l i a/\atI l i a<a:=by
 unfold atI;split
 ·exact uV _ _ b
 ·omega
def Fit(l:List Int):Prop:=∀x∈l, -9223372036854775808<=x/\x<=9223372036854775807
theorem Ez(h:p:=by
  go_wp2
  go_ret
  exact⟨rfl,rfl⟩):p:=h
theorem Xc(l:List Int)(j:Fit l)(v:Value)(i:Int)(b:Int)(S:Nat->Prop)(w:World)(k:bB S w v l)(r:1<=b)(s:b<=100000000)(t:0<=i):
  Calls prog 12 #[v,.int .i64 i,.int .i64 b] w fun e f=>e=.returned (.int .i64 (atI l i.toNat b))/\w=f:=by
 obtain⟨a,cap,rfl,m,g,h,y,c⟩:=k;by_cases o:i<l.length
 ·obtain⟨u,p,rfl⟩:=c i.toNat aD
  have q:=j _ (List.getElem_mem (l:=l) (n:=i.toNat) aD);have d:around l[i.toNat] b=atI l i.toNat b:=by unfold atI;rw[if_pos aD,List.getD_eq_getElem?_getD,List.getElem?_eq_getElem aD];rfl
  obtain⟨x,hx⟩:=bJ (l[i.toNat]);rw[<-hx] at d p q;rw[<-d];clear d hx c;generalize l.length=n at*;go_enter func12,ntmps12;go_wp2_with (go_at_call 22;refine(oU _ _ _ aD aD aD aD).mono ?_;rintro e f ⟨rfl,rfl⟩);go_ret;exact⟨rfl,rfl⟩
 ·have d:atI l i.toNat b=0:=by unfold atI;rw[if_neg aD]
  rw[d];clear d c;generalize l.length=n at*;go_enter func12,ntmps12;exact Ez
theorem Kk{xs ys:List Int}{k:Nat}(a:xs.length=ys.length)(b:k=xs.length)(h:xs.take k=ys.take k):xs=ys:=by
 have c:xs.take xs.length=xs:=List.take_length;have d:ys.take ys.length=ys:=List.take_length;rw[b] at h;rw[<-c,h,a,d]
theorem Im{xs ys:List Int}{k:Nat}(hx:k<xs.length)(a:k<ys.length)(h:xs.take k=ys.take k)(e:xs[k]=ys[k]):xs.take (k+1)=ys.take (k+1):=by
 rw[List.take_succ_eq_append_getElem hx,List.take_succ_eq_append_getElem a,h,e]
theorem Xh(h:p:=by
  go_wp2
  go_quiet (fail)
  go_wp2
  go_ret
  exact⟨gL (decide_eq_false HN.out).symm,by rw[World.drewN_drewN];exact⟨_,rfl⟩⟩):p:=h
theorem aew(h:p:=by
  go_wp2
  go_ret
  exact⟨gL (decide_eq_true (Kk HL.out aD hpre.out)).symm,_,rfl⟩):p:=h
theorem rJ(xs ys:List Int)(u v:Value)(S T:Nat->Prop)(w:World)(B:bB S w u xs)(C:bB T w v ys):
  Calls prog 15 #[u,v] w fun e D=>e=.returned (.bool (decide (xs=ys)))/\∃n,D=w.drewN n:=by
 obtain⟨a,cap,rfl,E,r,d,F,b⟩:=B;obtain⟨M,s,rfl,N,O,G,o,H⟩:=C;clear F o;unfold maxLen at d G;by_cases m:xs.length=ys.length
 ·have p:((xs.length:Int) !=(ys.length:Int))=false:=by simp[m]
  have I:xs.length<=ys.length:=aD
  have HL:=hid m;clear m;go_enter func15,ntmps15;go_wp2;go_loopw [5] (fun i wr=>∃k:Nat,k<=xs.length/\i=.int .i64 k/\Hid (xs.take k=ys.take k)/\∃n,wr=w.drewN n) (fun i _=>xs.length-(intOf i).toNat);case atStart=>exact⟨0,Nat.zero_le _,rfl,hid rfl,0,rfl⟩
  case round=>
   obtain⟨k,P,rfl,hpre,n,rfl⟩:=hrel;by_cases f:k<xs.length
   ·obtain⟨x,hx,g⟩:=b k f
    obtain⟨y,Q,h⟩:=H k aD;obtain⟨t,j⟩:=bJ (xs[k]);obtain⟨z,l⟩:=bJ (ys[k]);rw[<-j] at g;rw[<-l] at h;subst g;subst h;have J:(0:Int)<=(k:Int):=aD
    have K:(k:Int)<(xs.length:Int):=aD
    have L:(k:Int)<(ys.length:Int):=aD
    have HX:=hid j;have A:=hid l;by_cases c:t=z
    ·subst c
     go_wp2;go_quiet (fail);go_wp2;go_roundw;case rel=>exact⟨k+1,aD,by go_num,hid (Im f aD hpre.out (HX.out.symm.trans A.out)),_,rfl⟩
     simp[intOf];omega
    ·have R:(t !=z)=true:=by simpa using c
     have q:xs≠ys:=by
      intro e;subst e;exact c (HX.out.trans A.out.symm)
     have HN:=hid q;exact Xh
   ·exact aew
 ·have p:((xs.length:Int) !=(ys.length:Int))=true:=by simpa using (by omega:(xs.length:Int)≠ys.length)
  rw[decide_eq_false (fun e=>m ah4)];go_enter func15,ntmps15;go_wp2;go_ret;exact⟨rfl,0,rfl⟩
def kF(P:Program)(t e:TypeId)(size bytes:Nat):Prop:=
 P.underlying t=some (.slice e)/\P.underlying t≠none/\∃i z,P.info? e=some i/\i.zero=some z/\i.size=size/\i.bytes=bytes/\z.cells.size=size/\0<size/\bytes<=1000
theorem jV{P:Program}{t e:TypeId}{z:Value}{size bytes:Nat}(h:P.underlying t=some (.slice e))
  (a:(P.info? e).map (fun i=>(i.zero,i.size,i.bytes))=some (some z,size,bytes))(b:z.cells.size=size)(h0:0<size)(c:bytes<=1000):kF P t e size bytes:=by
 obtain⟨i,d,f,g,j⟩:=info_parts a;exact⟨h,by rw[h];simp,i,z,d,f,g,j,b,h0,c⟩
section
variable {P:Program} {w:World} {t e:TypeId} {size bytes:Nat}
theorem Io(j:TypeId)(k:kF P t e size bytes){base:Nat}{v:Value}{n:Nat}{xs:List Value}(a:w.ownsRow base e size v n xs)(b:Option Addr)(c:Nat):
  (Builtin.append_ #[t,t] j #[v,.slice b 0 c]).run P w=.ok v w:=by
 obtain⟨d,_,i,z,l,p,q,r,s,u,_⟩:=k;have f:(sizeOf e).run P w=.ok i.size w:=by simp[sizeOf,typeInfo,l]
 have h:(Builtin.firstCells i.size 0 (.slice b 0 c)).run P w=.ok #[] w:=by
  cases b<;>simp[Builtin.firstCells,loadCells,loadCellsFrom]
 rcases a.2 with⟨rfl,rfl⟩|⟨g,cap,m,rfl,_,_,o,_⟩
 ·simp[Builtin.append_,run_underlying d,f,Builtin.lenOf,h]
 ·simp[Builtin.append_,run_underlying d,f,Builtin.lenOf,h,o,storeCells]
theorem Ip(A:TypeId)(R:kF P t e size bytes){base:Nat}{v:Value}{n:Nat}{xs:List Value}(a:w.ownsRow base e size v n xs)
  (B:Option Addr)(m c:Nat)(H:dV B m)(news:List Value)(p:news.length=m*size)
  (q:∀j u,news[j]?=some u->w.cell? ⟨bM B,bT B+j,none⟩=some u)(h1:∀u∈news,u.oneCell'=true)
  (l:n+m<=1000000000)(r:base<=w.heap.size):
  ∃F I,(Builtin.append_ #[t,t] A #[v,.slice B m c]).run P w=.ok F I/\I.ownsRow base e size F (n+m) (xs++news)/\w.grownBy I v.ownBlock/\
   (F.ownBlock=v.ownBlock\/F.ownBlock=some w.heap.size):=by
 rcases Nat.eq_zero_or_pos m with rfl|S
 ·obtain rfl:news=[]:=List.eq_nil_of_length_eq_zero (by simpa using p)
  exact⟨v,w,Io A R a B c,by simpa using a,⟨rfl,rfl,rfl,aL,fun _ _ _=>rfl⟩,.inl rfl⟩
 obtain⟨G,o,rfl⟩:=H S
 have b:∀j u,news[j]?=some u->w.cell? ((⟨G,o,none⟩:Addr).add j)=some u:=fun j u V=>by
  rw[Addr.add_lit];exact q j u V
 obtain⟨J,_,i,z,K,T,W,X,Y,g6,Z⟩:=R;subst W;subst X;have C:(n+m)*i.bytes<=140737488355328:=by have:=Nat.mul_le_mul l Z;omega
 have L:n+m<=maxLen:=Wy
 have f:(xs++news).length=(n+m)*i.size:=by rw[List.length_append,a.1,p,Nat.add_mul]
 have grown:∀(old:Nat),old<n+m->∀(row:Option Nat),
   (w.drew.alloc (.cells (xs.toArray++news.toArray++Builtin.zeroCells z.cells (grownCap w (n+m) old e-(n+m))) e)).ownsRow base e i.size
    (.slice (some ⟨w.heap.size,0,none⟩) (n+m) (grownCap w (n+m) old e)) (n+m) (xs++news)/\
   w.grownBy (w.drew.alloc (.cells (xs.toArray++news.toArray++Builtin.zeroCells z.cells (grownCap w (n+m) old e-(n+m))) e)) row:=by
  intro old _ row;have M:=grownCap_ge w (n+m) old e;have s:grownCap w (n+m) old e<=maxLen:=grownCap_le_maxLen w (n+m) old e L;refine⟨⟨f,.inr ⟨w.heap.size,_,_,rfl,r,heap_alloc_new w.drew _,M,s,?_,?_⟩⟩,⟨rfl,rfl,rfl,bH,fun k N _=>Below.heap_alloc w.drew _ k N⟩⟩
  ·have e1:n*i.size+m*i.size=(n+m)*i.size:=(Nat.add_mul _ _ _).symm
   have e2:(n+m)*i.size+(grownCap w (n+m) old e-(n+m))*i.size=grownCap w (n+m) old e*i.size:=by rw[<-Nat.add_mul];congr 1;omega
   simp only[Array.size_append,List.size_toArray,size_zeroCells,Y,a.1,p,e1,e2]
  ·simp only[Array.toList_append,List.append_assoc]
   rw[<-List.append_assoc,<-f];exact List.take_left
 rcases a.2 with⟨rfl,rfl⟩|⟨g,cap,x,rfl,O,U,aa,s,Q,y⟩
 ·have hx:xs=[]:=List.eq_nil_of_length_eq_zero (by simpa using a.1)
  subst hx;have D:=run_append_nil (P:=P) w t A e i z J K T ⟨G,o,none⟩ m c news p b S aD (by rw[Nat.zero_add] at C;omega);have h:=grown 0 aD (Value.ownBlock (.slice none 0 0));simp only[Nat.zero_add,List.nil_append] at h ⊢;refine⟨_,_,D,?_,?_,.inr rfl⟩
  ·simpa using h.1
  ·simpa using h.2
 ·by_cases d:n+m<=cap
  ·have E:n*i.size+news.length<=x.size:=by rw[p,Q,<-Nat.add_mul];exact Nat.mul_le_mul_right _ d
   have D:=run_append_room (P:=P) w t A e i J K g n cap x U ⟨G,o,none⟩ m c news p b h1 d E;refine⟨_,_,D,⟨f,.inr ⟨g,cap,_,rfl,O,setRow_heap w g x _ e _ U,d,s,?_,?_⟩⟩,⟨rfl,rfl,rfl,bH,fun k _ N=>setRow_other w g k _ (fun e=>N (by simp[Value.ownBlock,e]))⟩,.inl rfl⟩
   ·simp only[List.size_toArray,List.length_append,List.length_take,List.length_drop,Array.length_toList]
    omega
   ·rw[y,<-f]
    exact List.take_left
  ·have holds:∀j u,xs[j]?=some u->w.cell? ((⟨g,0,none⟩:Addr).add j)=some u:=a.cells (g:=g) rfl
   have D:=run_append_grow (P:=P) w t A e i z J K T ⟨g,0,none⟩ n cap xs a.1 holds ⟨G,o,none⟩ m c news p b aD aD (growslice_fits aD C);have h:=grown cap aD (Value.ownBlock (.slice (some ⟨g,0,none⟩) n cap));exact⟨_,_,D,h.1,h.2,.inr rfl⟩
theorem amL{i:Array Oper}{rest:List Oper}{o:Oper}{a:Act}{Q:Exit->Act->World->Prop}(q:o.guard=none)(s x:Operand)
  (y:o.op=.call {callee:=.builtin .append,args:=#[s,x],argTypes:=#[t,t]})(z:kF P t e size bytes)
  {base:Nat}{v:Value}{n:Nat}{xs:List Value}(A:a.eval s=v)(k:w.ownsRow base e size v n xs)
  (l:Option Addr)(m c:Nat)(hx:a.eval x=.slice l m c)(r:dV l m)(news:List Value)(B:news.length=m*size)
  (d:∀j u,news[j]?=some u->w.cell? ⟨bM l,bT l+j,none⟩=some u)(h1:∀u∈news,u.oneCell'=true)
  (b:n+m<=1000000000)(f:base<=w.heap.size)
  (h:∀g p,p.ownsRow base e size g (n+m) (xs++news)->w.grownBy p v.ownBlock->(g.ownBlock=v.ownBlock\/g.ownBlock=some w.heap.size)->wpList P i Q rest (a.put o.dst g) p):
  wpList P i Q (o::rest) a w:=by
 obtain⟨g,p,C,D,E,F⟩:=Ip o.type z k l m c r news B d h1 b f;refine wpList_plain q fun K G=>?_;unfold Oper.wp;simp[execOp,y,resolve,invoke,builtin,A,hx,C,Result.andThen];exact G _ _ (h g p D E F)
end
theorem iR(w:World)(cs:Array Value)(t:TypeId):∀j u,cs.toList[j]?=some u->(w.alloc (.cells cs t)).cell? ⟨w.heap.size,0+j,none⟩=some u:=by
 intro j u a;rw[Nat.zero_add,World.cell?_alloc_new];simpa using a
structure fA{α:Type}(RR:(Nat->Prop)->World->Value->α->Prop):Prop where
 keep:∀{S w w' u x},RR S w u x->aH S w w'->RR S w' u x
 mono:∀{S S':Nat->Prop} {w u x},RR S w u x->(∀b,b<w.heap.size->S b->S' b)->RR S' w u x
theorem jN:fA (fun _ _ u (x:Int)=>u=.int .i64 x):=⟨fun h _=>h,fun h _=>h⟩
theorem dP:fA (α:=List Int) (fun S=>bB S):=⟨fun h k=>h.keep k,fun h k=>h.mono k⟩
theorem amO:fA (α:=List (List (List Int))) (fun S=>bK S):=⟨fun h k=>h.keep k,fun h k=>h.mono k⟩
def fG{α:Type}(c:(Nat->Prop)->World->Value->α->Prop)(B:Nat)(e:TypeId)(w:World)(v:Value)(xs:List α):Prop:=
 ∃a,w.ownsRow B e 1 v xs.length a/\a.length=xs.length/\∀j (d:j<a.length) (f:j<xs.length),c (fun b=>B<=b/\some b≠v.ownBlock) w a[j] xs[j]
theorem fG.nil{α:Type}(a:(Nat->Prop)->World->Value->α->Prop)(B:Nat)(e:TypeId)(w:World):fG a B e w (.slice none 0 0) []:=
 ⟨[],World.ownsRow_nil _ _ _ _,rfl,fun j h=>absurd h bH⟩
theorem ZA(h:p:=by
  rw[fK,fL,Nat.zero_add,cell_of_row w g j cur e (0,0) hg]
  have h3:us[j]?=some (us[j]' aD):=List.getElem?_eq_getElem aD
  rw[<-h3,<-ht,List.getElem?_take,if_pos aD]
  simp):p:=h
theorem fG.sl{α:Type}{a:(Nat->Prop)->World->Value->α->Prop}(c:fA a){B:Nat}{e:TypeId}{w:World}{v:Value}{xs:List α}(h:fG a B e w v xs):
  eA (a (B<=·)) (B<=·) w v xs:=by
 obtain⟨us,⟨d,f⟩,p,i⟩:=h;simp only[Nat.mul_one] at d;rcases f with⟨rfl,k⟩|⟨g,cap,cur,rfl,l,hg,q,m,n,ht⟩
 ·obtain rfl:xs=[]:=List.eq_nil_of_length_eq_zero k
  exact eA.nil _ _ w
 ·simp only[Nat.mul_one] at n ht
  refine⟨some ⟨g,0,none⟩,cap,rfl,fun _=>⟨g,0,rfl⟩,aD,m,fun _=>l,fun j o=>?_⟩;refine⟨us[j]' aD,?_,c.mono (i j aD o) (fun b _ h=>h.1)⟩;exact ZA
theorem fG.kept{α:Type}{c:(Nat->Prop)->World->Value->α->Prop}(m:fA c){B:Nat}{e:TypeId}{w w':World}{v:Value}{xs:List α}(h:fG c B e w v xs)
  (k:aH (B<=·) w w'):fG c B e w' v xs:=by
 obtain⟨n,⟨o,d⟩,p,q⟩:=h;refine⟨n,⟨o,?_⟩,p,fun j s t=>m.keep (q j s t) (fun b a f=>k b a.1 f)⟩;rcases d with d|⟨g,cap,i,u,a,l,r⟩
 ·exact .inl d
 ·exact .inr ⟨g,cap,i,u,a,by rw[k g a (Array.getElem?_eq_some_iff.1 l).1];exact l,r⟩
theorem fG.below{α:Type}{a:(Nat->Prop)->World->Value->α->Prop}(b:fA a){B:Nat}{e:TypeId}{w w':World}{v:Value}{xs:List α}(h:fG a B e w v xs)
  (c:BL w w'):fG a B e w' v xs:=h.kept b (aH.below c)
theorem fG.fresh{α:Type}{a:(Nat->Prop)->World->Value->α->Prop}{B:Nat}{e:TypeId}{w:World}{v:Value}{xs:List α}(h:fG a B e w v xs)(hB:B<=w.heap.size):
  ∀b,w.heap.size<=b->B<=b/\some b≠v.ownBlock:=by
 intro b d;obtain⟨f,c,_⟩:=h;refine⟨aD,fun e=>?_⟩;have:=(c.lt b e.symm).2;omega
theorem fG.app{α:Type}{c:(Nat->Prop)->World->Value->α->Prop}(k:fA c){B:Nat}{e:TypeId}{w w0 w':World}{v d:Value}{xs:List α}{us:List Value}{x:α}{u:Value}
  (n:us.length=xs.length)(q:∀j (i:j<us.length) (l:j<xs.length),c (fun b=>B<=b/\some b≠v.ownBlock) w us[j] xs[j])
  (r:c (fun b=>B<=b/\some b≠v.ownBlock) w u x)(o:BL w w0)
  (f:w'.ownsRow B e 1 d (xs.length+1) (us++[u]))(s:w0.grownBy w' v.ownBlock)(g:d.ownBlock=v.ownBlock\/d.ownBlock=some w0.heap.size):fG c B e w' d (xs++[x]):=by
 have key:∀{u x},c (fun b=>B<=b/\some b≠v.ownBlock) w u x->c (fun b=>B<=b/\some b≠d.ownBlock) w' u x:=by
  intro u x h;have hsz:=o.size;have i:=k.mono (S':=fun b=>(B<=b/\some b≠v.ownBlock)/\b<w.heap.size) h (fun b m a=>⟨a,m⟩);have l:=k.keep (w':=w') i (fun b a _=>(s.block b aD a.1.2).trans (o.block b a.2));refine k.mono l (fun b _ a=>⟨a.1.1,?_⟩);rcases g with g|g
  ·rw[g];exact a.1.2
  ·rw[g];intro t;have:=Option.some.inj t;omega
 refine⟨us++[u],by simpa using f,by simp[n],fun j i l=>?_⟩;by_cases p:j<us.length
 ·rw[List.getElem_append_left p,List.getElem_append_left aD]
  exact key (q j p aD)
 ·simp at i
  obtain rfl:j=us.length:=aD
  simp only[List.getElem_append_right aL,Nat.sub_self,List.getElem_cons_zero];rw[List.getElem_append_right aD];simp[n];exact key r
theorem jO{P:Program}{t e:TypeId}{bytes:Nat}{α:Type}{i:(Nat->Prop)->World->Value->α->Prop}(D:fA i){w:World}{f:Array Oper}{rest:List Oper}{o:Oper}{a:Act}{Q:Exit->Act->World->Prop}(m:o.guard=none)(s x:Operand)
  (E:o.op=.call {callee:=.builtin .append,args:=#[s,x],argTypes:=#[t,t]})(F:kF P t e 1 bytes)
  {base:Nat}{v:Value}{xs:List α}(G:a.eval s=v)(g:fG i base e w v xs)
  {u:Value}{n:TypeId}(hx:a.eval x=.slice (some ⟨w.heap.size,0,none⟩) 1 1)(y:α)(H:i (fun b=>base<=b/\some b≠v.ownBlock) w u y)(h1:u.oneCell'=true)
  (c:xs.length+1<=1000000000)(p:base<=w.heap.size){j:Nat}{w0:World}(I:Below j w0 w)(hB:j<=base)
  (h:∀l d,fG i base e d l (xs++[y])->Below j w0 d->(∀S:Nat->Prop,(∀b,S b->some b≠v.ownBlock)->aH S w d)->wpList P f Q rest (a.put o.dst l) d):
  wpList P f Q (o::rest) a (w.alloc (.cells #[u] n)):=by
 obtain⟨R,B,J,K⟩:=g;refine amL m s x E F G (B.alloc _) _ 1 1 hx (fun _=>⟨_,_,rfl⟩) [u] rfl (iR w #[u] n) Wz c jo (fun l d L q M=>?_);have C:BL w (w.alloc (.cells #[u] n)):=aG.alloc aL _;refine h l d (fG.app D J K H C L q M) ?_ (fun S N b r z=>?_)
 ·have A:j<=w.heap.size:=by omega
  exact(I.alloc A _).grown q jo (fun k O=>by have:=(B.lt k O).1;omega)
 ·exact(q.block b jo (N b r)).trans (C.block b z)
theorem Tryz.jG:kF prog 22 3 1 8:=jV (z:=.int .i64 0) (by kernel_rfl) (by kernel_rfl) rfl aD aD
theorem Tryz.mB:kF prog 42 22 1 24:=jV (z:=.slice none 0 0) (by kernel_rfl) (by kernel_rfl) rfl aD aD
def Grow(S:Nat->Prop)(N:Nat):Nat->Prop:=fun b=>(S b/\b<N)\/N<=b
theorem eE{B N:Nat}(h:B<=N):∀b,Grow (B<=·) N b->B<=b:=by
 intro b a;rcases a with a|a
 ·exact a.1
 ·exact Nat.le_trans h a
structure Turns(S:Nat->Prop)(w w':World):Prop where
 os:w'.os=w.os
 tape:w'.tape=w.tape
 output:w'.output=w.output
 size:w.heap.size<=w'.heap.size
 block:∀b,¬S b->b<w.heap.size->w'.heap[b]?=w.heap[b]?
theorem Turns.refl(S:Nat->Prop)(w:World):Turns S w w:=⟨rfl,rfl,rfl,aL,fun _ _ _=>rfl⟩
theorem Turns.trans{S:Nat->Prop}{w w1 w2:World}(h:Turns S w w1)(k:Turns S w1 w2):Turns S w w2:=
 ⟨k.os.trans h.os,k.tape.trans h.tape,k.output.trans h.output,Nat.le_trans h.size k.size,fun b c a=>(k.block b c (Nat.lt_of_lt_of_le a h.size)).trans (h.block b c a)⟩
theorem Turns.mono{S S':Nat->Prop}{w w1:World}(h:Turns S w w1)(c:∀b,b<w.heap.size->S b->S' b):Turns S' w w1:=
 ⟨h.os,h.tape,h.output,h.size,fun b d a=>h.block b (fun e=>d (c b a e)) a⟩
theorem Turns.bg{S:Nat->Prop}{w w1:World}(h:BL w w1):Turns S w w1:=⟨h.os,h.tape,h.output,h.size,fun b _ a=>h.block b a⟩
theorem Turns.below{S:Nat->Prop}{w w1:World}{B:Nat}(h:Turns S w w1)(hB:B<=w.heap.size)(a:∀b,S b->B<=b):Below B w w1:=
 ⟨h.os,h.tape,h.output,h.size,fun b d=>h.block b (fun c=>by have:=a b c;omega) aD⟩
theorem Turns.keep{S T:Nat->Prop}{w w1:World}(h:Turns S w w1)(c:∀b,T b->¬S b):aH T w w1:=fun b d a=>h.block b (c b d) a
theorem Turns.setCell{S:Nat->Prop}{w w1:World}(h:Turns S w w1)(a:Addr)(v:Value)(c:S a.block):Turns S w (w1.setCell a v):=
 h.trans ⟨rfl,rfl,rfl,by simp[World.setCell],fun b d _=>Below.heap_setCell _ _ _ _ (fun e=>d (e▸c))⟩
theorem Turns.gy{S:Nat->Prop}{w w1:World}{row:Option Nat}(h:w.grownBy w1 row)(c:∀b,row=some b->S b):Turns S w w1:=
 ⟨h.os,h.tape,h.output,h.size,fun b d a=>h.block b a (fun e=>d (c b e.symm))⟩
def bp(S:Nat->Prop)(w:World)(v:Value)(xs:List Int):Prop:=
 w.ownsRow 0 3 1 v xs.length (xs.map (Value.int .i64))/\∀b,v.ownBlock=some b->S b
def jv{α:Type}(c:(Nat->Prop)->World->Value->α->Prop)(e:TypeId)(S:Nat->Prop)(w:World)(v:Value)(xs:List α):Prop:=
 (∀b,v.ownBlock=some b->S b)/\∃(a:List Value) (Z:Nat->Nat),w.ownsRow 0 e 1 v xs.length a/\a.length=xs.length/\
  ∀j (d:j<a.length) (f:j<xs.length),c (fun b=>S b/\some b≠v.ownBlock/\Z b=j) w a[j] xs[j]
theorem dZ{S:Nat->Prop}{w w':World}{base:Nat}{e:TypeId}{size:Nat}{v:Value}{n:Nat}{us:List Value}(h:w.ownsRow base e size v n us)(d:∀b,v.ownBlock=some b->S b)(f:aH S w w'):w'.ownsRow base e size v n us:=by
 refine⟨h.1,?_⟩;rcases h.2 with i|⟨g,cap,a,rfl,j,c,r⟩
 ·exact .inl i
 ·exact .inr ⟨g,cap,a,rfl,j,by rw[f g (d g rfl) (Array.getElem?_eq_some_iff.1 c).1];exact c,r⟩
theorem aW:fA (α:=List Int) bp:=
 ⟨fun h k=>⟨dZ h.1 h.2 k,h.2⟩,fun h k=>⟨h.1,fun b a=>k b (h.1.lt b a).2 (h.2 b a)⟩⟩
theorem tI{α:Type}{m:(Nat->Prop)->World->Value->α->Prop}(n:fA m)(e:TypeId):fA (α:=List α) (jv m e) where
 keep:=by
  rintro S w r v q ⟨d,g,Z,f,h,i⟩ o;exact⟨d,g,Z,dZ f d o,h,fun j k l=>n.keep (i j k l) (fun b a c=>o b a.1 c)⟩
 mono:=by
  rintro S s w v q ⟨d,g,Z,f,h,i⟩ p;exact⟨fun b a=>p b (f.lt b a).2 (d b a),g,Z,f,h,fun j k l=>n.mono (i j k l) (fun b c a=>⟨p b c a.1,a.2⟩)⟩
abbrev fE:=jv bp 22
abbrev cM:=jv fE 42
theorem cW:fA (α:=List (List Int)) fE:=tI aW _
theorem bZ:fA (α:=List (List (List Int))) cM:=tI cW _
theorem oV{α:Type}{R:World->Value->α->Prop}{S:Nat->Prop}{w:World}{base:Nat}{e:TypeId}{v:Value}{us:List Value}{xs:List α}
  (h:w.ownsRow base e 1 v xs.length us)(d:∀b,v.ownBlock=some b->S b)(n:us.length=xs.length)(f:∀j (a:j<us.length) (c:j<xs.length),R w us[j] xs[j]):eA R S w v xs:=by
 obtain⟨a,c⟩:=h;simp only[Nat.mul_one] at a;rcases c with⟨rfl,i⟩|⟨g,cap,cur,rfl,o,hg,p,k,l,ht⟩
 ·obtain rfl:xs=[]:=List.eq_nil_of_length_eq_zero i
  exact eA.nil R S w
 ·simp only[Nat.mul_one] at l ht
  refine⟨some ⟨g,0,none⟩,cap,rfl,fun _=>⟨g,0,rfl⟩,aD,k,fun _=>d g rfl,fun j m=>?_⟩;refine⟨us[j]' aD,?_,f j aD m⟩;exact ZA
theorem bp.sl{S:Nat->Prop}{w:World}{v:Value}{xs:List Int}(h:bp S w v xs):bB S w v xs:=
 oV h.1 h.2 bH (fun j a b=>by simp)
theorem jv.sl{α:Type}{a:(Nat->Prop)->World->Value->α->Prop}(c:fA a){R:(Nat->Prop)->World->Value->α->Prop}(d:∀{S w u x},a S w u x->R S w u x)
  {e:TypeId}{S:Nat->Prop}{w:World}{v:Value}{xs:List α}(h:jv a e S w v xs):eA (R S) S w v xs:=by
 obtain⟨f,o,Z,g,i,k⟩:=h;exact oV g f i (fun j l m=>d (c.mono (k j l m) (fun b _ n=>n.1)))
theorem fE.sl{S:Nat->Prop}{w:World}{v:Value}{xs:List (List Int)}(h:fE S w v xs):cG S w v xs:=jv.sl (R:=fun S=>bB S) aW (fun h=>bp.sl h) h
theorem cM.sl{S:Nat->Prop}{w:World}{v:Value}{xs:List (List (List Int))}(h:cM S w v xs):bK S w v xs:=jv.sl (R:=fun S=>cG S) cW (fun h=>fE.sl h) h
theorem jv.nil{α:Type}(a:(Nat->Prop)->World->Value->α->Prop)(e:TypeId)(S:Nat->Prop)(w:World):jv a e S w (.slice none 0 0) []:=
 ⟨fun b c=>by simp[Value.ownBlock] at c,[],fun _=>0,World.ownsRow_nil _ _ _ _,rfl,fun j h=>absurd h bH⟩
theorem bp.nil(S:Nat->Prop)(w:World):bp S w (.slice none 0 0) []:=⟨World.ownsRow_nil _ _ _ _,fun b a=>by simp[Value.ownBlock] at a⟩
theorem adE(h:p:=by
  obtain⟨h1,h2⟩:=h
  refine⟨Wz,?_⟩
  rcases h2 with⟨h2,_⟩|⟨g',cap',cur,hv,hb,hg,hn,hc,hs,ht⟩
  ·cases h2
  ·cases hv
   refine .inr ⟨g,cap,cur.setIfInBounds j u,rfl,hb,heap_setCell_same w g j cur e u hg,hn,hc,by simpa using hs,?_⟩;rw[Array.toList_setIfInBounds,<-ht];exact List.take_set ..):p:=h
theorem tJ{w:World}{base:Nat}{e:TypeId}{g n cap:Nat}{us:List Value}(h:w.ownsRow base e 1 (.slice (some ⟨g,0,none⟩) n cap) n us)(j:Nat)(u:Value):
  (w.setCell ⟨g,j,none⟩ u).ownsRow base e 1 (.slice (some ⟨g,0,none⟩) n cap) n (us.set j u):=by
 exact adE
theorem gU{w:World}{base:Nat}{e:TypeId}{v:Value}{n:Nat}{us:List Value}(h:w.ownsRow base e 1 v n us)(c:0<n):
  ∃g cap,v=.slice (some ⟨g,0,none⟩) n cap/\n<=cap/\cap<=maxLen/\w.shape? g=some (e,cap)/\∀j (d:j<us.length),w.cell? ⟨g,j,none⟩=some us[j]/\w.frozen? ⟨g,j,none⟩=false:=by
 obtain⟨l,f⟩:=h;rcases f with⟨_,f⟩|⟨g,cap,a,m,q,b,c,o,i,k⟩
 ·omega
 ·simp only[Nat.mul_one] at l i k
  refine⟨g,cap,m,c,o,by simp[World.shape?,b,i],fun j d=>⟨?_,frozen_of_row w g j a e b⟩⟩;rw[cell_of_row w g j a e (0,0) b];have p:us[j]?=some us[j]:=List.getElem?_eq_getElem d;rw[<-p,<-k,List.getElem?_take,if_pos aD];simp
theorem jv.borrow{α:Type}{m:(Nat->Prop)->World->Value->α->Prop}(o:fA m){e:TypeId}{S:Nat->Prop}{w:World}{v:Value}{xs:List α}(h:jv m e S w v xs)(j:Nat)(I:j<xs.length):
  ∃g cap u T,v=.slice (some ⟨g,0,none⟩) xs.length cap/\xs.length<=cap/\cap<=maxLen/\S g/\w.cell? ⟨g,j,none⟩=some u/\w.frozen? ⟨g,j,none⟩=false/\m T w u xs[j]/\(∀b,T b->S b/\b≠g/\b<w.heap.size)/\
   (∀w2 f,Turns T w w2->m (Grow T w.heap.size) w2 u f->jv m e (Grow S w.heap.size) w2 v (xs.set j f))/\
   (∀w2 k f,Turns T w w2->m (Grow T w.heap.size) w2 k f->w2.cell? ⟨g,j,none⟩=some u/\w2.frozen? ⟨g,j,none⟩=false/\jv m e (Grow S w.heap.size) (w2.setCell ⟨g,j,none⟩ k) v (xs.set j f)/\Turns (fun b=>T b\/b=g) w (w2.setCell ⟨g,j,none⟩ k)):=by
 obtain⟨J,p,Z,y,K,E⟩:=h;obtain⟨g,cap,rfl,L,M,_,N⟩:=gU y aD;have F:S g:=J g rfl;have q:g<w.heap.size:=(y.lt g rfl).2;have r:j<p.length:=aD
 obtain⟨c1,c2⟩:=N j r;let T:Nat->Prop:=fun b=>(S b/\some b≠some g/\Z b=j)/\b<w.heap.size
 have G:∀b,T b->S b/\b≠g/\b<w.heap.size:=fun b c=>⟨c.1.1,fun e=>c.1.2.1 ah4,c.2⟩;have s:¬T g:=fun c=>(G g c).2.1 rfl
 have row:∀w2,Turns T w w2->w2.ownsRow 0 e 1 (.slice (some ⟨g,0,none⟩) xs.length cap) xs.length p:=fun w2 l=>
  dZ (S:=fun b=>b=g) y (fun b c=>by simpa [Value.ownBlock] using c.symm) (l.keep fun b c=>by rw[c];exact s)
 have back:∀w2 w3 (k:Value) f,Turns T w w2->m (Grow T w.heap.size) w2 k f->(∀b,b≠g->b<w2.heap.size->w3.heap[b]?=w2.heap[b]?)->
   w3.ownsRow 0 e 1 (.slice (some ⟨g,0,none⟩) xs.length cap) xs.length (p.set j k)->jv m e (Grow S w.heap.size) w3 (.slice (some ⟨g,0,none⟩) xs.length cap) (xs.set j f):=by
  intro w2 w3 k f l t H x;refine⟨fun b c=>?_,p.set j k,fun b=>if b<w.heap.size then Z b else j,by simpa using x,by simpa using K,fun i O g2=>?_⟩
  ·obtain rfl:g=b:=by simpa [Value.ownBlock] using c
   exact .inl ⟨F,q⟩
  ·by_cases n:j=i
   ·subst n
    simp only[List.getElem_set_self]
    have z:=o.mono (S':=fun b=>Grow S w.heap.size b/\some b≠some g/\(if b<w.heap.size then Z b else j)=j) t (fun b _ c=>by
     rcases c with c|c
     ·exact⟨.inl ⟨c.1.1.1,c.2⟩,c.1.1.2.1,by rw[if_pos c.2];exact c.1.1.2.2⟩
     ·exact⟨.inr c,fun e=>by have:=Option.some.inj e;omega,by rw[if_neg aD]⟩)
    exact o.keep z (fun b c d=>H b (fun e=>c.2.1 zS) d)
   ·have A:i<p.length:=by simpa using O
    have B:i<xs.length:=Kh
    rw[List.getElem_set_ne n,List.getElem_set_ne n];have C:=o.mono (S':=fun b=>(S b/\some b≠some g/\Z b=i)/\b<w.heap.size) (E i A B) (fun b d c=>⟨c,d⟩);have z:=o.keep C (l.keep fun b c D=>n (D.1.2.2.symm.trans c.1.2.2));have P:=o.keep (w':=w3) z (fun b c d=>H b (fun e=>c.1.2.1 ah4) d);exact o.mono P (fun b _ c=>⟨.inl ⟨c.1.1,c.2⟩,c.1.2.1,by show (if b<w.heap.size then Z b else j)=i;rw[if_pos c.2];exact c.1.2.2⟩)
 refine⟨g,cap,p[j],T,rfl,L,M,F,c1,c2,o.mono (E j r I) (fun b d c=>⟨c,d⟩),G,fun w2 f l t=>?_,fun w2 k f l t=>?_⟩
 ·exact back w2 w2 p[j] f l t (fun _ _ _=>rfl) (by rw[List.set_getElem_self];exact row w2 l)
 ·have c3:w2.heap[g]?=w.heap[g]?:=l.block g s q
  refine⟨(World.cell?_of_block (a:=⟨g,j,none⟩) c3).trans c1,(World.frozen?_of_block (a:=⟨g,j,none⟩) c3).trans c2,?_,?_⟩
  ·exact back w2 _ k f l t (fun b c _=>Below.heap_setCell w2 ⟨g,j,none⟩ k b c) (tJ (row w2 l) j k)
  ·exact(l.mono fun b _ c=>.inl c).setCell ⟨g,j,none⟩ k (.inr rfl)
theorem eA.news{α:Type}{R:World->Value->α->Prop}{S:Nat->Prop}{w:World}{d:Option Addr}{m c:Nat}{ys:List α}(h:eA R S w (.slice d m c) ys):
  m=ys.length/\dV d m/\∃f:List Value,f.length=m/\(∀j u,f[j]?=some u->w.cell? ⟨bM d,bT d+j,none⟩=some u)/\∀j (g:j<f.length) (k:j<ys.length),R w f[j] ys[j]:=by
 obtain⟨a,cap,l,g,k,q,r,i⟩:=h;cases l;refine⟨rfl,g,(List.range ys.length).map (fun j=>(w.cell? ⟨bM d,bT d+j,none⟩).getD undef),bH,fun j u e=>?_,fun j s n=>?_⟩
 ·have hj:j<ys.length:=by
   have:=(List.getElem?_eq_some_iff.1 e).1
   simpa using this
  obtain⟨o,b,_⟩:=i j hj;rw[List.getElem?_eq_getElem BI] at e;simp only[List.getElem_map,List.getElem_range] at e;rw[b] at e;rw[b,<-e];rfl
 ·obtain⟨o,b,p⟩:=i j n
  simp only[List.getElem_map,List.getElem_range,b];exact p
section
variable {P:Program} {t e:TypeId} {bytes:Nat} {α:Type} {RR:(Nat->Prop)->World->Value->α->Prop} {w:World} {ops:Array Oper} {rest:List Oper} {o:Oper} {a:Act} {Q:Exit->Act->World->Prop}
theorem Kl(r:fA RR)(H:o.guard=none)(s x:Operand)
  (U:o.op=.call {callee:=.builtin .append,args:=#[s,x],argTypes:=#[t,t]})(V:kF P t e 1 bytes)
  {S:Nat->Prop}{w1:World}{v:Value}{xs:List α}(W:a.eval s=v)(z:jv RR e S w1 v xs)(I:BL w1 w)
  {A:Option Addr}{m c:Nat}(hx:a.eval x=.slice A m c)(J:dV A m)(news:List Value)(N:news.length=m)
  (l:∀j u,news[j]?=some u->w.cell? ⟨bM A,bT A+j,none⟩=some u)(h1:∀u∈news,u.oneCell'=true)
  (ys:List α)(O:ys.length=m)(F:Nat->Nat)(X:∀i (R:i<news.length) (K:i<ys.length),RR (fun b=>w1.heap.size<=b/\F b=i) w news[i] ys[i])
  (k:xs.length+m<=1000000000)
  (h:∀B n,jv RR e (Grow S w1.heap.size) n B (xs++ys)->Turns (fun b=>some b=v.ownBlock) w n->wpList P ops Q rest (a.put o.dst B) n):
  wpList P ops Q (o::rest) a w:=by
 obtain⟨f1,q,Z,f2,Y,f4⟩:=z;have hsz:=I.size;have f2':w.ownsRow 0 e 1 v xs.length q:=dZ (S:=fun _=>True) f2 (fun _ _=>trivial) (aH.below I);refine amL H s x U V W f2' A m c hx J news (by simpa using N) l h1 k (Nat.zero_le _) (fun B n R K g=>?_);refine h B n ⟨fun b d=>?_,q++news,fun b=>if b<w1.heap.size then Z b else xs.length+F b,?_,?_,fun j k1 k2=>?_⟩ (Turns.gy K fun b d=>d.symm)
 ·rcases g with g|g
  ·rw[g] at d;exact .inl ⟨f1 b d,(f2.lt b d).2⟩
  ·rw[g] at d;exact .inr (by have:=Option.some.inj d;omega)
 ·rw[List.length_append,O];exact R
 ·simp[Y,N,O]
 ·have f:∀{u y},∀C:Nat->Prop,RR C w u y->(∀b,b<w.heap.size->C b->some b≠v.ownBlock)->(∀b,b<w.heap.size->C b->Grow S w1.heap.size b/\(if b<w1.heap.size then Z b else xs.length+F b)=j)->
    RR (fun b=>Grow S w1.heap.size b/\some b≠B.ownBlock/\(if b<w1.heap.size then Z b else xs.length+F b)=j) n u y:=by
   intro u y C G D E
   have L:=r.mono (S':=fun b=>C b/\b<w.heap.size) G (fun b p d=>⟨d,p⟩)
   have r2:=r.keep (w':=n) L (fun b d _=>K.block b d.2 (D b d.2 d.1))
   refine r.mono r2 (fun b _ d=>⟨(E b d.2 d.1).1,?_,(E b d.2 d.1).2⟩)
   rcases g with g|g
   ·rw[g];exact D b d.2 d.1
   ·rw[g];intro M;have:=Option.some.inj M;omega
  by_cases T:j<q.length
  ·rw[List.getElem_append_left T,List.getElem_append_left aD]
   have r0:=r.mono (S':=fun b=>(S b/\some b≠v.ownBlock/\Z b=j)/\b<w1.heap.size) (f4 j T aD) (fun b p d=>⟨d,p⟩);have L:=r.keep (w':=w) r0 (fun b d _=>I.block b d.2);exact f _ L (fun b _ d=>d.1.2.1) (fun b _ d=>⟨.inl ⟨d.1.1,d.2⟩,by rw[if_pos d.2];exact d.1.2.2⟩)
  ·have aa:j<q.length+news.length:=by simpa using k1
   rw[List.getElem_append_right aD,List.getElem_append_right aD];have e1:j-q.length=j-xs.length:=aD
   have G:=X (j-q.length) aD aD;simp only[e1] at G ⊢;refine f _ G (fun b _ d M=>?_) (fun b _ d=>⟨.inr d.1,by rw[if_neg aD,d.2];omega⟩);have:=(f2.lt b M.symm).2;omega
theorem iM(k:fA RR)(l:o.guard=none)(s x:Operand)
  (r:o.op=.call {callee:=.builtin .append,args:=#[s,x],argTypes:=#[t,t]})(z:kF P t e 1 bytes)
  {S:Nat->Prop}{w1:World}{v:Value}{xs:List α}(A:a.eval s=v)(f:jv RR e S w1 v xs)(B:BL w1 w)
  {u:Value}{m:TypeId}(hx:a.eval x=.slice (some ⟨w.heap.size,0,none⟩) 1 1)(y:α)(C:RR (fun b=>w1.heap.size<=b) w u y)(h1:u.oneCell'=true)
  (c:xs.length+1<=1000000000)
  (h:∀j g,jv RR e (Grow S w1.heap.size) g j (xs++[y])->Turns (fun b=>some b=v.ownBlock) w g->wpList P ops Q rest (a.put o.dst j) g):
  wpList P ops Q (o::rest) a (w.alloc (.cells #[u] m)):=by
 have n:BL w (w.alloc (.cells #[u] m)):=aG.alloc aL _;refine Kl k l s x r z A f (bO B n) hx (fun _=>⟨_,_,rfl⟩) [u] rfl (iR w #[u] m) Wz [y] rfl (fun _=>0) ?_ c (fun j g p d=>h j g p ((Turns.bg n).trans ⟨d.os,d.tape,d.output,d.size,d.block⟩));intro i p d;obtain rfl:i=0:=by simp at p;omega
 exact k.mono (k.keep C (aH.below n)) (fun b _ q=>⟨q,rfl⟩)
theorem dI(l:o.guard=none)(s x:Operand)
  (C:o.op=.call {callee:=.builtin .append,args:=#[s,x],argTypes:=#[t,t]})(D:kF P t 3 1 bytes)
  {S:Nat->Prop}{w1:World}{v:Value}{xs:List Int}(E:a.eval s=v)(e:bp S w1 v xs)(r:BL w1 w)
  {n:Option Addr}{m c:Nat}(hx:a.eval x=.slice n m c){T:Nat->Prop}{ys:List Int}(F:bB T w (.slice n m c) ys)
  (f:xs.length+m<=1000000000)
  (h:∀k g,bp (Grow S w1.heap.size) g k (xs++ys)->Turns (fun b=>some b=v.ownBlock) w g->wpList P ops Q rest (a.put o.dst k) g):
  wpList P ops Q (o::rest) a w:=by
 obtain⟨rfl,p,z,A,l2,G⟩:=eA.news F
 have B:z=ys.map (Value.int .i64):=by
  refine List.ext_getElem (by simp[A]) (fun i q g2=>?_);simpa using G i q Kh
 have hsz:=r.size;have f2':w.ownsRow 0 3 1 v xs.length (xs.map (Value.int .i64)):=dZ (S:=fun _=>True) e.1 (fun _ _=>trivial) (aH.below r);refine amL l s x C D E f2' n ys.length c hx p z (by simpa using A) l2 ?_ f (Nat.zero_le _) (fun k g q g2 j=>h k g ⟨?_,fun b d=>?_⟩ (Turns.gy g2 fun b d=>d.symm))
 ·rw[B];intro u H;obtain⟨y,_,rfl⟩:=List.mem_map.1 H;rfl
 ·rw[List.length_append,List.map_append,<-B];exact q
 ·rcases j with j|j
  ·rw[j] at d;exact .inl ⟨e.2 b d,(e.1.lt b d).2⟩
  ·rw[j] at d;exact .inr (by have:=Option.some.inj d;omega)
end
theorem eA.at{α:Type}{R:World->Value->α->Prop}{S:Nat->Prop}{w:World}{a:Option Addr}{n cap:Nat}{xs:List α}(h:eA R S w (.slice a n cap) xs){j:Nat}(d:j<xs.length):
  ∃u,w.cell? ⟨bM a,bT a+j,none⟩=some u/\bM a<w.heap.size/\R w u xs[j]:=by
 obtain⟨i,b,e,k,l,m,o,f⟩:=h;cases e;obtain⟨u,c,g⟩:=f j d;exact⟨u,c,World.block_lt_of_cell? w ⟨bM a,bT a+j,none⟩ c,g⟩
theorem eA.form{α:Type}{R:World->Value->α->Prop}{S:Nat->Prop}{w:World}{v:Value}{xs:List α}(h:eA R S w v xs):
  ∃a cap,v=.slice a xs.length cap/\dV a xs.length/\xs.length<=cap/\cap<=9223372036854775807:=by
 obtain⟨a,cap,b,c,d,e,_⟩:=h;exact⟨a,cap,b,c,d,by unfold maxLen at e;omega⟩
section
variable {P:Program} {ops:Array Oper} {md:Region.Mode} {C:World->Prop}
def QN(K:Act->World->Prop):Exit->Act->World->Prop
 | .normal,a,w=>K a w
 |_,_,_=>False
theorem jw{K:Act->World->Prop}:¬LetsOut (QN K):=by
 rintro ⟨a,w,h⟩;exact h
def Xf(P:Program)(b:Array Oper)(C:World->Prop)(i:Nat)(K:Act->World->Prop)(a:Act)(w:World):Prop:=
 wpOp P b (QN fun _ _=>False) i (fun d c=>C c/\K d c) a w
theorem Km{i:Nat}{a:Act}{w:World}{K c:Act->World->Prop}(h:∀a w,C w->K a w->c a w)(d:Xf P ops C i K a w):Xf P ops C i c a w:=
 wpOp_mono (fun a w b=>⟨b.1,h a w b.1 b.2⟩) d
theorem wp_exit{o:Oper}{a:Act}{w:World}{K:Act->World->Prop}{Q Q':Exit->Act->World->Prop}(d:∀c a w,Q (.panic c) a w->Q' (.panic c) a w)(g:LetsOut Q->LetsOut Q')
  (h:o.wp P a w K Q):o.wp P a w K Q':=by
 unfold Oper.wp at*;generalize (execOp a.eval o).run P w=r at*;cases r with
 |ok n w'=>
  cases n<;>simp only[Oper.upon] at h ⊢
  case enter f args=>
   refine Calls.mono h fun e i b=>?_;cases e with
   |returned u=>exact b
   |panicked c=>exact d _ _ _ b
   |outgrown=>exact g b
  all_goals exact h
 |halt x w'=>
  cases x<;>simp only[Oper.upon] at h ⊢
  case panic u=>exact d _ _ _ h
theorem Ss{i:Nat}{a:Act}{w:World}{K:Act->World->Prop}{Q Q':Exit->Act->World->Prop}(f:∀c a w,Q (.panic c) a w->Q' (.panic c) a w)(e:LetsOut Q->LetsOut Q')
  (h:wpOp P ops Q i K a w):wpOp P ops Q' i K a w:=by
 unfold wpOp at*;split
 ·rename_i b;simp only[b] at h;exact h
 ·rename_i o b
  simp only[b] at h;split
  ·rename_i d
   simp only[d,if_true] at h;rcases h with h|⟨g,j⟩
   ·exact .inl (wp_exit f e h)
   ·exact .inr ⟨g,e j⟩
  ·rename_i d
   simp only[d] at h;exact h
def jx(P:Program)(b:Array Oper)(C:World->Prop)(o:Oper)(v:Value)(a:Act):Prop:=
 (Region.wanted o (yielded b a.tmps)=true/\∀w,C w->(execOp a.eval o).run P w=.ok (.value v) w)\/
 (Region.wanted o (yielded b a.tmps)=false/\v=undef)
theorem jx.wpOp{i:Nat}{o:Oper}{v:Value}{a:Act}(c:ops[i]?=some o)(d:jx P ops C o v a){K:Act->World->Prop}{Q:Exit->Act->World->Prop}{w:World}(e:C w)(h:K (a.put o.dst v) w):
  wpOp P ops Q i K a w:=by
 unfold Go.wpOp;simp only[c];rcases d with⟨b,f⟩|⟨b,rfl⟩
 ·simp only[b,if_true,Oper.wp,f w e,Oper.upon];exact .inl h
 ·simp only[b,Bool.false_eq_true,if_false];exact h
theorem jx.of_same{o:Oper}{v:Value}{a b:Act}(c:jx P ops C o v a)(d:execOp b.eval o=execOp a.eval o)
  (e:Region.wanted o (yielded ops b.tmps)=Region.wanted o (yielded ops a.tmps)):jx P ops C o v b:=by
 unfold jx at*;rw[d,e];exact c
theorem abC{j:Nat}{g i:Oper}{v:Value}(F:ops[j]?=some i)(q:g.apart ops i=true)
  (s:∀cs b,g.op≠ .select cs b)(t:∀cs b,i.op≠ .select cs b){K:Act->World->Prop}{a:Act}{w:World}
  (k:jx P ops C g v a)(h:Xf P ops C j K (a.put g.dst v) w):
  Xf P ops C j (fun B y=>jx P ops C g v B/\K (B.put g.dst v) y) a w:=by
 obtain⟨D,p,E⟩:=Oper.apart_spec q
 have keep:∀(a:Act),jx P ops C g v a->∀u,jx P ops C g v (a.put i.dst u):=fun a k u=>
  k.of_same (execOp_put g s a i.dst u E) (wanted_put g a i.dst u E)
 have l:∀d,jx P ops C g v {a with defers:=d::a.defers}:=fun d=>k.of_same rfl rfl;unfold Xf wpOp at*;simp only[F] at*;rw[wanted_put i a g.dst v D] at h;split
 ·rename_i z
  simp only[z,if_true] at h;rcases h with h|⟨_,m⟩;case inr=>exact absurd m jw
  refine .inl ?_;unfold Oper.wp at*;rw[execOp_put i t a g.dst v D] at h;generalize (execOp a.eval i).run P w=r at*;cases r with
  |ok n y=>
   cases n<;>simp only[Oper.upon] at h ⊢
   case value u=>exact⟨h.1,keep a k u,by rw[<-Act.put_comm a v u p];exact h.2⟩
   case skip=>exact⟨h.1,keep a k _,by rw[<-Act.put_comm a v undef p];exact h.2⟩
   case defer d=>
    refine⟨h.1,keep _ (l d) _,?_⟩;rw[<-Act.put_comm _ v undef p,<-Act.put_defers];exact h.2
   case enter f args=>
    refine Calls.mono h fun e A o=>?_;cases e with
    |returned u=>exact⟨o.1,keep a k u,by rw[<-Act.put_comm a v u p];exact o.2⟩
    |panicked c=>exact o
    |outgrown=>exact o
   case row row args=>exact Rows.mono h fun u A o=>⟨o.1,keep a k u,by rw[<-Act.put_comm a v u p];exact o.2⟩
  |halt x y=>
   cases x<;>simp only[Oper.upon] at h ⊢
   case panic u=>exact h
 ·rename_i z
  simp only[z] at h;exact⟨h.1,keep a k _,by rw[<-Act.put_comm a v undef p];exact h.2⟩
def mF(P:Program)(md:Region.Mode)(b:Array Oper)(C:World->Prop)(n:Nat)(L:Array Bool->Act->World->Prop):Nat->Array Bool->Act->World->Prop
 |0,listed,a,w=>L listed a w
 |f+1,listed,a,w=>
  Region.ready md b listed≠[]/\∀i∈Region.ready md b listed,i<n/\Xf P b C i (mF P md b C n L f (listed.setIfInBounds i true)) a w
theorem lQ{n g:Nat}{L:Array Bool->Act->World->Prop}{Q':Exit->Act->World->Prop}(b:∀listed a w,L listed a w->wpAny P md ops Q' g listed a w):
  ∀(f:Nat) (listed:Array Bool) (a:Act) (w:World),mF P md ops C n L f listed a w->wpAny P md ops Q' (f+g) listed a w
 |0,listed,a,w,h=>by rw[Nat.zero_add];exact b _ _ _ h
 |f+1,listed,a,w,h=>by
  rw[show f+1+g=(f+g)+1 by omega];exact⟨fun c=>absurd c h.1,fun i d=>Ss (fun _ _ _ e=>absurd e (by simp[QN])) (fun j=>absurd j jw) (wpOp_mono (fun k l m=>lQ b f _ k l m.2) (h.2 i d).2)⟩
theorem aff(h:p:=by
  rcases Nat.lt_or_ge j n with h|h
  ·exact h
  ·exact absurd hj (tail_waits hs hc hn inv _ i rfl hin hun j h)):p:=h
theorem Iq{n i:Nat}{u:Oper}{v:Value}{L:Array Bool->Act->World->Prop}(E:ops[i]?=some u)(p:∀(j:Nat) (o:Oper) cs b,ops[j]?=some o->o.op≠ .select cs b)
  (hs:Region.sinkB md ops n=true)(hc:Region.chainB md ops n=true)(hn:n<ops.size)(hin:i<n)
  (hdone:∀listed a w,L listed a w->∀j∈Region.ready md ops listed,n<=j):
  ∀(f:Nat) (listed:Array Bool) (a:Act) (w:World),C w->HeadInv md ops n listed->
   (∀j s,ops[j]?=some s->j≠i->listed.getD j true=false->(∀e∈s.after,Region.binds md e=true->e.on≠i)->u.apart ops s=true)->
   i∈Region.ready md ops listed->jx P ops C u v a->
   mF P md ops C n L f (listed.setIfInBounds i true) (a.put u.dst v) w->mF P md ops C n L (f+1) listed a w:=by
 intro f;induction f with
 |zero=>
  intro listed a w d inv _ q B H
  have hun:=(mem_ready.1 q).1
  refine⟨fun h=>(by rw[h] at q;cases q),fun j hj=>?_⟩
  have l:j<n:=by
   exact aff
  refine⟨l,?_⟩
  by_cases c:j=i
  ·subst c;exact B.wpOp E d ⟨d,H⟩
  ·have:=hdone _ _ _ H j (ready_mono hj c)
   omega
 |succ f ih=>
  intro listed a w d inv g q B H
  have hun:=(mem_ready.1 q).1
  refine⟨fun h=>(by rw[h] at q;cases q),fun j hj=>?_⟩
  have l:j<n:=by
   exact aff
  refine⟨l,?_⟩
  by_cases c:j=i
  ·subst c;exact B.wpOp E d ⟨d,H⟩
  ·have D:=(H.2 j (ready_mono hj c)).2
   obtain⟨r,s,t,x⟩:=mem_ready.1 hj
   have y:∀e∈s.after,Region.binds md e=true->e.on≠i:=fun e K M F=>by
    have D:=x e K M;rw[F,getD_both hun] at D;cases D
   have N:=abC t (g j s t c r y) (fun cs b=>p i u cs b E) (fun cs b=>p j s cs b t) B D
   have m:∀k ok,ops[k]?=some ok->k≠i->(listed.setIfInBounds j true).getD k true=false->
     (∀e∈ok.after,Region.binds md e=true->e.on≠i)->u.apart ops ok=true:=fun k ok O G hun I=>by
    refine g k ok O G ?_ I;by_cases z:j=k
    ·subst z;exact r
    ·rw[getD_set_ne true z] at hun;exact hun
   refine Km (fun Q R A J=>ih (listed.setIfInBounds j true) Q R A (inv.set hj l) m (ready_mono q (Ne.symm c)) J.1 ?_) N;rw[Array.setIfInBounds_comm _ _ c];exact J.2
theorem aeI(h:p:=by
  rw[Sem.run_bind]
  cases s.run P w with
  |ok a w1=>intro e;cases e;exact hn _ rfl
  |halt h w1=>intro e;cases e):p:=h
theorem uW{s:Sem Value}{w w':World}{nx:Next}(hn:∀v,nx≠ .value v):(do pure (Next.value (<-s)):Sem Next).run P w≠ .ok nx w':=by
 exact aeI
theorem CD{s:Sem Bool}{x y:Value}{w w':World}{nx:Next}(hn:∀v,nx≠ .value v):(do pure (Next.value (if<-s then x else y)):Sem Next).run P w≠ .ok nx w':=by
 exact aeI
theorem pY{n i:Nat}{c:Oper}{v:Value}{L:Array Bool->Act->World->Prop}{f:Nat}{listed:Array Bool}{a:Act}{w:World}(g:ops[i]?=some c)
  (b:Region.noSelect ops=true)(k:Region.sinkB md ops n=true)(l:Region.chainB md ops n=true)(m:n<ops.size)(d:i<n)
  (hdone:∀listed a w,L listed a w->∀j∈Region.ready md ops listed,n<=j)(e:C w)(inv:HeadInv md ops n listed)(o:Region.free md ops listed i=true)(p:(Region.ready md ops listed).contains i=true)
  (q:jx P ops C c v a)(h:mF P md ops C n L f (listed.setIfInBounds i true) (a.put c.dst v) w):mF P md ops C n L (f+1) listed a w:=
 Iq g (Region.noSelect_spec b) k l m d hdone f listed a w e inv (Region.free_spec g o) (by simpa using p) q h
theorem Cj{n g k:Nat}{listed:Array Bool}(h:Region.seqB md ops g k listed=true)(b:n<=k):∀j∈Region.ready md ops listed,n<=j:=by
 intro j a;have:=seqB_ready h j a;omega
end
theorem aJ{B:Nat}{a w:World}(h:Below B a w)(n:Nat):Below B a (w.drewN n):=⟨h.os,h.tape,h.output,h.size,h.block⟩
theorem tK{K:Act->World->Prop}{a:Act}{w:World}(h:K a w):QN K .normal a w:=h
def gV(w:World):Type:={W:World // BL w W}
theorem gV.cell{w:World}(x:gV w)(b o:Nat)(h:b<w.heap.size):x.1.cell? ⟨b,o,none⟩=w.cell? ⟨b,o,none⟩:=x.2.cell (p:=⟨b,o,none⟩) h
instance (w:World):Nonempty (gV w):=⟨⟨w,aG⟩⟩
theorem mG{P:Program}{c:Array Oper}{w:World}{Q:Act->Prop}:∀(l:List Oper) (a:Act),wpQuiet P c (fun e=>e=w) Q l a->wpStill P c w Q l a
 |[],_,h=>h
 |o::l,a,h=>by
  unfold wpQuiet at h;unfold wpStill;split
  ·rename_i g
   rw[if_pos g] at h;obtain⟨v,k,m⟩:=h;have b:=k w rfl;have i:=mG l _ m;unfold Oper.quietAt at b;unfold Oper.still;generalize (execOp a.eval o).run P w=r at*;cases r with
   |ok n e=>
    cases n<;>simp only[Oper.quietUpon] at b<;>simp only[Oper.stillUpon]
    case value u=>obtain⟨d,j⟩:=b;subst j;exact⟨d,i⟩
    case skip=>obtain⟨d,j⟩:=b;subst j;exact⟨d,i⟩
    case enter f args=>obtain⟨d,p⟩:=b;exact⟨d,v,p,i⟩
   |halt x e=>simp only[Oper.quietUpon] at b
  ·rename_i g
   rw[if_neg g] at h;exact mG l _ h
theorem fB{P:Program}{id:Nat}{Q:Exit->Act->World->Prop}{a:Act}{w:World}{l:List Oper}(n:Nat)(b:P.follows .mixedOrders=true)(hB:Region.lexTailB .any l.toArray n=true)
  (h:wpQuiet P l.toArray (fun c=>c=w.drewN 1) (fun d=>wpList P l.toArray Q (l.drop n) d (w.drewN 1)) (l.take n) a):(Code.region id l.toArray true).wp P Q a w:=
 wp_region_still_tail n b hB (mG _ _ h)
def Held(a:World->Prop):Type:={W:World // a W}
def iT(a:World->Prop):World->Prop:=fun W=>∃x:Held a,W=x.1
theorem cQ{P:Program}{id:Nat}{Q:Exit->Act->World->Prop}{a:Act}{w:World}{l:List Oper}(c:P.follows .mixedOrders=true)(hB:Region.lexB .any l.toArray=true)
  (h:wpQuiet P l.toArray (fun W=>∃x:gV w,W=x.1) (fun d=>∀b,(∃x:gV w,b=x.1)->Q .normal d b) l a):(Code.region id l.toArray true).wp P Q a w:=
 wp_region_quiet (C:=fun W=>∃x:gV w,W=x.1) c hB ⟨⟨w.drewN 1,(aJ aG 1)⟩,rfl⟩ Fa
theorem eP{w w':World}(h:∃x:gV w,w'=x.1):BL w w':=by
 obtain⟨x,rfl⟩:=h;exact x.2
theorem Calls.fQ{P:Program}{f:FuncId}{args:Array Value}{w:World}{x:gV w}{v:Value}
  (h:Calls P f args x.1 fun e a=>e=.returned v/\Below x.1.heap.size x.1 a):Calls P f args x.1 fun e b=>e=.returned v/\∃y:gV w,b=y.1:=
 h.mono fun _ a ⟨c,d⟩=>⟨c,⟨a,x.2.trans (d.mono x.2.size)⟩,rfl⟩
def aY(A:Nat->Obj->Prop)(n0:Nat)(W W':World):Prop:=Below n0 W W'/\∀(b:Nat) (o:Obj),W.heap[b]?=some o->¬A b o->W'.heap[b]?=some o
theorem aY.refl(A:Nat->Obj->Prop)(n0:Nat)(W:World):aY A n0 W W:=⟨aG,fun _ _ h _=>h⟩
theorem aY.trans{A:Nat->Obj->Prop}{n0:Nat}{W a c:World}(h:aY A n0 W a)(k:aY A n0 a c):aY A n0 W c:=
 ⟨h.1.trans k.1,fun b o e d=>k.2 b o (h.2 b o e d) d⟩
theorem aY.mono{A A':Nat->Obj->Prop}{n0:Nat}{W a:World}(h:aY A n0 W a)(hA:∀b o,A b o->A' b o):aY A' n0 W a:=
 ⟨h.1,fun b o c d=>h.2 b o c (fun h=>d (hA b o h))⟩
theorem aY.putObj{A:Nat->Obj->Prop}{n0:Nat}{W:World}{l:Nat}{o:Obj}(d:Obj)(h:W.heap[l]?=some o)(f:A l o)(i:n0<=l):aY A n0 W (W.putObj l d):=by
 have g:l<W.heap.size:=(Array.getElem?_eq_some_iff.1 h).1;refine⟨(Below.refl n0 W).grown (grownBy_putObj' W l d) aD (fun k e=>by cases e;omega),fun b o2 a c=>?_⟩;by_cases e:b=l
 ·subst e;rw[h] at a;cases a;exact absurd f c
 ·exact(World.putObj_heap_other e).trans a
theorem aY.alloc{A:Nat->Obj->Prop}{n0:Nat}{W a:World}(h:aY A n0 W a)(e:n0<=W.heap.size)(o:Obj):aY A n0 W (a.alloc o):=
 ⟨h.1.alloc (Nat.le_trans e h.1.size) o,fun b o2 c d=>(Below.heap_alloc a o b (Array.getElem?_eq_some_iff.1 (h.2 b o2 c d)).1).trans (h.2 b o2 c d)⟩
theorem aY.drewN{A:Nat->Obj->Prop}{n0:Nat}{W a:World}(h:aY A n0 W a)(m:Nat):aY A n0 W (a.drewN m):=⟨aJ h.1 m,h.2⟩
theorem aY.setCell{A:Nat->Obj->Prop}{n0:Nat}{W a:World}(h:aY A n0 W a){p:Addr}{o:Obj}(f:a.heap[p.block]?=some o)(g:A p.block o)(i:n0<=p.block)(v:Value):aY A n0 W (a.setCell p v):=by
 refine h.trans ⟨aG.setCell i v,fun b o2 c d=>?_⟩;by_cases e:b=p.block
 ·subst e;rw[f] at c;cases c;exact absurd g d
 ·exact(Below.heap_setCell _ _ _ _ e).trans c
def book:Obj->Prop
 | .loop _=>True
 | .deferred _=>True
 |_=>False
def cD(a:Nat):Nat->Obj->Prop:=fun b o=>a<=b/\book o
def ofT(T:List TypeId):Obj->Prop
 | .cells _ t _=>t∈T
 |_=>False
def cellsOf(T:List TypeId):Nat->Obj->Prop:=fun _ o=>ofT T o
attribute [local go_sem] Oper.semAt_some
theorem Sv{F:Fence}(hd:F.depth=none)(k:Nat):F.room k:=fun d h=>by rw[hd] at h;cases h
theorem RoundIn.jD{F:Fence}(hd:F.depth=none){m m':Nat}{P:Program}{l:Nat}{f:FuncId}{a:Array Value}{assign body:Code}{w:World}{R:Ending->World->Prop}
  (h:RoundIn F m P l f a assign body w R):RoundIn F m' P l f a assign body w R:=⟨h.1,fun c cs _=>h.2 c cs (Sv hd _)⟩
theorem YieldAt.jD{F:Fence}(hd:F.depth=none){m:Nat}(m':Nat){P:Program}{l:Nat}{args:Array Value}{W:World}{R:Ending->World->Prop}(h:YieldAt F m P l args W R):YieldAt F m' P l args W R:=by
 obtain⟨b,a,assign,body,c,d⟩:=h;exact⟨b,a,assign,body,c,RoundIn.jD hd d⟩
theorem one_cell{W:World}{B:Nat}{t:TypeId}{v:Value}(h:W.heap[B]?=some (.cells #[v] t (0,0))):W.cell? ⟨B,0,none⟩=some v/\W.frozen? ⟨B,0,none⟩=false:=by
 constructor<;>simp[World.cell?,World.frozen?,h]
theorem one_set{W:World}{B:Nat}{t:TypeId}{v:Value}(b:Value)(h:W.heap[B]?=some (.cells #[v] t (0,0))):(W.setCell ⟨B,0,none⟩ b).heap[B]?=some (.cells #[b] t (0,0)):=by
 obtain⟨a,c⟩:=Array.getElem?_eq_some_iff.1 h;show (W.heap.modify B _)[B]?=_
 rw[Array.getElem?_eq_getElem (by rw[Array.size_modify];exact a),Array.getElem_modify_self,c];rfl
theorem aY.bg{A:Nat->Obj->Prop}{n0:Nat}{w w':World}(h:BL w w')(c:n0<=w.heap.size):aY A n0 w w':=
 ⟨h.mono c,fun b _ a _=>(h.block b (Array.getElem?_eq_some_iff.1 a).1).trans a⟩
theorem cC{W:World}{k:Nat}{v:Obj}(o:Obj)(h:W.heap[k]?=some v):(W.alloc o).heap[k]?=some v:=
 (Below.heap_alloc _ _ _ (Array.getElem?_eq_some_iff.1 h).1).trans h
theorem bD{k:Nat}(W:World)(o:Obj)(h:k=W.heap.size):(W.alloc o).heap[k]?=some o:=by
 rw[h];exact World.alloc_heap_new _ _
theorem XA(h:p:=by
  have:=aW.mono hI1 (fun b _ hb=>eE bH b hb)
  simpa using this):p:=h
theorem zU(xs:List Int)(hx:xs.length<=100000)(v:Value)(S:Nat->Prop)(w:World)(i:bB S w v xs):
  Calls prog 63 #[v] w fun e j=>∃x,e=.returned x/\bp (w.heap.size<=·) j x xs/\BL w j:=by
 have c:=i;obtain⟨a,cap,rfl,d,k,l⟩:=i.form;cases a with
 |none=>
  have m:xs=[]:=by
   rcases Nat.eq_zero_or_pos xs.length with h|h
   ·exact List.eq_nil_of_length_eq_zero h
   ·obtain⟨b,o,e⟩:=d h;cases e
  subst m
  have n:∀W,(binOp .eql 22 (.slice none 0 cap) (.slice none 0 0)).run prog W=.ok (.bool true) W:=fun W=>Lib.run_eql_slice_nil W 22 3 none 0 cap 0 0 (by kernel_rfl)
  go_enter func63,ntmps63
  go_wp2
  go_ret
  exact⟨_,rfl,bp.nil _ _,aG⟩
 |some ad=>
  have n:∀W,(binOp .eql 22 (.slice (some ad) xs.length cap) (.slice none 0 0)).run prog W=.ok (.bool false) W:=fun W=>Lib.run_eql_slice_nil W 22 3 (some ad) xs.length cap 0 0 (by kernel_rfl)
  have p:bp (w.heap.size<=·) (w.alloc (.cells #[] 3)) (.slice (some ⟨w.heap.size,0,none⟩) 0 0) []:=
   ⟨World.ownsRow_made w #[] 0 (Nat.zero_le _) (Nat.zero_le _) bH,fun b hb=>by simp[Value.ownBlock] at hb;omega⟩
  have q:bB S (w.alloc (.cells #[] 3)) (.slice (some ad) xs.length cap) xs:=bB.keep c (aH.below (aG.alloc aL _))
  go_enter func63,ntmps63
  go_wp2_with (at_builtin;go_must (refine dI rfl _ _ rfl Tryz.jG rfl p aG rfl q jo ?_))
  intro r w1 hI1 f
  have s:bp (w.heap.size<=·) w1 r xs:=by
   exact XA
  have g:BL w w1:=(aG.alloc aL _).trans (f.below bH (fun b hb=>by simp[Value.ownBlock] at hb;omega))
  go_wp2
  go_ret
  exact⟨_,rfl,s,g⟩
def iU:=@wpQuiet_nil
def eV:=@List.getElem_mem
def iY:=@List.getD_eq_getElem?_getD
def jW:=@List.drop_succ_cons
def jH:=@List.drop_zero
def yh:=@List.take_succ_eq_append_getElem
def kK:=@World.block_lt_of_cell?
def oW:=@decide_eq_true_eq
def pR:=@Bool.and_eq_true
def nL:=@List.mem_singleton
def rK:=@List.length_append
def mr:=@List.mem_cons
def mO:=@Below.heap_setCell
def zAr:=@List.getElem_append_right
def Xi:=@List.getElem_append_left
def ND:=@List.take_of_length_le
def VQ:=@List.length_take
def sM:=@List.length_map
def Na:=@List.not_mem_nil
def zMg:=@List.mem_iff_getElem
def lN:=@List.getElem?_eq_getElem
def oN:=@Nat.lt_of_lt_of_le
def oO:=@Option.some.inj
def zAn:=@World.alloc_heap_new
def zOg:=@Option.getD_some
def zxa:=@Nat.zero_le
def zxb:=@Nat.le_trans
def zxc:=@ByteArray.size_append
def zxd:=@Array.getElem?_eq_some_iff
def zxe:=@List.drop_eq_getElem_cons
def zxf:=@List.getElem_of_mem
def zxg:=@List.length_cons
def zxh:=@List.eq_nil_of_length_eq_zero
def zxi:=@Array.getElem?_eq_getElem
def zxj:=@List.map_append
def zxk:=@Int.toNat_natCast
def zxl:=@List.length_set
def zxm:=@List.append_assoc
def zxn:=@Nat.zero_add
def zxo:=@List.getElem_map
def zxp:=@List.append_nil
def zxq:=@List.map_congr_left
def zxr:=@List.getElem?_eq_none
def zxs:=@List.range_succ
def zxt:=@List.map_cons
def zxu:=@List.getElem?_eq_some_iff
def zxv:=@Bool.and_eq_true_iff
def zxw:=@List.take_length
def zxx:=@List.mem_append
def zxy:=@List.getElem_range
def zxz:=@List.getElem?_take
def al1:=@World.cell?_of_block
def alW:=@List.ext_getElem
def alX:=@List.filter_append
def alU:=@List.all_eq_true
def alY:=@List.getElem?_map
def alZ:=@List.flatMap_cons
def al0:=@List.flatten_cons
def alV:=@List.map_map
def fC{α:Type}(n:Nat)(R:World->List Value->α->Prop)(S:Nat->Prop)(w:World)(v:Value)(xs:List α):Prop:=
 ∃a cap,v=.slice a xs.length cap/\dV a xs.length/\xs.length<=cap/\cap<=maxLen/\(0<xs.length->S (bM a))/\
  ∀j (h:j<xs.length),∃b:List Value,b.length=n/\(∀i u,b[i]?=some u->w.cell? ⟨bM a,bT a+j*n+i,none⟩=some u)/\R w b xs[j]
structure dM{α:Type}(RR:(Nat->Prop)->World->List Value->α->Prop):Prop where
 keep:∀{S w w' u x},RR S w u x->aH S w w'->RR S w' u x
 mono:∀{S S':Nat->Prop} {w u x},RR S w u x->(∀b,b<w.heap.size->S b->S' b)->RR S' w u x
theorem fC.keep{α:Type}{n:Nat}{b:(Nat->Prop)->World->List Value->α->Prop}(g:dM b){S:Nat->Prop}{w w':World}{v:Value}{xs:List α}
  (h:fC n (b S) S w v xs)(c:aH S w w'):fC n (b S) S w' v xs:=by
 obtain⟨a,cap,rfl,k,l,m,d,o⟩:=h;refine⟨a,cap,rfl,k,l,m,d,fun j p=>?_⟩;obtain⟨q,r,e,s⟩:=o j p;refine⟨q,r,fun i u f=>?_,g.keep s c⟩;rw[al1 (w:=w) (a:=⟨bM a,bT a+j*n+i,none⟩) (c _ (d aD) (kK w ⟨bM a,bT a+j*n+i,none⟩ (e i u f)))];exact e i u f
theorem fC.mono{α:Type}{n:Nat}(t:0<n){c:(Nat->Prop)->World->List Value->α->Prop}(l:dM c){S S':Nat->Prop}{w:World}{v:Value}{xs:List α}
  (h:fC n (c S) S w v xs)(f:∀b,b<w.heap.size->S b->S' b):fC n (c S') S' w v xs:=by
 obtain⟨a,cap,rfl,m,o,p,q,g⟩:=h;refine⟨a,cap,rfl,m,o,p,fun i=>?_,fun j r=>?_⟩
 ·obtain⟨d,k,e,_⟩:=g 0 i
  exact f _ (kK w ⟨bM a,bT a+0*n+0,none⟩ (e 0 (d[0]' aD) (lN aD))) (q i)
 ·obtain⟨d,k,e,s⟩:=g j r
  exact⟨d,k,e,l.mono s f⟩
theorem fC.nil{α:Type}(n:Nat)(R:World->List Value->α->Prop)(S:Nat->Prop)(w:World):fC n R S w (.slice none 0 0) []:=
 ⟨none,0,rfl,fun h=>absurd h bH,aL,zxa _,fun h=>absurd h bH,fun j h=>absurd h bH⟩
theorem fC.form{α:Type}{n:Nat}{R:World->List Value->α->Prop}{S:Nat->Prop}{w:World}{v:Value}{xs:List α}(h:fC n R S w v xs):
  ∃a cap,v=.slice a xs.length cap/\dV a xs.length/\xs.length<=cap/\cap<=9223372036854775807:=by
 obtain⟨a,cap,rfl,b,c,d,_⟩:=h;exact⟨a,cap,rfl,b,c,d⟩
theorem fC.at{α:Type}{n:Nat}{R:World->List Value->α->Prop}{S:Nat->Prop}{w:World}{a:Option Addr}{m cap:Nat}{xs:List α}(h:fC n R S w (.slice a m cap) xs){j:Nat}(d:j<xs.length):
  S (bM a)/\∃b:List Value,b.length=n/\(∀i u,b[i]?=some u->w.cell? ⟨bM a,bT a+j*n+i,none⟩=some u)/\R w b xs[j]:=by
 obtain⟨k,c,e,l,o,p,f,g⟩:=h;cases e;exact⟨f aD,g j d⟩
theorem uY{b:Type}{n:Nat}:∀(L:List (List b)) (j:Nat) (h:j<L.length) (i:Nat),(∀a∈L,a.length=n)->i<n->L.flatten[j*n+i]?=L[j][i]?
 |[],_,h,_,_,_=>absurd h bH
 |a::L,0,_,i,hl,hi=>by
  rw[al0,List.getElem?_append_left (by rw[hl a bH];omega)];simp
 |a::L,j+1,h,i,hl,hi=>by
  have c:=uY L j Fa i (fun x hx=>hl x ah3) hi;have e:a.length=n:=hl a bH;rw[al0,List.getElem?_append_right (by rw[e,Nat.add_mul];omega),e];have:(j+1)*n+i-n=j*n+i:=by rw[Nat.add_mul];omega
  rw[this,c];rfl
theorem yA{b:Type}{n:Nat}:∀(L:List (List b)),(∀a∈L,a.length=n)->L.flatten.length=L.length*n
 |[],_=>by simp
 |a::L,hl=>by
  rw[al0,rK,hl a bH,yA L (fun x hx=>hl x ah3),zxg,Nat.add_mul];omega
theorem Kn{b:Type}{n:Nat}:∀(L:List (List b)) (j:Nat) (h:j<L.length) (i:Nat) (x:b),(∀a∈L,a.length=n)->i<n->(L.set j (L[j].set i x)).flatten=L.flatten.set (j*n+i) x
 |[],_,h,_,_,_,_=>absurd h bH
 |a::L,0,_,i,x,hl,hi=>by
  rw[List.set_cons_zero,al0,al0,List.set_append_left _ _ (by rw[hl a bH];omega)];simp
 |a::L,j+1,h,i,x,hl,hi=>by
  have c:=Kn L j Fa i x (fun x hx=>hl x ah3) hi;have e:a.length=n:=hl a bH;have:(j+1)*n+i-a.length=j*n+i:=by rw[e,Nat.add_mul];omega
  rw[List.set_cons_succ,al0,al0,List.set_append_right _ _ (by rw[e,Nat.add_mul];omega),this];exact congrArg _ c
def dX{α:Type}(n:Nat)(c:(Nat->Prop)->World->List Value->α->Prop)(S:Nat->Prop)(B:Nat)(e:TypeId)(w:World)(v:Value)(xs:List α):Prop:=
 ∃a:List (List Value),w.ownsRow B e n v xs.length a.flatten/\a.length=xs.length/\(∀d∈a,d.length=n)/\
  ∀j (f:j<a.length) (g:j<xs.length),c (fun b=>S b/\some b≠v.ownBlock) w a[j] xs[j]
theorem dX.nil{α:Type}(n:Nat)(a:(Nat->Prop)->World->List Value->α->Prop)(S:Nat->Prop)(B:Nat)(e:TypeId)(w:World):dX n a S B e w (.slice none 0 0) []:=
 ⟨[],World.ownsRow_nil _ _ _ _,rfl,fun _ h=>absurd h bH,fun j h=>absurd h bH⟩
theorem Fc{w w':World}{base:Nat}{e:TypeId}{size:Nat}{v:Value}{n:Nat}{us:List Value}(h:w.ownsRow base e size v n us)(a:∀b,v.ownBlock=some b->b<w.heap.size->w'.heap[b]?=w.heap[b]?):w'.ownsRow base e size v n us:=
 dZ (S:=fun b=>v.ownBlock=some b) h (fun _ c=>c) a
theorem dX.keep{α:Type}{n:Nat}{c:(Nat->Prop)->World->List Value->α->Prop}(g:dM c){S:Nat->Prop}{B:Nat}{e:TypeId}{w w':World}{v:Value}{xs:List α}
  (h:dX n c S B e w v xs)(f:aH (fun b=>S b\/v.ownBlock=some b) w w'):dX n c S B e w' v xs:=by
 obtain⟨i,k,l,m,o⟩:=h;exact⟨i,Fc k (fun b d a=>f b (.inr d) a),l,m,fun j p q=>g.keep (o j p q) (fun b d a=>f b (.inl d.1) a)⟩
theorem dX.below{α:Type}{n:Nat}{a:(Nat->Prop)->World->List Value->α->Prop}(b:dM a){S:Nat->Prop}{B:Nat}{e:TypeId}{w w':World}{v:Value}{xs:List α}
  (h:dX n a S B e w v xs)(c:BL w w'):dX n a S B e w' v xs:=h.keep b (aH.below c)
theorem dX.QB{α:Type}{n:Nat}{a:(Nat->Prop)->World->List Value->α->Prop}(f:dM a){S S':Nat->Prop}{B:Nat}{e:TypeId}{w:World}{v:Value}{xs:List α}
  (h:dX n a S B e w v xs)(g:∀b,b<w.heap.size->S b->S' b):dX n a S' B e w v xs:=by
 obtain⟨i,k,l,m,o⟩:=h;exact⟨i,k,l,m,fun j p q=>f.mono (o j p q) (fun b c d=>⟨g b c d.1,d.2⟩)⟩
theorem dX.lt{α:Type}{n:Nat}{a:(Nat->Prop)->World->List Value->α->Prop}{S:Nat->Prop}{B:Nat}{e:TypeId}{w:World}{v:Value}{xs:List α}(h:dX n a S B e w v xs):
  ∀b,v.ownBlock=some b->B<=b/\b<w.heap.size:=by
 obtain⟨f,c,_⟩:=h;exact fun b d=>c.lt b d
theorem amc(h:p:=by
  have:(j+1)*n<=xs.length*n:=Nat.mul_le_mul_right n aD
  rw[Nat.add_mul] at this
  omega):p:=h
theorem dX.sl{α:Type}{n:Nat}{c:(Nat->Prop)->World->List Value->α->Prop}(o:dM c){S T:Nat->Prop}{B:Nat}{e:TypeId}{w:World}{v:Value}{xs:List α}
  (h:dX n c S B e w v xs)(p:∀b,b<w.heap.size->S b->T b)(q:∀b,v.ownBlock=some b->T b):fC n (c T) T w v xs:=by
 obtain⟨k,⟨E,r⟩,F,d,s⟩:=h;rcases r with⟨rfl,t⟩|⟨g,cap,f,rfl,l,u,y,z,G,A⟩
 ·obtain rfl:xs=[]:=zxh t
  exact fC.nil _ _ _ w
 ·refine⟨some ⟨g,0,none⟩,cap,rfl,fun _=>⟨g,0,rfl⟩,y,z,fun _=>q g rfl,fun j C=>⟨k[j]' aD,d _ (eV _),fun i x hx=>?_,o.mono (s j aD C) (fun b a l=>p b a l.1)⟩⟩
  have D:i<n:=by
   have m:=(zxu.1 hx).1;rw[d _ (eV _)] at m;exact m
  have a:j*n+i<xs.length*n:=by
   exact amc
  rw[fK,fL,zxn,cell_of_row w g _ f e (0,0) u,<-hx,<-uY k j aD i d D,<-A,zxz,if_pos a];simp
theorem dX.form{α:Type}{n:Nat}{b:(Nat->Prop)->World->List Value->α->Prop}{S:Nat->Prop}{B:Nat}{e:TypeId}{w:World}{v:Value}{xs:List α}(h:dX n b S B e w v xs):
  ∃a cap,v=.slice a xs.length cap/\dV a xs.length/\xs.length<=cap/\cap<=9223372036854775807:=by
 obtain⟨k,⟨l,c⟩,m,o,p⟩:=h;rcases c with⟨rfl,d⟩|⟨g,cap,f,rfl,q,r,i,j,s,t⟩
 ·obtain rfl:xs=[]:=zxh d
  exact⟨none,0,rfl,fun h=>absurd h bH,aL,aD⟩
 ·exact⟨_,cap,rfl,fun _=>⟨g,0,rfl⟩,i,j⟩
theorem dX.ah9{α:Type}{n:Nat}{d:(Nat->Prop)->World->List Value->α->Prop}(p:dM d){S:Nat->Prop}{B:Nat}{e:TypeId}{w w0 w':World}{v g:Value}{xs ys:List α}{c Fe:List (List Value)}
  (y:c.length=xs.length)(C:∀f∈c,f.length=n)(D:∀j (i:j<c.length) (k:j<xs.length),d (fun b=>S b/\some b≠v.ownBlock) w c[j] xs[j])
  (q:Fe.length=ys.length) (r:∀f∈Fe,f.length=n) (s:∀j (i:j<Fe.length) (k:j<ys.length),d (fun b=>S b/\some b≠v.ownBlock) w Fe[j] ys[j]) (z:BL w w0)
  (l:w'.ownsRow B e n g (xs.length+ys.length) (c.flatten++Fe.flatten))(E:w0.grownBy w' v.ownBlock)(m:g.ownBlock=v.ownBlock\/g.ownBlock=some w0.heap.size):dX n d S B e w' g (xs++ys):=by
 have key:∀{u x},d (fun b=>S b/\some b≠v.ownBlock) w u x->d (fun b=>S b/\some b≠g.ownBlock) w' u x:=by
  intro u x h;have hsz:=z.size;have i:=p.mono (S':=fun b=>(S b/\some b≠v.ownBlock)/\b<w.heap.size) h (fun b t a=>⟨a,t⟩);have k:=p.keep (w':=w') i (fun b a _=>(E.block b aD a.1.2).trans (z.block b a.2));refine p.mono k (fun b _ a=>⟨a.1.1,?_⟩);rcases m with m|m
  ·rw[m];exact a.1.2
  ·rw[m];intro F;have:=oO F;omega
 refine⟨c++Fe,by simpa using l,by simp[y,q],fun f o=>?_,fun j i k=>?_⟩
 ·rcases zxx.1 o with o|o
  ·exact C f o
  ·exact r f o
 by_cases A:j<c.length
 ·rw[Xi A,Xi aD]
  exact key (D j A aD)
 ·rw[rK] at i k
  rw[zAr aD,zAr aD];simp only[y];exact key (s _ aD aD)
section
variable {P:Program} {w:World} {t e:TypeId} {n bytes:Nat} {ops:Array Oper} {rest:List Oper} {o:Oper} {a:Act} {Q:Exit->Act->World->Prop} {α:Type} {RR:(Nat->Prop)->World->List Value->α->Prop}
theorem d9(A:dM RR)(k:o.guard=none)(s x:Operand)
  (C:o.op=.call {callee:=.builtin .append,args:=#[s,x],argTypes:=#[t,t]})(D:kF P t e n bytes)
  {S:Nat->Prop}{B:Nat}{v:Value}{xs:List α}(E:a.eval s=v)(g:dX n RR S B e w v xs)
  {us:List Value}{cs:Array Value}{l:TypeId}(hx:a.eval x=.slice (some ⟨w.heap.size,0,none⟩) 1 1)(m:cs=us.toArray)(q:us.length=n)(y:α)(F:RR (fun b=>S b/\some b≠v.ownBlock) w us y)(h1:∀u∈us,u.oneCell'=true)
  (c:xs.length+1<=1000000000)(p:B<=w.heap.size)
  (h:∀d i,dX n RR S B e i d (xs++[y])->Turns (fun b=>some b=v.ownBlock) w i->(d.ownBlock=v.ownBlock\/∃b,d.ownBlock=some b/\w.heap.size<=b)->wpList P ops Q rest (a.put o.dst d) i):
  wpList P ops Q (o::rest) a (w.alloc (.cells cs l)):=by
 subst m;obtain⟨M,G,H,I,J⟩:=g;have r:BL w (w.alloc (.cells us.toArray l)):=aG.alloc aL _;refine amL k s x C D E (G.alloc _) _ 1 1 hx (fun _=>⟨_,_,rfl⟩) us (by simp[q]) (by simpa using iR w us.toArray l) h1 c jo (fun d i g1 z f=>?_);refine h d i (dX.ah9 A H I J (Fe:=[us]) (ys:=[y]) rfl (by simp[q]) (fun j K N=>?_) r WU z f) ?_ ?_
 ·obtain rfl:j=0:=by simpa using K
  exact F
 ·exact(Turns.bg r).trans (Turns.gy z (fun b L=>L.symm))
 ·rcases f with f|f
  ·exact .inl f
  ·exact .inr ⟨_,f,bH⟩
theorem jq(R:dM RR)(F:o.guard=none)(s x:Operand)
  (ho:o.op=.call {callee:=.builtin .append,args:=#[s,x],argTypes:=#[t,t]})(hT:kF P t e n bytes)
  {S T T':Nat->Prop} {B:Nat} {v xv:Value} {xs ys:List α} (hs:a.eval s=v) (z:dX n RR S B e w v xs)
  (hx:a.eval x=xv)(hy:fC n (RR T) T' w xv ys)(G:∀b,b<w.heap.size->T b->S b/\some b≠v.ownBlock)(h1:∀d (y:α),RR T w d y->∀u∈d,u.oneCell'=true)
  (k:xs.length+ys.length<=1000000000)(l:B<=w.heap.size)
  (h:∀q A,dX n RR S B e A q (xs++ys)->Turns (fun b=>some b=v.ownBlock) w A->(q.ownBlock=v.ownBlock\/∃b,q.ownBlock=some b/\w.heap.size<=b)->wpList P ops Q rest (a.put o.dst q) A):
  wpList P ops Q (o::rest) a w:=by
 obtain⟨mX,h2,h3,h5,h4⟩:=z;obtain⟨C,cap,rfl,H,U,V,aa,m⟩:=hy
 obtain⟨c,D,g,I⟩:∃c:List (List Value),c.length=ys.length/\(∀d∈c,d.length=n)/\
   ∀j (J:j<c.length) (E:j<ys.length),(∀i u,(c[j])[i]?=some u->w.cell? ⟨bM C,bT C+j*n+i,none⟩=some u)/\RR T w c[j] ys[j]:=by
  have K:∀j:Nat,∃d:List Value,∀hj:j<ys.length,d.length=n/\(∀i u,d[i]?=some u->w.cell? ⟨bM C,bT C+j*n+i,none⟩=some u)/\RR T w d ys[j]:=fun j=>by
   by_cases hj:j<ys.length
   ·obtain⟨d,q1,q2,q3⟩:=m j hj
    exact⟨d,fun _=>⟨q1,q2,q3⟩⟩
   ·exact⟨[],fun h=>absurd h hj⟩
  obtain⟨f,W⟩:=Classical.axiomOfChoice K;refine⟨(List.range ys.length).map f,bH,fun d L=>?_,fun j J E=>?_⟩
  ·obtain⟨j,hj,rfl⟩:=List.mem_map.1 L
   exact(W j BI).1
  ·have:=W j E
   simp only[zxo,zxy];exact⟨this.2.1,this.2.2⟩
 refine amL F s x ho hT hs h2 C ys.length cap hx H c.flatten (by rw[yA c g,D]) (fun j u p=>?_) (fun u hu=>?_) k l (fun q A J E r=>?_)
 ·rcases Nat.eq_zero_or_pos n with M|M
  ·exfalso
   subst M;have N:=(zxu.1 p).1;rw[yA c g] at N;omega
  have O:j<c.length*n:=by
   have N:=(zxu.1 p).1;rwa [yA c g] at N
  have X:j / n<c.length:=Nat.div_lt_of_lt_mul (by rw[Nat.mul_comm];exact O);have hm:j % n<n:=Nat.mod_lt _ M;have Y:j / n*n+j % n=j:=by rw[Nat.mul_comm];exact Nat.div_add_mod j n
  have Z:=uY c (j / n) X (j % n) g hm;rw[Y,p] at Z;have h9:=(I (j / n) X aD).1 (j % n) u Z.symm;rw[Nat.add_assoc,Y] at h9;exact h9
 ·obtain⟨d,L,og⟩:=List.mem_flatten.1 hu
  obtain⟨j,hj,rfl⟩:=zxf L;exact h1 _ _ (I j hj aD).2 u og
 ·refine h q A (dX.ah9 R h3 h5 h4 D g (fun j j1 j2=>R.mono (I j j1 j2).2 G) aG J E r) (Turns.gy E (fun b hb=>hb.symm)) ?_
  rcases r with r|r
  ·exact .inl r
  ·exact .inr ⟨_,r,aL⟩
end
theorem wC{w:World}{base size:Nat}{e:TypeId}{g n cap:Nat}{us:List Value}(h:w.ownsRow base e size (.slice (some ⟨g,0,none⟩) n cap) n us)(j:Nat)(u:Value):
  (w.setCell ⟨g,j,none⟩ u).ownsRow base e size (.slice (some ⟨g,0,none⟩) n cap) n (us.set j u):=by
 exact adE
theorem dX.put{α:Type}{n:Nat}{d:(Nat->Prop)->World->List Value->α->Prop}(f:dM d){S:Nat->Prop}{B:Nat}{e:TypeId}{w:World}{g m cap:Nat}{xs:List α}
  (h:dX n d S B e w (.slice (some ⟨g,0,none⟩) m cap) xs)(u:m=xs.length){j i:Nat}(v:j<xs.length)(z:i<n)(y:α)(x:Value)
  (A:∀l,d (fun b=>S b/\b≠g) w l xs[j]->d (fun b=>S b/\b≠g) w (l.set i x) y):
  dX n d S B e (w.setCell ⟨g,j*n+i,none⟩ x) (.slice (some ⟨g,0,none⟩) m cap) (xs.set j y):=by
 subst u;obtain⟨o,C,D,p,r⟩:=h
 have a:aH (fun b=>S b/\some b≠(Value.slice (some ⟨g,0,none⟩) xs.length cap).ownBlock) w (w.setCell ⟨g,j*n+i,none⟩ x):=fun b c _=>
  mO _ _ _ _ (fun e=>c.2 zS)
 refine⟨o.set j ((o[j]' aD).set i x),?_,by simp[D],fun l q=>?_,fun k s t=>?_⟩
 ·rw[Kn o j aD i x p z,zxl]
  exact wC C _ _
 ·rcases List.mem_or_eq_of_mem_set q with q|rfl
  ·exact p _ q
  ·rw[zxl];exact p _ (eV _)
 ·rw[zxl] at s t
  by_cases e:j=k
  ·subst e
   simp only[List.getElem_set_self];have E:=A _ (f.mono (r j aD v) (fun b _ c=>⟨c.1,fun e=>c.2 zS⟩));exact f.keep (f.mono E (fun b _ c=>⟨c.1,fun e=>c.2 (oO e)⟩)) a
  ·simp only[List.getElem_set_ne e]
   exact f.keep (r k s t) a
theorem aP{w:World}{F:Nat}{cs:Array Value}{t:TypeId}(h:w.heap[F]?=some (.cells cs t (0,0)))(i:Nat):w.cell? ⟨F,i,none⟩=cs[i]?:=by simp[World.cell?,h]
theorem fM{w:World}{F:Nat}{cs:Array Value}{t:TypeId}(h:w.heap[F]?=some (.cells cs t (0,0)))(i:Nat):w.frozen? ⟨F,i,none⟩=false:=by simp[World.frozen?,h]
theorem aI{w:World}{F:Nat}{o:Obj}(h:w.heap[F]?=some o):F<w.heap.size:=(zxd.1 h).1
theorem ez{w:World}{F:Nat}{a b c d e f g j:Value}{t:TypeId}(h:w.heap[F]?=some (.cells #[a,b,c,d,e,f,g,j] t (0,0))):
  (w.cell? ⟨F,0,none⟩=some a/\w.cell? ⟨F,1,none⟩=some b/\w.cell? ⟨F,2,none⟩=some c/\w.cell? ⟨F,3,none⟩=some d/\w.cell? ⟨F,4,none⟩=some e/\w.cell? ⟨F,5,none⟩=some f/\w.cell? ⟨F,6,none⟩=some g/\w.cell? ⟨F,7,none⟩=some j)/\∀i,w.frozen? ⟨F,i,none⟩=false:=
 ⟨⟨aP h 0,aP h 1,aP h 2,aP h 3,aP h 4,aP h 5,aP h 6,aP h 7⟩,fM h⟩
theorem bF{w:World}{F:Nat}{a b c d:Value}{t:TypeId}(h:w.heap[F]?=some (.cells #[a,b,c,d] t (0,0))):
  (w.cell? ⟨F,0,none⟩=some a/\w.cell? ⟨F,1,none⟩=some b/\w.cell? ⟨F,2,none⟩=some c/\w.cell? ⟨F,3,none⟩=some d)/\∀i,w.frozen? ⟨F,i,none⟩=false:=
 ⟨⟨aP h 0,aP h 1,aP h 2,aP h 3⟩,fM h⟩
def jX(F:Nat)(cs:Array Value)(t:TypeId)(W:World):Prop:=W.heap[F]?=some (.cells cs t (0,0))
theorem Turns.into{S T:Nat->Prop}{w w1 w2:World}(h:Turns S w w1)(k:Turns T w1 w2)(d:∀x,x<w.heap.size->T x->S x):Turns S w w2:=
 ⟨k.os.trans h.os,k.tape.trans h.tape,k.output.trans h.output,zxb h.size k.size,fun b c a=>(k.block b (fun e=>c (d b a e)) (oN a h.size)).trans (h.block b c a)⟩
theorem Turns.alloc{S:Nat->Prop}{w w1:World}(h:Turns S w w1)(o:Obj):Turns S w (w1.alloc o):=h.trans (Turns.bg (aG.alloc aL _))
theorem Turns.setCell_new{S:Nat->Prop}{w w1:World}(h:Turns S w w1)(a:Addr)(v:Value)(b:w.heap.size<=a.block):Turns S w (w1.setCell a v):=
 h.into ((Turns.refl (·=a.block) w1).setCell a v rfl) (fun x hx e=>by omega)
theorem Turns.drewN{S:Nat->Prop}{w w1:World}(h:Turns S w w1)(n:Nat):Turns S w (w1.drewN n):=⟨h.os,h.tape,h.output,h.size,h.block⟩
theorem bp.sN{S:Nat->Prop}{w:World}{v:Value}{xs:List Int}(h:bp S w v xs)(h0:0<xs.length):
  ∃g cap,v=.slice (some ⟨g,0,none⟩) xs.length cap/\S g/\g<w.heap.size/\∀j (_:j<xs.length),(∃x,w.cell? ⟨g,j,none⟩=some (.int .i64 x))/\w.frozen? ⟨g,j,none⟩=false:=by
 obtain⟨g,cap,rfl,d,e,f,a⟩:=gU h.1 h0;refine⟨g,cap,rfl,h.2 g rfl,(h.1.lt g rfl).2,fun j hj=>?_⟩;obtain⟨b,c⟩:=a j BI;exact⟨⟨xs[j],by simpa using b⟩,c⟩
theorem amq(h:p:=by
  subst hn
  refine⟨?_,h.2⟩
  rw[zxl,List.map_set]
  exact tJ h.1 j _):p:=h
theorem bp.set{S:Nat->Prop}{w:World}{g n cap:Nat}{xs:List Int}(h:bp S w (.slice (some ⟨g,0,none⟩) n cap) xs)(hn:n=xs.length)(j:Nat)(x:Int):
  bp S (w.setCell ⟨g,j,none⟩ (.int .i64 x)) (.slice (some ⟨g,0,none⟩) n cap) (xs.set j x):=by
 exact amq
theorem Ko{W:World}{K:Nat}{e f g i:Value}{t:TypeId}(h:W.heap[K]?=some (.cells #[e,f,g,i] t (0,0)))(a b c d:Value):
  ((((W.setCell ⟨K,0,none⟩ a).setCell ⟨K,1,none⟩ b).setCell ⟨K,2,none⟩ c).setCell ⟨K,3,none⟩ d).heap[K]?=some (.cells #[a,b,c,d] t (0,0))/\
   Turns (·=K) W ((((W.setCell ⟨K,0,none⟩ a).setCell ⟨K,1,none⟩ b).setCell ⟨K,2,none⟩ c).setCell ⟨K,3,none⟩ d):=
 ⟨heap_setCell_same _ K 3 _ _ d (heap_setCell_same _ K 2 _ _ c (heap_setCell_same _ K 1 _ _ b (heap_setCell_same _ K 0 _ _ a h))),
  ((((Turns.refl (·=K) W).setCell ⟨K,0,none⟩ a rfl).setCell ⟨K,1,none⟩ b rfl).setCell ⟨K,2,none⟩ c rfl).setCell ⟨K,3,none⟩ d rfl⟩
theorem dX.sN{α:Type}{n:Nat}{f:(Nat->Prop)->World->List Value->α->Prop}{S:Nat->Prop}{B:Nat}{e:TypeId}{w:World}{a:Option Addr}{m c:Nat}{xs:List α}(h:dX n f S B e w (.slice a m c) xs)(h0:0<xs.length):
  ∃g,a=some ⟨g,0,none⟩/\m=xs.length/\B<=g/\g<w.heap.size/\∀i,w.frozen? ⟨g,i,none⟩=false:=by
 obtain⟨p,⟨q,j⟩,r,s,t⟩:=h;rcases j with⟨b,k⟩|⟨g,cap,l,b,o,d,u,v,x,y⟩
 ·cases b;omega
 ·cases b
  exact⟨g,rfl,rfl,o,aI d,fM d⟩
theorem qE{W:World}{F y:Nat}(_:Unit)(h:y≠F)(a b c d e f g i:Value):
  ((((((((W.setCell ⟨F,0,none⟩ a).setCell ⟨F,1,none⟩ b).setCell ⟨F,2,none⟩ c).setCell ⟨F,3,none⟩ d).setCell ⟨F,4,none⟩ e).setCell ⟨F,5,none⟩ f).setCell ⟨F,6,none⟩ g).setCell ⟨F,7,none⟩ i).heap[y]?=W.heap[y]?:=by
 rw[mO _ ⟨F,7,none⟩ _ y h,mO _ ⟨F,6,none⟩ _ y h,mO _ ⟨F,5,none⟩ _ y h,mO _ ⟨F,4,none⟩ _ y h,mO _ ⟨F,3,none⟩ _ y h,mO _ ⟨F,2,none⟩ _ y h,
  mO _ ⟨F,1,none⟩ _ y h,mO _ ⟨F,0,none⟩ _ y h]
theorem dX.at{α:Type}{n:Nat}{o:(Nat->Prop)->World->List Value->α->Prop}{S:Nat->Prop}{B:Nat}{e:TypeId}{w:World}{g m c:Nat}{xs:List α}(h:dX n o S B e w (.slice (some ⟨g,0,none⟩) m c) xs){j:Nat}(r:j<xs.length):
  ∃a:List Value,a.length=n/\(∀i u,a[i]?=some u->w.cell? ⟨g,j*n+i,none⟩=some u)/\o (fun b=>S b/\b≠g) w a xs[j]:=by
 obtain⟨p,⟨C,s⟩,D,d,t⟩:=h;rcases s with⟨f,E⟩|⟨F,cap,k,f,G,v,H,I,J,y⟩
 ·cases f
 ·cases f
  refine⟨p[j]' aD,d _ (eV _),fun i x hx=>?_,?_⟩
  ·have z:i<n:=by
    have q:=(zxu.1 hx).1
    rw[d _ (eV _)] at q
    exact q
   have l:j*n+i<xs.length*n:=by
    exact amc
   rw[cell_of_row w g _ k e (0,0) v,<-hx,<-uY p j aD i d z,<-y,zxz,if_pos l];simp
  ·have:=t j aD r
   have A:(fun b=>S b/\some b≠(Value.slice (some ⟨g,0,none⟩) xs.length c).ownBlock)=fun b=>S b/\b≠g:=by
    funext b;simp[Value.ownBlock]
   rw[A] at this;exact this
theorem dX.CF{α:Type}{n:Nat}{a:(Nat->Prop)->World->List Value->α->Prop}{S:Nat->Prop}{B:Nat}{e:TypeId}{w:World}{g:Nat}(h:w.heap[g]?=some (.cells #[] e (0,0)))(hB:B<=g):dX (α:=α) n a S B e w (.slice (some ⟨g,0,none⟩) 0 0) []:=
 ⟨[],⟨bH,.inr ⟨g,0,#[],rfl,hB,h,aL,Wy,bH,bH⟩⟩,rfl,bH,fun j h=>absurd h bH⟩
theorem dX.free{α:Type}{n:Nat}{b:(Nat->Prop)->World->List Value->α->Prop}{S:Nat->Prop}{B:Nat}{e:TypeId}{w:World}{g m c:Nat}{xs:List α}(h:dX n b S B e w (.slice (some ⟨g,0,none⟩) m c) xs):
  ∀i,w.frozen? ⟨g,i,none⟩=false:=by
 obtain⟨l,⟨o,d⟩,p,q,r⟩:=h;rcases d with⟨a,f⟩|⟨s,cap,j,a,t,k,u,v,x,y⟩
 ·cases a
 ·cases a
  exact fM k
theorem nO{w:World}{F:Nat}{a b c d e:Value}{t:TypeId}(h:w.heap[F]?=some (.cells #[a,b,c,d,e] t (0,0))):
  (w.cell? ⟨F,0,none⟩=some a/\w.cell? ⟨F,1,none⟩=some b/\w.cell? ⟨F,2,none⟩=some c/\w.cell? ⟨F,3,none⟩=some d/\w.cell? ⟨F,4,none⟩=some e)/\∀i,w.frozen? ⟨F,i,none⟩=false:=
 ⟨⟨aP h 0,aP h 1,aP h 2,aP h 3,aP h 4⟩,fM h⟩
theorem abD{W:World}{K:Nat}{f g i j k:Value}{t:TypeId}(h:W.heap[K]?=some (.cells #[f,g,i,j,k] t (0,0)))(a b c d e:Value):
  (((((W.setCell ⟨K,0,none⟩ a).setCell ⟨K,1,none⟩ b).setCell ⟨K,2,none⟩ c).setCell ⟨K,3,none⟩ d).setCell ⟨K,4,none⟩ e).heap[K]?=some (.cells #[a,b,c,d,e] t (0,0))/\
   Turns (·=K) W (((((W.setCell ⟨K,0,none⟩ a).setCell ⟨K,1,none⟩ b).setCell ⟨K,2,none⟩ c).setCell ⟨K,3,none⟩ d).setCell ⟨K,4,none⟩ e):=
 ⟨heap_setCell_same _ K 4 _ _ e (heap_setCell_same _ K 3 _ _ d (heap_setCell_same _ K 2 _ _ c (heap_setCell_same _ K 1 _ _ b (heap_setCell_same _ K 0 _ _ a h)))),
  (((((Turns.refl (·=K) W).setCell ⟨K,0,none⟩ a rfl).setCell ⟨K,1,none⟩ b rfl).setCell ⟨K,2,none⟩ c rfl).setCell ⟨K,3,none⟩ d rfl).setCell ⟨K,4,none⟩ e rfl⟩
theorem aH.iJ{S T:Nat->Prop}{w w':World}(h:Turns T w w')(c:∀x,S x->¬T x):aH S w w':=fun b d a=>h.block b (c b d) a
theorem Kq{W:World}{K:Nat}{q p o m k i f d:Value}{t:TypeId}(h:W.heap[K]?=some (.cells #[q,p,o,m,k,i,f,d] t (0,0)))(a b c e g j l n:Value):
  ((((((((W.setCell ⟨K,0,none⟩ a).setCell ⟨K,1,none⟩ b).setCell ⟨K,2,none⟩ c).setCell ⟨K,3,none⟩ e).setCell ⟨K,4,none⟩ g).setCell ⟨K,5,none⟩ j).setCell ⟨K,6,none⟩ l).setCell ⟨K,7,none⟩ n).heap[K]?=some (.cells #[a,b,c,e,g,j,l,n] t (0,0))/\
   Turns (·=K) W ((((((((W.setCell ⟨K,0,none⟩ a).setCell ⟨K,1,none⟩ b).setCell ⟨K,2,none⟩ c).setCell ⟨K,3,none⟩ e).setCell ⟨K,4,none⟩ g).setCell ⟨K,5,none⟩ j).setCell ⟨K,6,none⟩ l).setCell ⟨K,7,none⟩ n):=by
 have r:=heap_setCell_same W K 0 #[q,p,o,m,k,i,f,d] t a h;have s:=heap_setCell_same _ K 1 #[a,p,o,m,k,i,f,d] t b r;have u:=heap_setCell_same _ K 2 #[a,b,o,m,k,i,f,d] t c s;have v:=heap_setCell_same _ K 3 #[a,b,c,m,k,i,f,d] t e u;have w:=heap_setCell_same _ K 4 #[a,b,c,e,k,i,f,d] t g v;have x:=heap_setCell_same _ K 5 #[a,b,c,e,g,i,f,d] t j w;have y:=heap_setCell_same _ K 6 #[a,b,c,e,g,j,f,d] t l x;have z:=heap_setCell_same _ K 7 #[a,b,c,e,g,j,l,d] t n y;refine⟨z,?_⟩;have A:=(((Turns.refl (·=K) W).setCell ⟨K,0,none⟩ a rfl).setCell ⟨K,1,none⟩ b rfl).setCell ⟨K,2,none⟩ c rfl;have B:=(A.setCell ⟨K,3,none⟩ e rfl).setCell ⟨K,4,none⟩ g rfl;exact((B.setCell ⟨K,5,none⟩ j rfl).setCell ⟨K,6,none⟩ l rfl).setCell ⟨K,7,none⟩ n rfl
theorem b4z{w:World}{F:Nat}{a b c d:Value}{t:TypeId}(h:w.heap[F]?=some (.cells #[a,b,c,d] t (0,0))):w.cell? ⟨F,0,none⟩=some a/\w.cell? ⟨F,1,none⟩=some b/\w.cell? ⟨F,2,none⟩=some c/\w.cell? ⟨F,3,none⟩=some d:=(bF h).1
theorem eC(w:World)(p:Addr)(v:Value)(h:∀a:Held (BL w),a.1.cell? p=some v):∀a:Held (BL w),a.1.cell? p=some v:=h
theorem VT{w:World}{b:Nat}{c d e f:Value}{t:TypeId}(h:∀V,Below w.heap.size w V->V.heap[b]?=some (.cells #[c,d,e,f] t (0,0))):(∀a:Held (BL w),a.1.cell? ⟨b,0,none⟩=some c)/\(∀a:Held (BL w),a.1.cell? ⟨b,1,none⟩=some d)/\(∀a:Held (BL w),a.1.cell? ⟨b,2,none⟩=some e)/\(∀a:Held (BL w),a.1.cell? ⟨b,3,none⟩=some f):=⟨fun a=>(bF (h a.1 a.2)).1.1,fun a=>(bF (h a.1 a.2)).1.2.1,fun a=>(bF (h a.1 a.2)).1.2.2.1,fun a=>(bF (h a.1 a.2)).1.2.2.2⟩
theorem zV{α:Type}{R:World->Value->α->Prop}{S:Nat->Prop}{w:World}{g:Nat}{vs:List Value}{xs:List α}{t:TypeId}(b:w.heap[g]?=some (.cells vs.toArray t (0,0))){m:Nat}(hx:xs.length=m)(c:vs.length=xs.length)(f:xs.length<=1000)(d:S g)
  (e:∀j (h:j<vs.length) (i:j<xs.length),R w vs[j] xs[j]):eA R S w (.slice (some ⟨g,0,none⟩) m m) xs:=by
 subst hx;refine⟨some ⟨g,0,none⟩,xs.length,rfl,fun _=>⟨_,_,rfl⟩,aL,Wy,fun _=>d,fun j a=>⟨vs[j]' aD,?_,e j aD a⟩⟩;show w.cell? ⟨g,0+j,none⟩=_
 rw[zxn,aP b];simp[c,a]
theorem FY{α:Type}{n:Nat}{R:World->List Value->α->Prop}{S:Nat->Prop}{w:World}{g:Nat}(a:List (List Value)){xs:List α}{t:TypeId}(e:w.heap[g]?=some (.cells a.flatten.toArray t (0,0))){m:Nat}(hx:xs.length=m)(p:a.length=xs.length)(c:∀f∈a,f.length=n)(q:xs.length<=1000)(h:S g)
  (k:∀j (r:j<a.length) (s:j<xs.length),R w a[j] xs[j]):fC n R S w (.slice (some ⟨g,0,none⟩) m m) xs:=by
 subst hx;refine⟨some ⟨g,0,none⟩,xs.length,rfl,fun _=>⟨_,_,rfl⟩,aL,Wy,fun _=>h,fun j l=>⟨a[j]' aD,c _ (eV _),fun i u d=>?_,k j aD l⟩⟩;have b:j<a.length:=aD
 have o:i<n:=by
  have:=(zxu.1 d).1;rw[c _ (eV b)] at this;exact this
 show w.cell? ⟨g,0+j*n+i,none⟩=_
 rw[zxn,aP e,List.getElem?_toArray,uY a j b i c o];exact d
end Go.Proofs.YtohddpbgflgiaaaGreatDoor
