/- Part 3 of the walks and plain laws that the proof needs (packed). -/
import Derived.Test.YtibacilhkciihaaGreatDoorRows
import Derived.WalkKit
import Derived.WalkSpells
import Derived.WalkLawsBesides
import Derived.BigQuiet
import Derived.Deep.QuietTactic
import Derived.StillTail
import Derived.RangeFuncNested
import Derived.RangeFuncBound
import Derived.RangeFuncCalls
import Derived.RangeFuncLeaves
import Derived.OwnWalkIn
import Derived.TacticsInMore
import Derived.LoopNIn
import Derived.LoopIn
import Derived.Test.YtibacilhkciihaaGreatDoorQ1
set_option linter.all false
set_option maxRecDepth 100000
set_option maxHeartbeats 8000000
namespace Go.Proofs.YtibacilhkciihaaGreatDoor
open Go.RowKit
theorem hid{p:Prop}(h:p):Hid p:=h
abbrev BL(w x:World):Prop:=Below w.heap.size w x
theorem bB{A:Sort _}(e:A):∃n,n=e:=⟨_,rfl⟩
theorem cG{w v x:World}(h:Below w.heap.size w v)(g:Below v.heap.size v x):Below w.heap.size w x:=h.trans (g.mono h.size)
theorem oL:Tryz.prog.follows .mixedOrders=true:=by kernel_rfl
abbrev CP(f:FuncId)(a:Array Value)(X:World)(R:Ending->World->Prop):Prop:=Calls Tryz.prog f a X R
abbrev CB(f:FuncId)(a:Array Value)(X:World)(v:Value):Prop:=Calls Tryz.prog f a X fun e w'=>e=.returned v/\Below X.heap.size X w'
theorem aF{N:Nat}{w:World}:Below N w w:=Below.refl N w
theorem aH{n:Nat}:n<=n:=Nat.le_refl n
theorem aU{w v x:World}(h:Hid (BL w v))(g:BL v x):Hid (BL w x):=hid (cG h.out g)
theorem OH{a b:Int}(h:a=b):(a !=b)=false:=lD
theorem GL{a b:Int}(h:a≠b):(a !=b)=true:=lD
theorem Lx{a b:Int}(h:a=b):(a==b)=true:=lD
theorem nU{a b:Int}(h:a≠b):(a==b)=false:=lD
def bL(a:Option Addr):Nat:=(a.getD ⟨0,0,none⟩).block
def bP(a:Option Addr):Nat:=(a.getD ⟨0,0,none⟩).off
@[simp,go_sem] theorem fZ (b o:Nat) (s:Option Nat):bL (some ⟨b,o,s⟩)=b:=rfl
@[simp,go_sem] theorem f9 (b o:Nat) (s:Option Nat):bP (some ⟨b,o,s⟩)=o:=rfl
def dX(a:Option Addr)(n:Nat):Prop:=0<n->∃b o,a=some ⟨b,o,none⟩
@[go_sem] theorem NQ {P:Program} (w:World) (t:TypeId) (a:Option Addr) (len cap:Nat) (k:IntKind) (i:Int)
  (h:P.underlying t=some (.slice (P.elem t)))(hok:dX a len)(h0:0<=i)(h1:i<len):
  (Instr.indexAt t (.slice a len cap) (.int k i)).run P w=
   ((sizeOf (P.elem t)).run P w).andThen fun s w=>.ok (.pointer (some ⟨bL a,bP a+i.toNat*s,none⟩)) w:=by
 obtain⟨b,o,rfl⟩:=hok aB;rw[run_indexAt_slice w t _ len cap k i h,if_pos ⟨h0,h1⟩];simp[Addr.add_lit]
def aD(S:Nat->Prop)(w w':World):Prop:=∀b,S b->b<w.heap.size->w'.heap[b]?=w.heap[b]?
theorem aD.aS{S:Nat->Prop}{w w':World}{B:Nat}(h:Below B w w')(hS:∀b,S b->b<B):aD S w w':=fun b hb _=>h.block b (hS b hb)
theorem aD.below{S:Nat->Prop}{w w':World}(h:BL w w'):aD S w w':=fun b _ hlt=>h.block b hlt
def eU{α:Type}(R:World->Value->α->Prop)(S:Nat->Prop)(w:World)(v:Value)(xs:List α):Prop:=
 ∃a cap,v=.slice a xs.length cap/\dX a xs.length/\xs.length<=cap/\cap<=maxLen/\(0<xs.length->S (bL a))/\
  ∀j (h:j<xs.length),∃u,w.cell? ⟨bL a,bP a+j,none⟩=some u/\R w u xs[j]
theorem eU.keep{α:Type}{R:World->Value->α->Prop}{S:Nat->Prop}{w w':World}{v:Value}{xs:List α}
  (h:eU R S w v xs)(hk:aD S w w')(hR:∀u x,R w u x->R w' u x):eU R S w' v xs:=by
 obtain⟨a,cap,rfl,h1,h2,h3,h4,h5⟩:=h;refine⟨a,cap,rfl,h1,h2,h3,h4,fun j hj=>?_⟩;obtain⟨u,hu,hr⟩:=h5 j hj;refine⟨u,?_,hR _ _ hr⟩;rw[World.cell?_of_block (w:=w) (a:=⟨bL a,bP a+j,none⟩) (hk _ (h4 aB) (World.block_lt_of_cell? w ⟨bL a,bP a+j,none⟩ hu))];exact hu
theorem eU.mono{α:Type}{R R':World->Value->α->Prop}{S S':Nat->Prop}{w:World}{v:Value}{xs:List α}
  (h:eU R S w v xs)(hS:∀b,b<w.heap.size->S b->S' b)(hR:∀u x,R w u x->R' w u x):eU R' S' w v xs:=by
 obtain⟨a,cap,rfl,h1,h2,h3,h4,h5⟩:=h;refine⟨a,cap,rfl,h1,h2,h3,fun h0=>?_,fun j hj=>?_⟩
 ·obtain⟨u,hu,_⟩:=h5 0 h0
  exact hS _ (World.block_lt_of_cell? w ⟨bL a,bP a+0,none⟩ hu) (h4 h0)
 ·obtain⟨u,hu,hr⟩:=h5 j hj
  exact⟨u,hu,hR _ _ hr⟩
theorem eU.nil{α:Type}(R:World->Value->α->Prop)(S:Nat->Prop)(w:World):eU R S w (.slice none 0 0) []:=
 ⟨none,0,rfl,fun h=>absurd h bp,aH,Nat.zero_le _,fun h=>absurd h bp,fun j h=>absurd h bp⟩
abbrev bq(S:Nat->Prop):=eU (fun _ u (x:Int)=>u=.int .i64 x) S
abbrev dr(S:Nat->Prop):=eU (bq S) S
abbrev bN(S:Nat->Prop):=eU (dr S) S
abbrev nV:Nat->Prop:=fun _=>True
theorem bq.keep{S w w' v xs}(h:bq S w v xs)(hk:aD S w w'):bq S w' v xs:=eU.keep h hk fun _ _ h=>h
theorem dr.keep{S w w' v xs}(h:dr S w v xs)(hk:aD S w w'):dr S w' v xs:=eU.keep h hk fun _ _ h=>bq.keep h hk
theorem bN.keep{S w w' v xs}(h:bN S w v xs)(hk:aD S w w'):bN S w' v xs:=eU.keep h hk fun _ _ h=>dr.keep h hk
theorem bq.mono{S S' w v xs}(h:bq S w v xs)(hS:∀b,b<w.heap.size->S b->S' b):bq S' w v xs:=eU.mono h hS fun _ _ h=>h
theorem dr.mono{S S' w v xs}(h:dr S w v xs)(hS:∀b,b<w.heap.size->S b->S' b):dr S' w v xs:=eU.mono h hS fun _ _ h=>bq.mono h hS
theorem bN.mono{S S' w v xs}(h:bN S w v xs)(hS:∀b,b<w.heap.size->S b->S' b):bN S' w v xs:=eU.mono h hS fun _ _ h=>dr.mono h hS
def around(n most:Int):Int:=if most<1 then 0 else (if n<0 then -(n+1) else n) % most
theorem GN{n most:Int}(h3:1<=most)(hn:n<0): -((n+1).tmod most)=around n most:=by
 unfold around;rw[if_neg aB,if_pos hn,<-Int.neg_tmod,Int.tmod_eq_emod_of_nonneg aB]
theorem GP{n most:Int}(h3:1<=most)(hn:0<=n):n % most=around n most:=by
 unfold around;rw[if_neg aB,if_neg aB]
theorem tN(n most:Int)(h3:1<=most):0<=around n most/\around n most<most:=by
 unfold around;rw[if_neg aB];exact⟨Int.emod_nonneg _ aB,Int.emod_lt_of_pos _ aB⟩
theorem fV{k:IntKind}{a b:Int}(h:a=b):Ending.returned (.int k a)=.returned (.int k b):=by rw[h]
theorem mS{a b:Bool}(h:a=b):Ending.returned (.bool a)=.returned (.bool b):=by rw[h]
theorem qV(n most:Int)(w:World)(h1: -9223372036854775808<=n)(h2:n<=9223372036854775807)(h3:1<=most)(h4:most<=100000000):
  Calls Tryz.prog 12 #[.int .i64 n,.int .i64 most] w fun e w'=>e=.returned (.int .i64 (around n most))/\w=w':=by
 by_cases hn:n<0
 ·go_enter Tryz.func12,Tryz.ntmps12
  go_wp2;go_ret;exact⟨fV (GN h3 hn),rfl⟩
 ·go_enter Tryz.func12,Tryz.ntmps12
  go_wp2;go_ret;exact⟨fV (GP h3 aB),rfl⟩
def TL(l:List Int)(i:Nat)(most:Int):Int:=if i<l.length then around (l.getD i 0) most else 0
theorem GQ(l:List Int)(i:Nat)(most:Int)(h3:1<=most):0<=TL l i most/\TL l i most<most:=by
 unfold TL;split
 ·exact tN _ _ h3
 ·omega
def Fit(l:List Int):Prop:=∀x∈l, -9223372036854775808<=x/\x<=9223372036854775807
theorem OI(l:List Int)(hl:Fit l)(v:Value)(i:Int)(most:Int)(S:Nat->Prop)(w:World)(hv:bq S w v l)(h3:1<=most)(h4:most<=100000000)(hi:0<=i):
  Calls Tryz.prog 16 #[v,.int .i64 i,.int .i64 most] w fun e w'=>e=.returned (.int .i64 (TL l i.toNat most))/\w=w':=by
 obtain⟨a,cap,rfl,hok,hcap,hmax,hS,hcell⟩:=hv;clear hS;by_cases hlt:i<l.length
 ·obtain⟨u,hu,rfl⟩:=hcell i.toNat aB
  have hb:=hl _ (List.getElem_mem (l:=l) (n:=i.toNat) aB);have e1:around l[i.toNat] most=TL l i.toNat most:=by unfold TL;rw[if_pos aB,List.getD_eq_getElem?_getD,List.getElem?_eq_getElem aB];rfl
  obtain⟨x,hx⟩:=bB (l[i.toNat]);rw[<-hx] at e1 hu hb;rw[<-e1];clear e1 hx hcell;generalize l.length=n at*;go_enter Tryz.func16,Tryz.ntmps16;go_wp2_with (go_at_call 12;refine(qV _ _ _ aB aB aB aB).mono ?_;rintro e w' ⟨rfl,rfl⟩);go_ret;exact⟨rfl,rfl⟩
 ·have e1:TL l i.toNat most=0:=by unfold TL;rw[if_neg aB]
  rw[e1];clear e1 hcell;generalize l.length=n at*;go_enter Tryz.func16,Tryz.ntmps16;go_wp2;go_ret;exact⟨rfl,rfl⟩
theorem Wv{p:Prop}(h:p:=by
  have e1:xs.take xs.length=xs:=List.take_length
  have e2:ys.take ys.length=ys:=List.take_length
  rw[hk] at h
  rw[<-e1,h,hl,e2]):p:=h
theorem Eo{xs ys:List Int}{k:Nat}(hl:xs.length=ys.length)(hk:k=xs.length)(h:xs.take k=ys.take k):xs=ys:=by
 exact Wv
theorem CS{xs ys:List Int}{k:Nat}(hx:k<xs.length)(hy:k<ys.length)(h:xs.take k=ys.take k)(e:xs[k]=ys[k]):xs.take (k+1)=ys.take (k+1):=by
 rw[List.take_succ_eq_append_getElem hx,List.take_succ_eq_append_getElem hy,h,e]
theorem Ww{p:Prop}(h:p:=by
  obtain⟨k,hk,rfl,hpre,n,rfl⟩:=hrel
  by_cases hlt:k<xs.length
  ·obtain⟨x,hx,hx2⟩:=hcell k hlt
   obtain⟨y,hy,hy2⟩:=OJ k aB;obtain⟨x0,hx0⟩:=bB (xs[k]);obtain⟨y0,hy0⟩:=bB (ys[k]);rw[<-hx0] at hx2;rw[<-hy0] at hy2;subst hx2;subst hy2;have hk0:(0:Int)<=(k:Int):=aB
   have hk1:(k:Int)<(xs.length:Int):=aB
   have hk2:(k:Int)<(ys.length:Int):=aB
   have HX:=hid hx0;have HY:=hid hy0;clear hx0 hy0;by_cases hxy:x0=y0
   ·subst hxy
    go_wp2;go_quiet (fail);go_wp2;go_roundw;case rel=>exact⟨k+1,aB,by go_num,hid (CS hlt aB hpre.out (HX.out.symm.trans HY.out)),_,rfl⟩
    simp[intOf];omega
   ·have hb:(x0 !=y0)=true:=by simpa using hxy
    have hne:xs≠ys:=by
     intro e;subst e;exact hxy (HX.out.trans HY.out.symm)
    have HN:=hid hne;clear hxy hne;go_wp2;go_quiet (fail);go_wp2;go_ret;exact⟨mS (decide_eq_false HN.out).symm,by rw[World.drewN_drewN];exact⟨_,rfl⟩⟩
  ·go_wp2
   go_ret;exact⟨mS (decide_eq_true (Eo HL.out aB hpre.out)).symm,_,rfl⟩):p:=h
theorem CT(xs ys:List Int)(u v:Value)(S T:Nat->Prop)(w:World)(hu:bq S w u xs)(hv:bq T w v ys):
  Calls Tryz.prog 64 #[u,v] w fun e w'=>e=.returned (.bool (decide (xs=ys)))/\∃n,w'=w.drewN n:=by
 obtain⟨a,cap,rfl,hok,hcap,hmax,hS,hcell⟩:=hu;obtain⟨a',cap',rfl,wL,rY,o9,hS',OJ⟩:=hv;clear hS hS';unfold maxLen at hmax o9;by_cases hl:xs.length=ys.length
 ·have hl2:((xs.length:Int) !=(ys.length:Int))=false:=by simp[hl]
  have hl3:xs.length<=ys.length:=aB
  have HL:=hid hl;clear hl;go_enter Tryz.func64,Tryz.ntmps64;go_wp2;go_loopw [5] (fun i wr=>∃k:Nat,k<=xs.length/\i=.int .i64 k/\Hid (xs.take k=ys.take k)/\∃n,wr=w.drewN n) (fun i _=>xs.length-(intOf i).toNat);case atStart=>exact⟨0,Nat.zero_le _,rfl,hid rfl,0,rfl⟩
  case round=>
   exact Ww
 ·have hl2:((xs.length:Int) !=(ys.length:Int))=true:=by simpa using (by omega:(xs.length:Int)≠ys.length)
  rw[decide_eq_false (fun e=>hl rX)];clear hl;go_enter Tryz.func64,Tryz.ntmps64;go_wp2;go_ret;exact⟨rfl,0,rfl⟩
def jh(P:Program)(t e:TypeId)(size bytes:Nat):Prop:=
 P.underlying t=some (.slice e)/\P.underlying t≠none/\∃i z,P.info? e=some i/\i.zero=some z/\i.size=size/\i.bytes=bytes/\z.cells.size=size/\0<size/\bytes<=1000
theorem ji{P:Program}{t e:TypeId}{z:Value}{size bytes:Nat}(h:P.underlying t=some (.slice e))
  (hi:(P.info? e).map (fun i=>(i.zero,i.size,i.bytes))=some (some z,size,bytes))(hz:z.cells.size=size)(h0:0<size)(hb:bytes<=1000):jh P t e size bytes:=by
 obtain⟨i,h1,h2,h3,h4⟩:=info_parts hi;exact⟨h,by rw[h];simp,i,z,h1,h2,h3,h4,hz,h0,hb⟩
section
variable {P:Program} {w:World} {t e:TypeId} {size bytes:Nat}
theorem CU(ty:TypeId)(hT:jh P t e size bytes){base:Nat}{v:Value}{n:Nat}{xs:List Value}(hown:w.ownsRow base e size v n xs)(ao:Option Addr)(c:Nat):
  (Builtin.append_ #[t,t] ty #[v,.slice ao 0 c]).run P w=.ok v w:=by
 obtain⟨ht,_,i,z,h1,h2,h3,h4,h5,h6,_⟩:=hT;have hs:(sizeOf e).run P w=.ok i.size w:=by simp[sizeOf,typeInfo,h1]
 have hf:(Builtin.firstCells i.size 0 (.slice ao 0 c)).run P w=.ok #[] w:=by
  cases ao<;>simp[Builtin.firstCells,loadCells,loadCellsFrom]
 rcases hown.2 with⟨rfl,rfl⟩|⟨g,cap,cur,rfl,_,_,hn,_⟩
 ·simp[Builtin.append_,run_underlying ht,hs,Builtin.lenOf,hf]
 ·simp[Builtin.append_,run_underlying ht,hs,Builtin.lenOf,hf,hn,storeCells]
theorem CV(ty:TypeId)(hT:jh P t e size bytes){base:Nat}{v:Value}{n:Nat}{xs:List Value}(hown:w.ownsRow base e size v n xs)
  (ao:Option Addr)(m c:Nat)(hok:dX ao m)(news:List Value)(hl:news.length=m*size)
  (hnews:∀j u,news[j]?=some u->w.cell? ⟨bL ao,bP ao+j,none⟩=some u)(h1:∀u∈news,u.oneCell'=true)
  (hsmall:n+m<=1000000000)(hbase:base<=w.heap.size):
  ∃v' w',(Builtin.append_ #[t,t] ty #[v,.slice ao m c]).run P w=.ok v' w'/\w'.ownsRow base e size v' (n+m) (xs++news)/\w.grownBy w' v.ownBlock/\
   (v'.ownBlock=v.ownBlock\/v'.ownBlock=some w.heap.size):=by
 rcases Nat.eq_zero_or_pos m with rfl|hm
 ·obtain rfl:news=[]:=List.eq_nil_of_length_eq_zero (by simpa using hl)
  exact⟨v,w,CU ty hT hown ao c,by simpa using hown,⟨rfl,rfl,rfl,aH,fun _ _ _=>rfl⟩,.inl rfl⟩
 obtain⟨ab,ao',rfl⟩:=hok hm
 have hnews':∀j u,news[j]?=some u->w.cell? ((⟨ab,ao',none⟩:Addr).add j)=some u:=fun j u hu=>by
  rw[Addr.add_lit];exact hnews j u hu
 obtain⟨ht,_,i,z,g1,g2,g3,g4,g5,g6,g7⟩:=hT;subst g3;subst g4;have hby:(n+m)*i.bytes<=140737488355328:=by have:=Nat.mul_le_mul hsmall g7;omega
 have h63:n+m<=maxLen:=xJ
 have hlen:(xs++news).length=(n+m)*i.size:=by rw[List.length_append,hown.1,hl,Nat.add_mul]
 have grown:∀(old:Nat),old<n+m->∀(row:Option Nat),
   (w.drew.alloc (.cells (xs.toArray++news.toArray++Builtin.zeroCells z.cells (grownCap w (n+m) old e-(n+m))) e)).ownsRow base e i.size
    (.slice (some ⟨w.heap.size,0,none⟩) (n+m) (grownCap w (n+m) old e)) (n+m) (xs++news)/\
   w.grownBy (w.drew.alloc (.cells (xs.toArray++news.toArray++Builtin.zeroCells z.cells (grownCap w (n+m) old e-(n+m))) e)) row:=by
  intro old _ row;have hge:=grownCap_ge w (n+m) old e;have hcm:grownCap w (n+m) old e<=maxLen:=grownCap_le_maxLen w (n+m) old e h63;refine⟨⟨hlen,.inr ⟨w.heap.size,_,_,rfl,hbase,heap_alloc_new w.drew _,hge,hcm,?_,?_⟩⟩,⟨rfl,rfl,rfl,bp,fun k hk _=>Below.heap_alloc w.drew _ k hk⟩⟩
  ·have e1:n*i.size+m*i.size=(n+m)*i.size:=(Nat.add_mul _ _ _).symm
   have e2:(n+m)*i.size+(grownCap w (n+m) old e-(n+m))*i.size=grownCap w (n+m) old e*i.size:=by rw[<-Nat.add_mul];congr 1;omega
   simp only[Array.size_append,List.size_toArray,size_zeroCells,g5,hown.1,hl,e1,e2]
  ·simp only[Array.toList_append,List.append_assoc]
   rw[<-List.append_assoc,<-hlen];exact List.take_left
 rcases hown.2 with⟨rfl,rfl⟩|⟨g,cap,cur,rfl,hbg,hg,hnc,hcm,hcs,htake⟩
 ·have hx:xs=[]:=List.eq_nil_of_length_eq_zero (by simpa using hown.1)
  subst hx;have hr:=run_append_nil (P:=P) w t ty e i z ht g1 g2 ⟨ab,ao',none⟩ m c news hl hnews' hm aB (by rw[Nat.zero_add] at hby;omega);have hgr:=grown 0 aB (Value.ownBlock (.slice none 0 0));simp only[Nat.zero_add,List.nil_append] at hgr ⊢;refine⟨_,_,hr,?_,?_,.inr rfl⟩
  ·simpa using hgr.1
  ·simpa using hgr.2
 ·by_cases hroom:n+m<=cap
  ·have hfit:n*i.size+news.length<=cur.size:=by rw[hl,hcs,<-Nat.add_mul];exact Nat.mul_le_mul_right _ hroom
   have hr:=run_append_room (P:=P) w t ty e i ht g1 g n cap cur hg ⟨ab,ao',none⟩ m c news hl hnews' h1 hroom hfit;refine⟨_,_,hr,⟨hlen,.inr ⟨g,cap,_,rfl,hbg,setRow_heap w g cur _ e _ hg,hroom,hcm,?_,?_⟩⟩,⟨rfl,rfl,rfl,bp,fun k _ hk=>setRow_other w g k _ (fun e=>hk (by simp[Value.ownBlock,e]))⟩,.inl rfl⟩
   ·simp only[List.size_toArray,List.length_append,List.length_take,List.length_drop,Array.length_toList]
    omega
   ·rw[htake,<-hlen]
    exact List.take_left
  ·have holds:∀j u,xs[j]?=some u->w.cell? ((⟨g,0,none⟩:Addr).add j)=some u:=hown.cells (g:=g) rfl
   have hr:=run_append_grow (P:=P) w t ty e i z ht g1 g2 ⟨g,0,none⟩ n cap xs hown.1 holds ⟨ab,ao',none⟩ m c news hl hnews' aB aB (growslice_fits aB hby);have hgr:=grown cap aB (Value.ownBlock (.slice (some ⟨g,0,none⟩) n cap));exact⟨_,_,hr,hgr.1,hgr.2,.inr rfl⟩
theorem gB{ops:Array Oper}{rest:List Oper}{o:Oper}{a:Act}{Q:Exit->Act->World->Prop}(hgd:o.guard=none)(s x:Operand)
  (ho:o.op=.call {callee:=.builtin .append,args:=#[s,x],argTypes:=#[t,t]})(hT:jh P t e size bytes)
  {base:Nat}{v:Value}{n:Nat}{xs:List Value}(hs:a.eval s=v)(hown:w.ownsRow base e size v n xs)
  (ao:Option Addr)(m c:Nat)(hx:a.eval x=.slice ao m c)(hok:dX ao m)(news:List Value)(hl:news.length=m*size)
  (hnews:∀j u,news[j]?=some u->w.cell? ⟨bL ao,bP ao+j,none⟩=some u)(h1:∀u∈news,u.oneCell'=true)
  (hsmall:n+m<=1000000000)(hbase:base<=w.heap.size)
  (h:∀v' w',w'.ownsRow base e size v' (n+m) (xs++news)->w.grownBy w' v.ownBlock->(v'.ownBlock=v.ownBlock\/v'.ownBlock=some w.heap.size)->wpList P ops Q rest (a.put o.dst v') w'):
  wpList P ops Q (o::rest) a w:=by
 obtain⟨v',w',hr,h2,h3,h4⟩:=CV o.type hT hown ao m c hok news hl hnews h1 hsmall hbase;refine wpList_plain hgd fun K hK=>?_;unfold Oper.wp;simp[execOp,ho,resolve,invoke,builtin,hs,hx,hr,Result.andThen];exact hK _ _ (h v' w' h2 h3 h4)
end
theorem gY(w:World)(cs:Array Value)(t:TypeId):∀j u,cs.toList[j]?=some u->(w.alloc (.cells cs t)).cell? ⟨w.heap.size,0+j,none⟩=some u:=by
 intro j u hu;rw[Nat.zero_add,World.cell?_alloc_new];simpa using hu
structure eY{α:Type}(RR:(Nat->Prop)->World->Value->α->Prop):Prop where
 keep:∀{S w w' u x},RR S w u x->aD S w w'->RR S w' u x
 mono:∀{S S':Nat->Prop} {w u x},RR S w u x->(∀b,b<w.heap.size->S b->S' b)->RR S' w u x
theorem uP:eY (α:=List Int) (fun S=>bq S):=⟨fun h k=>h.keep k,fun h k=>h.mono k⟩
theorem Tryz.rZ:jh Tryz.prog 22 3 1 8:=ji (z:=.int .i64 0) (by kernel_rfl) (by kernel_rfl) rfl aB aB
theorem Tryz.uQ:jh Tryz.prog 42 22 1 24:=ji (z:=.slice none 0 0) (by kernel_rfl) (by kernel_rfl) rfl aB aB
def Grow(S:Nat->Prop)(N:Nat):Nat->Prop:=fun b=>(S b/\b<N)\/N<=b
theorem gM{B N:Nat}(h:B<=N):∀b,Grow (B<=·) N b->B<=b:=by
 intro b hb;rcases hb with hb|hb
 ·exact hb.1
 ·exact Nat.le_trans h hb
structure Turns(S:Nat->Prop)(w w':World):Prop where
 os:w'.os=w.os
 tape:w'.tape=w.tape
 output:w'.output=w.output
 size:w.heap.size<=w'.heap.size
 block:∀b,¬S b->b<w.heap.size->w'.heap[b]?=w.heap[b]?
theorem Turns.refl(S:Nat->Prop)(w:World):Turns S w w:=⟨rfl,rfl,rfl,aH,fun _ _ _=>rfl⟩
theorem Turns.trans{S:Nat->Prop}{w w1 w2:World}(h:Turns S w w1)(k:Turns S w1 w2):Turns S w w2:=
 ⟨k.os.trans h.os,k.tape.trans h.tape,k.output.trans h.output,Nat.le_trans h.size k.size,fun b hb hlt=>(k.block b hb (Nat.lt_of_lt_of_le hlt h.size)).trans (h.block b hb hlt)⟩
theorem Turns.mono{S S':Nat->Prop}{w w1:World}(h:Turns S w w1)(hS:∀b,b<w.heap.size->S b->S' b):Turns S' w w1:=
 ⟨h.os,h.tape,h.output,h.size,fun b hb hlt=>h.block b (fun hs=>hb (hS b hlt hs)) hlt⟩
theorem Turns.aS{S:Nat->Prop}{w w1:World}(h:BL w w1):Turns S w w1:=⟨h.os,h.tape,h.output,h.size,fun b _ hlt=>h.block b hlt⟩
theorem Turns.below{S:Nat->Prop}{w w1:World}{B:Nat}(h:Turns S w w1)(hB:B<=w.heap.size)(hS:∀b,S b->B<=b):Below B w w1:=
 ⟨h.os,h.tape,h.output,h.size,fun b hb=>h.block b (fun hs=>by have:=hS b hs;omega) aB⟩
theorem Turns.keep{S T:Nat->Prop}{w w1:World}(h:Turns S w w1)(hT:∀b,T b->¬S b):aD T w w1:=fun b hb hlt=>h.block b (hT b hb) hlt
theorem Turns.setCell{S:Nat->Prop}{w w1:World}(h:Turns S w w1)(a:Addr)(v:Value)(ha:S a.block):Turns S w (w1.setCell a v):=
 h.trans ⟨rfl,rfl,rfl,by simp[World.setCell],fun b hb _=>Below.heap_setCell _ _ _ _ (fun e=>hb (e▸ha))⟩
theorem Turns.fI{S:Nat->Prop}{w w1:World}{row:Option Nat}(h:w.grownBy w1 row)(hr:∀b,row=some b->S b):Turns S w w1:=
 ⟨h.os,h.tape,h.output,h.size,fun b hb hlt=>h.block b hlt (fun e=>hb (hr b e.symm))⟩
def bg(S:Nat->Prop)(w:World)(v:Value)(xs:List Int):Prop:=
 w.ownsRow 0 3 1 v xs.length (xs.map (Value.int .i64))/\∀b,v.ownBlock=some b->S b
def gZ{α:Type}(RR:(Nat->Prop)->World->Value->α->Prop)(e:TypeId)(S:Nat->Prop)(w:World)(v:Value)(xs:List α):Prop:=
 (∀b,v.ownBlock=some b->S b)/\∃(us:List Value) (Z:Nat->Nat),w.ownsRow 0 e 1 v xs.length us/\us.length=xs.length/\
  ∀j (h1:j<us.length) (h2:j<xs.length),RR (fun b=>S b/\some b≠v.ownBlock/\Z b=j) w us[j] xs[j]
theorem cQ{S:Nat->Prop}{w w':World}{base:Nat}{e:TypeId}{size:Nat}{v:Value}{n:Nat}{us:List Value}(h:w.ownsRow base e size v n us)(hS:∀b,v.ownBlock=some b->S b)(hk:aD S w w'):w'.ownsRow base e size v n us:=by
 refine⟨h.1,?_⟩;rcases h.2 with h2|⟨g,cap,cur,rfl,hb,hg,r⟩
 ·exact .inl h2
 ·exact .inr ⟨g,cap,cur,rfl,hb,by rw[hk g (hS g rfl) (Array.getElem?_eq_some_iff.1 hg).1];exact hg,r⟩
theorem aX:eY (α:=List Int) bg:=
 ⟨fun h k=>⟨cQ h.1 h.2 k,h.2⟩,fun h k=>⟨h.1,fun b hb=>k b (h.1.lt b hb).2 (h.2 b hb)⟩⟩
theorem pq{α:Type}{RR:(Nat->Prop)->World->Value->α->Prop}(hR:eY RR)(e:TypeId):eY (α:=List α) (gZ RR e) where
 keep:=by
  rintro S w w' v xs ⟨h1,us,Z,h2,h3,h4⟩ hk;exact⟨h1,us,Z,cQ h2 h1 hk,h3,fun j g1 g2=>hR.keep (h4 j g1 g2) (fun b hb hlt=>hk b hb.1 hlt)⟩
 mono:=by
  rintro S S' w v xs ⟨h1,us,Z,h2,h3,h4⟩ hS;exact⟨fun b hb=>hS b (h2.lt b hb).2 (h1 b hb),us,Z,h2,h3,fun j g1 g2=>hR.mono (h4 j g1 g2) (fun b hlt hb=>⟨hS b hlt hb.1,hb.2⟩)⟩
abbrev fC:=gZ bg 22
abbrev bU:=gZ fC 42
theorem ct:eY (α:=List (List Int)) fC:=pq aX _
theorem bM:eY (α:=List (List (List Int))) bU:=pq ct _
theorem lF{α:Type}{R:World->Value->α->Prop}{S:Nat->Prop}{w:World}{base:Nat}{e:TypeId}{v:Value}{us:List Value}{xs:List α}
  (h:w.ownsRow base e 1 v xs.length us)(hS:∀b,v.ownBlock=some b->S b)(hl:us.length=xs.length)(hR:∀j (h1:j<us.length) (h2:j<xs.length),R w us[j] xs[j]):eU R S w v xs:=by
 obtain⟨h1,h2⟩:=h;simp only[Nat.mul_one] at h1;rcases h2 with⟨rfl,h0⟩|⟨g,cap,cur,rfl,hb,hg,hn,hc,hs,ht⟩
 ·obtain rfl:xs=[]:=List.eq_nil_of_length_eq_zero h0
  exact eU.nil R S w
 ·simp only[Nat.mul_one] at hs ht
  refine⟨some ⟨g,0,none⟩,cap,rfl,fun _=>⟨g,0,rfl⟩,aB,hc,fun _=>hS g rfl,fun j hj=>?_⟩;refine⟨us[j]' aB,?_,hR j aB hj⟩;rw[fZ,f9,Nat.zero_add,cell_of_row w g j cur e (0,0) hg];have h3:us[j]?=some (us[j]' aB):=List.getElem?_eq_getElem aB;rw[<-h3,<-ht,List.getElem?_take,if_pos aB];simp
theorem bg.sl{S:Nat->Prop}{w:World}{v:Value}{xs:List Int}(h:bg S w v xs):bq S w v xs:=
 lF h.1 h.2 bp (fun j h1 h2=>by simp)
theorem gZ.sl{α:Type}{RR:(Nat->Prop)->World->Value->α->Prop}(hR:eY RR){R:(Nat->Prop)->World->Value->α->Prop}(hS:∀{S w u x},RR S w u x->R S w u x)
  {e:TypeId}{S:Nat->Prop}{w:World}{v:Value}{xs:List α}(h:gZ RR e S w v xs):eU (R S) S w v xs:=by
 obtain⟨h1,us,Z,h2,h3,h4⟩:=h;exact lF h2 h1 h3 (fun j g1 g2=>hS (hR.mono (h4 j g1 g2) (fun b _ hb=>hb.1)))
theorem fC.sl{S:Nat->Prop}{w:World}{v:Value}{xs:List (List Int)}(h:fC S w v xs):dr S w v xs:=gZ.sl (R:=fun S=>bq S) aX (fun h=>bg.sl h) h
theorem bU.sl{S:Nat->Prop}{w:World}{v:Value}{xs:List (List (List Int))}(h:bU S w v xs):bN S w v xs:=gZ.sl (R:=fun S=>dr S) ct (fun h=>fC.sl h) h
theorem gZ.nil{α:Type}(RR:(Nat->Prop)->World->Value->α->Prop)(e:TypeId)(S:Nat->Prop)(w:World):gZ RR e S w (.slice none 0 0) []:=
 ⟨fun b hb=>by simp[Value.ownBlock] at hb,[],fun _=>0,World.ownsRow_nil _ _ _ _,rfl,fun j h=>absurd h bp⟩
theorem bg.nil(S:Nat->Prop)(w:World):bg S w (.slice none 0 0) []:=⟨World.ownsRow_nil _ _ _ _,fun b hb=>by simp[Value.ownBlock] at hb⟩
theorem Wx{p:Prop}(h:p:=by
  obtain⟨h1,h2⟩:=h
  refine⟨AF,?_⟩
  rcases h2 with⟨h2,_⟩|⟨g',cap',cur,hv,hb,hg,hn,hc,hs,ht⟩
  ·cases h2
  ·cases hv
   refine .inr ⟨g,cap,cur.setIfInBounds j u,rfl,hb,heap_setCell_same w g j cur e u hg,hn,hc,by simpa using hs,?_⟩;rw[Array.toList_setIfInBounds,<-ht];exact List.take_set ..):p:=h
theorem pu{w:World}{base:Nat}{e:TypeId}{g n cap:Nat}{us:List Value}(h:w.ownsRow base e 1 (.slice (some ⟨g,0,none⟩) n cap) n us)(j:Nat)(u:Value):
  (w.setCell ⟨g,j,none⟩ u).ownsRow base e 1 (.slice (some ⟨g,0,none⟩) n cap) n (us.set j u):=by
 exact Wx
theorem eV{w:World}{base:Nat}{e:TypeId}{v:Value}{n:Nat}{us:List Value}(h:w.ownsRow base e 1 v n us)(hn:0<n):
  ∃g cap,v=.slice (some ⟨g,0,none⟩) n cap/\n<=cap/\cap<=maxLen/\w.shape? g=some (e,cap)/\∀j (hj:j<us.length),w.cell? ⟨g,j,none⟩=some us[j]/\w.frozen? ⟨g,j,none⟩=false:=by
 obtain⟨h1,h2⟩:=h;rcases h2 with⟨_,h2⟩|⟨g,cap,cur,hv,hb,hg,hn,hc,hs,ht⟩
 ·omega
 ·simp only[Nat.mul_one] at h1 hs ht
  refine⟨g,cap,hv,hn,hc,by simp[World.shape?,hg,hs],fun j hj=>⟨?_,frozen_of_row w g j cur e hg⟩⟩;rw[cell_of_row w g j cur e (0,0) hg];have h3:us[j]?=some us[j]:=List.getElem?_eq_getElem hj;rw[<-h3,<-ht,List.getElem?_take,if_pos aB];simp
theorem gZ.borrow{α:Type}{RR:(Nat->Prop)->World->Value->α->Prop}(hR:eY RR){e:TypeId}{S:Nat->Prop}{w:World}{v:Value}{xs:List α}(h:gZ RR e S w v xs)(j:Nat)(hj:j<xs.length):
  ∃g cap u T,v=.slice (some ⟨g,0,none⟩) xs.length cap/\xs.length<=cap/\cap<=maxLen/\S g/\w.cell? ⟨g,j,none⟩=some u/\w.frozen? ⟨g,j,none⟩=false/\RR T w u xs[j]/\(∀b,T b->S b/\b≠g/\b<w.heap.size)/\
   (∀w2 x',Turns T w w2->RR (Grow T w.heap.size) w2 u x'->gZ RR e (Grow S w.heap.size) w2 v (xs.set j x'))/\
   (∀w2 u' x',Turns T w w2->RR (Grow T w.heap.size) w2 u' x'->w2.cell? ⟨g,j,none⟩=some u/\w2.frozen? ⟨g,j,none⟩=false/\gZ RR e (Grow S w.heap.size) (w2.setCell ⟨g,j,none⟩ u') v (xs.set j x')/\Turns (fun b=>T b\/b=g) w (w2.setCell ⟨g,j,none⟩ u')):=by
 obtain⟨h1,us,Z,h2,h3,h4⟩:=h;obtain⟨g,cap,rfl,h5,h6,_,h7⟩:=eV h2 aB;have hg:S g:=h1 g rfl;have hgl:g<w.heap.size:=(h2.lt g rfl).2;have hj':j<us.length:=aB
 obtain⟨c1,c2⟩:=h7 j hj';let T:Nat->Prop:=fun b=>(S b/\some b≠some g/\Z b=j)/\b<w.heap.size
 have hT:∀b,T b->S b/\b≠g/\b<w.heap.size:=fun b hb=>⟨hb.1.1,fun e=>hb.1.2.1 rX,hb.2⟩;have hgT:¬T g:=fun hb=>(hT g hb).2.1 rfl
 have row:∀w2,Turns T w w2->w2.ownsRow 0 e 1 (.slice (some ⟨g,0,none⟩) xs.length cap) xs.length us:=fun w2 ht=>
  cQ (S:=fun b=>b=g) h2 (fun b hb=>by simpa [Value.ownBlock] using hb.symm) (ht.keep fun b hb=>by rw[hb];exact hgT)
 have back:∀w2 w3 (u':Value) x',Turns T w w2->RR (Grow T w.heap.size) w2 u' x'->(∀b,b≠g->b<w2.heap.size->w3.heap[b]?=w2.heap[b]?)->
   w3.ownsRow 0 e 1 (.slice (some ⟨g,0,none⟩) xs.length cap) xs.length (us.set j u')->gZ RR e (Grow S w.heap.size) w3 (.slice (some ⟨g,0,none⟩) xs.length cap) (xs.set j x'):=by
  intro w2 w3 u' x' ht hr hk hrow;refine⟨fun b hb=>?_,us.set j u',fun b=>if b<w.heap.size then Z b else j,by simpa using hrow,by simpa using h3,fun i g1 g2=>?_⟩
  ·obtain rfl:g=b:=by simpa [Value.ownBlock] using hb
   exact .inl ⟨hg,hgl⟩
  ·by_cases hij:j=i
   ·subst hij
    simp only[List.getElem_set_self]
    have Ad:=hR.mono (S':=fun b=>Grow S w.heap.size b/\some b≠some g/\(if b<w.heap.size then Z b else j)=j) hr (fun b _ hb=>by
     rcases hb with hb|hb
     ·exact⟨.inl ⟨hb.1.1.1,hb.2⟩,hb.1.1.2.1,by rw[if_pos hb.2];exact hb.1.1.2.2⟩
     ·exact⟨.inr hb,fun e=>by have:=Option.some.inj e;omega,by rw[if_neg aB]⟩)
    exact hR.keep Ad (fun b hb hlt=>hk b (fun e=>hb.2.1 tL) hlt)
   ·have g1':i<us.length:=by simpa using g1
    have g2':i<xs.length:=Ox
    rw[List.getElem_set_ne hij,List.getElem_set_ne hij];have hr1:=hR.mono (S':=fun b=>(S b/\some b≠some g/\Z b=i)/\b<w.heap.size) (h4 i g1' g2') (fun b hlt hb=>⟨hb,hlt⟩);have Ad:=hR.keep hr1 (ht.keep fun b hb hb'=>hij (hb'.1.2.2.symm.trans hb.1.2.2));have Gy:=hR.keep (w':=w3) Ad (fun b hb hlt=>hk b (fun e=>hb.1.2.1 rX) hlt);exact hR.mono Gy (fun b _ hb=>⟨.inl ⟨hb.1.1,hb.2⟩,hb.1.2.1,by show (if b<w.heap.size then Z b else j)=i;rw[if_pos hb.2];exact hb.1.2.2⟩)
 refine⟨g,cap,us[j],T,rfl,h5,h6,hg,c1,c2,hR.mono (h4 j hj' hj) (fun b hlt hb=>⟨hb,hlt⟩),hT,fun w2 x' ht hr=>?_,fun w2 u' x' ht hr=>?_⟩
 ·exact back w2 w2 us[j] x' ht hr (fun _ _ _=>rfl) (by rw[List.set_getElem_self];exact row w2 ht)
 ·have c3:w2.heap[g]?=w.heap[g]?:=ht.block g hgT hgl
  refine⟨(World.cell?_of_block (a:=⟨g,j,none⟩) c3).trans c1,(World.frozen?_of_block (a:=⟨g,j,none⟩) c3).trans c2,?_,?_⟩
  ·exact back w2 _ u' x' ht hr (fun b hb _=>Below.heap_setCell w2 ⟨g,j,none⟩ u' b hb) (pu (row w2 ht) j u')
  ·exact(ht.mono fun b _ hb=>.inl hb).setCell ⟨g,j,none⟩ u' (.inr rfl)
theorem eU.news{α:Type}{R:World->Value->α->Prop}{S:Nat->Prop}{w:World}{ao:Option Addr}{m c:Nat}{ys:List α}(h:eU R S w (.slice ao m c) ys):
  m=ys.length/\dX ao m/\∃us:List Value,us.length=m/\(∀j u,us[j]?=some u->w.cell? ⟨bL ao,bP ao+j,none⟩=some u)/\∀j (h1:j<us.length) (h2:j<ys.length),R w us[j] ys[j]:=by
 obtain⟨a,cap,hv,h1,h2,h3,h4,h5⟩:=h;cases hv;refine⟨rfl,h1,(List.range ys.length).map (fun j=>(w.cell? ⟨bL ao,bP ao+j,none⟩).getD undef),bp,fun j u hu=>?_,fun j g1 g2=>?_⟩
 ·have hj:j<ys.length:=by
   have:=(List.getElem?_eq_some_iff.1 hu).1
   simpa using this
  obtain⟨u',hu',_⟩:=h5 j hj;rw[List.getElem?_eq_getElem mP] at hu;simp only[List.getElem_map,List.getElem_range] at hu;rw[hu'] at hu;rw[hu',<-hu];rfl
 ·obtain⟨u',hu',hr⟩:=h5 j g2
  simp only[List.getElem_map,List.getElem_range,hu'];exact hr
section
variable {P:Program} {t e:TypeId} {bytes:Nat} {α:Type} {RR:(Nat->Prop)->World->Value->α->Prop} {w:World} {ops:Array Oper} {rest:List Oper} {o:Oper} {a:Act} {Q:Exit->Act->World->Prop}
theorem Ep(hR:eY RR)(hgd:o.guard=none)(s x:Operand)
  (ho:o.op=.call {callee:=.builtin .append,args:=#[s,x],argTypes:=#[t,t]})(hT:jh P t e 1 bytes)
  {S:Nat->Prop}{w1:World}{v:Value}{xs:List α}(hs:a.eval s=v)(hown:gZ RR e S w1 v xs)(hb:BL w1 w)
  {ao:Option Addr}{m c:Nat}(hx:a.eval x=.slice ao m c)(hok:dX ao m)(news:List Value)(hl:news.length=m)
  (hnews:∀j u,news[j]?=some u->w.cell? ⟨bL ao,bP ao+j,none⟩=some u)(h1:∀u∈news,u.oneCell'=true)
  (ys:List α)(hy:ys.length=m)(Zn:Nat->Nat)(hu:∀i (g1:i<news.length) (g2:i<ys.length),RR (fun b=>w1.heap.size<=b/\Zn b=i) w news[i] ys[i])
  (hsmall:xs.length+m<=1000000000)
  (h:∀v' w',gZ RR e (Grow S w1.heap.size) w' v' (xs++ys)->Turns (fun b=>some b=v.ownBlock) w w'->wpList P ops Q rest (a.put o.dst v') w'):
  wpList P ops Q (o::rest) a w:=by
 obtain⟨f1,us,Z,f2,f3,f4⟩:=hown;have hsz:=hb.size;have f2':w.ownsRow 0 e 1 v xs.length us:=cQ (S:=fun _=>True) f2 (fun _ _=>trivial) (aD.below hb);refine gB hgd s x ho hT hs f2' ao m c hx hok news (by simpa using hl) hnews h1 hsmall (Nat.zero_le _) (fun v' w' g1 g2 g3=>?_);refine h v' w' ⟨fun b hb'=>?_,us++news,fun b=>if b<w1.heap.size then Z b else xs.length+Zn b,?_,?_,fun j k1 k2=>?_⟩ (Turns.fI g2 fun b hb'=>hb'.symm)
 ·rcases g3 with g3|g3
  ·rw[g3] at hb';exact .inl ⟨f1 b hb',(f2.lt b hb').2⟩
  ·rw[g3] at hb';exact .inr (by have:=Option.some.inj hb';omega)
 ·rw[List.length_append,hy];exact g1
 ·simp[f3,hl,hy]
 ·have other:∀{u y},∀S':Nat->Prop,RR S' w u y->(∀b,b<w.heap.size->S' b->some b≠v.ownBlock)->(∀b,b<w.heap.size->S' b->Grow S w1.heap.size b/\(if b<w1.heap.size then Z b else xs.length+Zn b)=j)->
    RR (fun b=>Grow S w1.heap.size b/\some b≠v'.ownBlock/\(if b<w1.heap.size then Z b else xs.length+Zn b)=j) w' u y:=by
   intro u y S' hr hne hS'
   have r1:=hR.mono (S':=fun b=>S' b/\b<w.heap.size) hr (fun b hlt hb'=>⟨hb',hlt⟩)
   have r2:=hR.keep (w':=w') r1 (fun b hb' _=>g2.block b hb'.2 (hne b hb'.2 hb'.1))
   refine hR.mono r2 (fun b _ hb'=>⟨(hS' b hb'.2 hb'.1).1,?_,(hS' b hb'.2 hb'.1).2⟩)
   rcases g3 with g3|g3
   ·rw[g3];exact hne b hb'.2 hb'.1
   ·rw[g3];intro e';have:=Option.some.inj e';omega
  by_cases hj:j<us.length
  ·rw[List.getElem_append_left hj,List.getElem_append_left aB]
   have r0:=hR.mono (S':=fun b=>(S b/\some b≠v.ownBlock/\Z b=j)/\b<w1.heap.size) (f4 j hj aB) (fun b hlt hb'=>⟨hb',hlt⟩);have r1:=hR.keep (w':=w) r0 (fun b hb' _=>hb.block b hb'.2);exact other _ r1 (fun b _ hb'=>hb'.1.2.1) (fun b _ hb'=>⟨.inl ⟨hb'.1.1,hb'.2⟩,by rw[if_pos hb'.2];exact hb'.1.2.2⟩)
  ·have k1':j<us.length+news.length:=by simpa using k1
   rw[List.getElem_append_right aB,List.getElem_append_right aB];have e1:j-us.length=j-xs.length:=aB
   have hr:=hu (j-us.length) aB aB;simp only[e1] at hr ⊢;refine other _ hr (fun b _ hb' e'=>?_) (fun b _ hb'=>⟨.inr hb'.1,by rw[if_neg aB,hb'.2];omega⟩);have:=(f2.lt b e'.symm).2;omega
theorem iF(hR:eY RR)(hgd:o.guard=none)(s x:Operand)
  (ho:o.op=.call {callee:=.builtin .append,args:=#[s,x],argTypes:=#[t,t]})(hT:jh P t e 1 bytes)
  {S:Nat->Prop}{w1:World}{v:Value}{xs:List α}(hs:a.eval s=v)(hown:gZ RR e S w1 v xs)(hb:BL w1 w)
  {u:Value}{e':TypeId}(hx:a.eval x=.slice (some ⟨w.heap.size,0,none⟩) 1 1)(y:α)(hu:RR (fun b=>w1.heap.size<=b) w u y)(h1:u.oneCell'=true)
  (hsmall:xs.length+1<=1000000000)
  (h:∀v' w',gZ RR e (Grow S w1.heap.size) w' v' (xs++[y])->Turns (fun b=>some b=v.ownBlock) w w'->wpList P ops Q rest (a.put o.dst v') w'):
  wpList P ops Q (o::rest) a (w.alloc (.cells #[u] e')):=by
 have ha:BL w (w.alloc (.cells #[u] e')):=aF.alloc aH _;refine Ep hR hgd s x ho hT hs hown (cG hb ha) hx (fun _=>⟨_,_,rfl⟩) [u] rfl (gY w #[u] e') AF [y] rfl (fun _=>0) ?_ hsmall (fun v' w' g1 g2=>h v' w' g1 ((Turns.aS ha).trans ⟨g2.os,g2.tape,g2.output,g2.size,g2.block⟩));intro i g1 g2;obtain rfl:i=0:=by simp at g1;omega
 exact hR.mono (hR.keep hu (aD.below ha)) (fun b _ hb'=>⟨hb',rfl⟩)
theorem OL{p:Prop}(h:p:=by
  refine List.ext_getElem (by simp[l1]) (fun i g1 g2=>?_)
  simpa using l3 i g1 Ox):p:=h
theorem jW(hgd:o.guard=none)(s x:Operand)
  (ho:o.op=.call {callee:=.builtin .append,args:=#[s,x],argTypes:=#[t,t]})(hT:jh P t 3 1 bytes)
  {S:Nat->Prop}{w1:World}{v:Value}{xs:List Int}(hs:a.eval s=v)(hown:bg S w1 v xs)(hb:BL w1 w)
  {ao:Option Addr}{m c:Nat}(hx:a.eval x=.slice ao m c){T:Nat->Prop}{ys:List Int}(hy:bq T w (.slice ao m c) ys)
  (hsmall:xs.length+m<=1000000000)
  (h:∀v' w',bg (Grow S w1.heap.size) w' v' (xs++ys)->Turns (fun b=>some b=v.ownBlock) w w'->wpList P ops Q rest (a.put o.dst v') w'):
  wpList P ops Q (o::rest) a w:=by
 obtain⟨rfl,hok,us,l1,l2,l3⟩:=eU.news hy
 have qF:us=ys.map (Value.int .i64):=by
  exact OL
 have hsz:=hb.size;have f2':w.ownsRow 0 3 1 v xs.length (xs.map (Value.int .i64)):=cQ (S:=fun _=>True) hown.1 (fun _ _=>trivial) (aD.below hb);refine gB hgd s x ho hT hs f2' ao ys.length c hx hok us (by simpa using l1) l2 ?_ hsmall (Nat.zero_le _) (fun v' w' g1 g2 g3=>h v' w' ⟨?_,fun b hb'=>?_⟩ (Turns.fI g2 fun b hb'=>hb'.symm))
 ·rw[qF];intro u hu;obtain⟨y,_,rfl⟩:=List.mem_map.1 hu;rfl
 ·rw[List.length_append,List.map_append,<-qF];exact g1
 ·rcases g3 with g3|g3
  ·rw[g3] at hb';exact .inl ⟨hown.2 b hb',(hown.1.lt b hb').2⟩
  ·rw[g3] at hb';exact .inr (by have:=Option.some.inj hb';omega)
end
theorem eU.at{α:Type}{R:World->Value->α->Prop}{S:Nat->Prop}{w:World}{a:Option Addr}{n cap:Nat}{xs:List α}(h:eU R S w (.slice a n cap) xs){j:Nat}(hj:j<xs.length):
  ∃u,w.cell? ⟨bL a,bP a+j,none⟩=some u/\bL a<w.heap.size/\R w u xs[j]:=by
 obtain⟨a',cap',hv,h1,h2,h3,h4,h5⟩:=h;cases hv;obtain⟨u,hu,hr⟩:=h5 j hj;exact⟨u,hu,World.block_lt_of_cell? w ⟨bL a,bP a+j,none⟩ hu,hr⟩
theorem eU.form{α:Type}{R:World->Value->α->Prop}{S:Nat->Prop}{w:World}{v:Value}{xs:List α}(h:eU R S w v xs):
  ∃a cap,v=.slice a xs.length cap/\dX a xs.length/\xs.length<=cap/\cap<=9223372036854775807:=by
 obtain⟨a,cap,hv,h1,h2,h3,_⟩:=h;exact⟨a,cap,hv,h1,h2,by unfold maxLen at h3;omega⟩
section
variable {P:Program} {ops:Array Oper} {md:Region.Mode} {C:World->Prop}
def QN(K:Act->World->Prop):Exit->Act->World->Prop
 | .normal,a,w=>K a w
 |_,_,_=>False
theorem ig{K:Act->World->Prop}:¬LetsOut (QN K):=by
 rintro ⟨a,w,h⟩;exact h
def OM(P:Program)(ops:Array Oper)(C:World->Prop)(i:Nat)(K:Act->World->Prop)(a:Act)(w:World):Prop:=
 wpOp P ops (QN fun _ _=>False) i (fun a' w'=>C w'/\K a' w') a w
theorem Er{i:Nat}{a:Act}{w:World}{K K':Act->World->Prop}(h:∀a w,C w->K a w->K' a w)(hh:OM P ops C i K a w):OM P ops C i K' a w:=
 wpOp_mono (fun a w hk=>⟨hk.1,h a w hk.1 hk.2⟩) hh
theorem wp_exit{o:Oper}{a:Act}{w:World}{K:Act->World->Prop}{Q Q':Exit->Act->World->Prop}(hp:∀c a w,Q (.panic c) a w->Q' (.panic c) a w)(ho:LetsOut Q->LetsOut Q')
  (h:o.wp P a w K Q):o.wp P a w K Q':=by
 unfold Oper.wp at*;generalize (execOp a.eval o).run P w=r at*;cases r with
 |ok n w'=>
  cases n<;>simp only[Oper.upon] at h ⊢
  case enter f args=>
   refine Calls.mono h fun e w'' he=>?_;cases e with
   |returned u=>exact he
   |panicked c=>exact hp _ _ _ he
   |outgrown=>exact ho he
  all_goals exact h
 |halt x w'=>
  cases x<;>simp only[Oper.upon] at h ⊢
  case panic u=>exact hp _ _ _ h
theorem Lz{i:Nat}{a:Act}{w:World}{K:Act->World->Prop}{Q Q':Exit->Act->World->Prop}(hp:∀c a w,Q (.panic c) a w->Q' (.panic c) a w)(ho:LetsOut Q->LetsOut Q')
  (h:wpOp P ops Q i K a w):wpOp P ops Q' i K a w:=by
 unfold wpOp at*;split
 ·rename_i hi;simp only[hi] at h;exact h
 ·rename_i o hi
  simp only[hi] at h;split
  ·rename_i hw
   simp only[hw,if_true] at h;rcases h with h|⟨h1,h2⟩
   ·exact .inl (wp_exit hp ho h)
   ·exact .inr ⟨h1,ho h2⟩
  ·rename_i hw
   simp only[hw] at h;exact h
def gD(P:Program)(ops:Array Oper)(C:World->Prop)(o:Oper)(v:Value)(a:Act):Prop:=
 (Region.wanted o (yielded ops a.tmps)=true/\∀w,C w->(execOp a.eval o).run P w=.ok (.value v) w)\/
 (Region.wanted o (yielded ops a.tmps)=false/\v=undef)
theorem gD.wpOp{i:Nat}{o:Oper}{v:Value}{a:Act}(hi:ops[i]?=some o)(hy:gD P ops C o v a){K:Act->World->Prop}{Q:Exit->Act->World->Prop}{w:World}(hC:C w)(h:K (a.put o.dst v) w):
  wpOp P ops Q i K a w:=by
 unfold Go.wpOp;simp only[hi];rcases hy with⟨hw,hv⟩|⟨hw,rfl⟩
 ·simp only[hw,if_true,Oper.wp,hv w hC,Oper.upon];exact .inl h
 ·simp only[hw,Bool.false_eq_true,if_false];exact h
theorem gD.of_same{o:Oper}{v:Value}{a a':Act}(hy:gD P ops C o v a)(he:execOp a'.eval o=execOp a.eval o)
  (hw:Region.wanted o (yielded ops a'.tmps)=Region.wanted o (yielded ops a.tmps)):gD P ops C o v a':=by
 unfold gD at*;rw[he,hw];exact hy
theorem TM{j:Nat}{oi oj:Oper}{v:Value}(hj:ops[j]?=some oj)(hap:oi.apart ops oj=true)
  (hsi:∀cs b,oi.op≠ .select cs b)(hsj:∀cs b,oj.op≠ .select cs b){K:Act->World->Prop}{a:Act}{w:World}
  (hy:gD P ops C oi v a)(h:OM P ops C j K (a.put oi.dst v) w):
  OM P ops C j (fun a' w'=>gD P ops C oi v a'/\K (a'.put oi.dst v) w') a w:=by
 obtain⟨h1,h2,h3⟩:=Oper.apart_spec hap
 have keep:∀(a:Act),gD P ops C oi v a->∀u,gD P ops C oi v (a.put oj.dst u):=fun a hy u=>
  hy.of_same (execOp_put oi hsi a oj.dst u h3) (wanted_put oi a oj.dst u h3)
 have keepD:∀d,gD P ops C oi v {a with defers:=d::a.defers}:=fun d=>hy.of_same rfl rfl;unfold OM wpOp at*;simp only[hj] at*;rw[wanted_put oj a oi.dst v h1] at h;split
 ·rename_i hw
  simp only[hw,if_true] at h;rcases h with h|⟨_,hlets⟩;case inr=>exact absurd hlets ig
  refine .inl ?_;unfold Oper.wp at*;rw[execOp_put oj hsj a oi.dst v h1] at h;generalize (execOp a.eval oj).run P w=r at*;cases r with
  |ok n w'=>
   cases n<;>simp only[Oper.upon] at h ⊢
   case value u=>exact⟨h.1,keep a hy u,by rw[<-Act.put_comm a v u h2];exact h.2⟩
   case skip=>exact⟨h.1,keep a hy _,by rw[<-Act.put_comm a v undef h2];exact h.2⟩
   case defer d=>
    refine⟨h.1,keep _ (keepD d) _,?_⟩;rw[<-Act.put_comm _ v undef h2,<-Act.put_defers];exact h.2
   case enter f args=>
    refine Calls.mono h fun e w'' he=>?_;cases e with
    |returned u=>exact⟨he.1,keep a hy u,by rw[<-Act.put_comm a v u h2];exact he.2⟩
    |panicked c=>exact he
    |outgrown=>exact he
   case row row args=>exact Rows.mono h fun u w'' he=>⟨he.1,keep a hy u,by rw[<-Act.put_comm a v u h2];exact he.2⟩
  |halt x w'=>
   cases x<;>simp only[Oper.upon] at h ⊢
   case panic u=>exact h
 ·rename_i hw
  simp only[hw] at h;exact⟨h.1,keep a hy _,by rw[<-Act.put_comm a v undef h2];exact h.2⟩
def kF(P:Program)(md:Region.Mode)(ops:Array Oper)(C:World->Prop)(n:Nat)(L:Array Bool->Act->World->Prop):Nat->Array Bool->Act->World->Prop
 |0,listed,a,w=>L listed a w
 |f+1,listed,a,w=>
  Region.ready md ops listed≠[]/\∀i∈Region.ready md ops listed,i<n/\OM P ops C i (kF P md ops C n L f (listed.setIfInBounds i true)) a w
theorem jk{n g:Nat}{L:Array Bool->Act->World->Prop}{Q':Exit->Act->World->Prop}(hL:∀listed a w,L listed a w->wpAny P md ops Q' g listed a w):
  ∀(f:Nat) (listed:Array Bool) (a:Act) (w:World),kF P md ops C n L f listed a w->wpAny P md ops Q' (f+g) listed a w
 |0,listed,a,w,h=>by rw[Nat.zero_add];exact hL _ _ _ h
 |f+1,listed,a,w,h=>by
  rw[show f+1+g=(f+g)+1 by omega];exact⟨fun h0=>absurd h0 h.1,fun i hi=>Lz (fun _ _ _ hf=>absurd hf (by simp[QN])) (fun hl=>absurd hl ig) (wpOp_mono (fun a' w' h'=>jk hL f _ a' w' h'.2) (h.2 i hi).2)⟩
theorem Wy{p:Prop}(h:p:=by
  rcases Nat.lt_or_ge j n with h|h
  ·exact h
  ·exact absurd hj (tail_waits hs hc hn inv _ i rfl hin hun j h)):p:=h
theorem CW{n i:Nat}{oi:Oper}{v:Value}{L:Array Bool->Act->World->Prop}(hi:ops[i]?=some oi)(hsel:∀(j:Nat) (o:Oper) cs b,ops[j]?=some o->o.op≠ .select cs b)
  (hs:Region.sinkB md ops n=true)(hc:Region.chainB md ops n=true)(hn:n<ops.size)(hin:i<n)
  (hdone:∀listed a w,L listed a w->∀j∈Region.ready md ops listed,n<=j):
  ∀(f:Nat) (listed:Array Bool) (a:Act) (w:World),C w->HeadInv md ops n listed->
   (∀j oj,ops[j]?=some oj->j≠i->listed.getD j true=false->(∀e∈oj.after,Region.binds md e=true->e.on≠i)->oi.apart ops oj=true)->
   i∈Region.ready md ops listed->gD P ops C oi v a->
   kF P md ops C n L f (listed.setIfInBounds i true) (a.put oi.dst v) w->kF P md ops C n L (f+1) listed a w:=by
 intro f;induction f with
 |zero=>
  intro listed a w SL inv _ hr hy H
  have hun:=(mem_ready.1 hr).1
  refine⟨fun h=>(by rw[h] at hr;cases hr),fun j hj=>?_⟩
  have hjn:j<n:=by
   exact Wy
  refine⟨hjn,?_⟩
  by_cases hji:j=i
  ·subst hji;exact hy.wpOp hi SL ⟨SL,H⟩
  ·have:=hdone _ _ _ H j (ready_mono hj hji)
   omega
 |succ f ih=>
  intro listed a w SL inv hfree hr hy H
  have hun:=(mem_ready.1 hr).1
  refine⟨fun h=>(by rw[h] at hr;cases hr),fun j hj=>?_⟩
  have hjn:j<n:=by
   exact Wy
  refine⟨hjn,?_⟩
  by_cases hji:j=i
  ·subst hji;exact hy.wpOp hi SL ⟨SL,H⟩
  ·have h1:=(H.2 j (ready_mono hj hji)).2
   obtain⟨hjun,oj,hoj,hall⟩:=mem_ready.1 hj
   have hnot:∀e∈oj.after,Region.binds md e=true->e.on≠i:=fun e he hb heq=>by
    have h1:=hall e he hb;rw[heq,getD_both hun] at h1;cases h1
   have h2:=TM hoj (hfree j oj hoj hji hjun hnot) (fun cs b=>hsel i oi cs b hi) (fun cs b=>hsel j oj cs b hoj) hy h1
   have hfree':∀k ok,ops[k]?=some ok->k≠i->(listed.setIfInBounds j true).getD k true=false->
     (∀e∈ok.after,Region.binds md e=true->e.on≠i)->oi.apart ops ok=true:=fun k ok hk hki hun hno=>by
    refine hfree k ok hk hki ?_ hno;by_cases hjk:j=k
    ·subst hjk;exact hjun
    ·rw[getD_set_ne true hjk] at hun;exact hun
   refine Er (fun a' w' hCw' h3=>ih (listed.setIfInBounds j true) a' w' hCw' (inv.set hj hjn) hfree' (ready_mono hr (Ne.symm hji)) h3.1 ?_) h2;rw[Array.setIfInBounds_comm _ _ hji];exact h3.2
def xo:Op->Bool
 | .move _| .assign _| .pick .. | .load .. | .binOp .. | .unOp .. | .build .. | .fieldAddr .. | .field .. | .indexAddr .. | .index .. | .slice .. | .extract .. | .convert .. | .makeFunc .. =>true
 | .call {callee:=.builtin .len, .. }| .call {callee:=.builtin .cap, .. }| .call {callee:=.builtin .min, .. }| .call {callee:=.builtin .max, .. }=>true
 |_=>false
theorem Wz{p:Prop}(h:p:=by
  rw[Sem.run_bind]
  cases s.run P w with
  |ok a w1=>intro e;cases e;exact hn _ rfl
  |halt h w1=>intro e;cases e):p:=h
theorem qc{s:Sem Value}{w w':World}{nx:Next}(hn:∀v,nx≠ .value v):(do pure (Next.value (<-s)):Sem Next).run P w≠ .ok nx w':=by
 exact Wz
theorem xN{s:Sem Bool}{x y:Value}{w w':World}{nx:Next}(hn:∀v,nx≠ .value v):(do pure (Next.value (if<-s then x else y)):Sem Next).run P w≠ .ok nx w':=by
 exact Wz
theorem wM{o:Oper}(h:xo o.op=true){ρ:Operand->Value}{w w':World}{nx:Next}(hn:∀v,nx≠ .value v):(execOp ρ o).run P w≠ .ok nx w':=by
 unfold execOp;generalize o.op=op at*;unfold xo at h;split at h
 all_goals first
  |exact qc hn
  |exact xN hn
  |(intro e;cases e;exact hn _ rfl)
  |(simp only[resolve,invoke,builtin];exact qc hn)
  |(exact absurd h bp)
theorem l9{n i:Nat}{oi:Oper}{v:Value}{L:Array Bool->Act->World->Prop}{f:Nat}{listed:Array Bool}{a:Act}{w:World}(hi:ops[i]?=some oi)
  (hsel:Region.noSelect ops=true)(hs:Region.sinkB md ops n=true)(hc:Region.chainB md ops n=true)(hn:n<ops.size)(hin:i<n)
  (hdone:∀listed a w,L listed a w->∀j∈Region.ready md ops listed,n<=j)(SL:C w)(inv:HeadInv md ops n listed)(hf:Region.free md ops listed i=true)(hr:(Region.ready md ops listed).contains i=true)
  (hy:gD P ops C oi v a)(h:kF P md ops C n L f (listed.setIfInBounds i true) (a.put oi.dst v) w):kF P md ops C n L (f+1) listed a w:=
 CW hi (Region.noSelect_spec hsel) hs hc hn hin hdone f listed a w SL inv (Region.free_spec hi hf) El hy h
theorem xq{n g k:Nat}{listed:Array Bool}(h:Region.seqB md ops g k listed=true)(hk:n<=k):∀j∈Region.ready md ops listed,n<=j:=by
 intro j hj;have:=seqB_ready h j hj;omega
theorem CX{k:Nat}{o:Oper}{a:Act}{w:World}{K:Act->World->Prop}(hk:ops[k]?=some o)(h:wpList P ops (QN fun a' w'=>C w'/\K a' w') [o] a w):OM P ops C k K a w:=by
 unfold OM wpOp;simp only[hk];unfold wpList at h;split
 ·rename_i hw
  rw[if_pos hw] at h;rcases h with h|⟨_,h2⟩
  ·refine .inl (wp_exit (Q:=QN fun a' w'=>C w'/\K a' w') (fun _ _ _ hf=>hf) (fun hl=>absurd hl ig) ?_)
   exact Oper.wp_mono (fun a' w' h'=>h') h
  ·exact absurd h2 ig
 ·rename_i hw
  rw[if_neg hw] at h;exact h
end
theorem aI{B:Nat}{a w:World}(h:Below B a w)(n:Nat):Below B a (w.drewN n):=⟨h.os,h.tape,h.output,h.size,h.block⟩
theorem py{K:Act->World->Prop}{a:Act}{w:World}(h:K a w):QN K .normal a w:=h
def qW(w:World):Type:={W:World // BL w W}
theorem qW.cell{w:World}(x:qW w)(b o:Nat)(h:b<w.heap.size):x.1.cell? ⟨b,o,none⟩=w.cell? ⟨b,o,none⟩:=x.2.cell (p:=⟨b,o,none⟩) h
instance (w:World):Nonempty (qW w):=⟨⟨w,aF⟩⟩
theorem jJ{P:Program}{ops:Array Oper}{w:World}{Q:Act->Prop}:∀(l:List Oper) (a:Act),wpQuiet P ops (fun w'=>w'=w) Q l a->wpStill P ops w Q l a
 |[],_,h=>h
 |o::l,a,h=>by
  unfold wpQuiet at h;unfold wpStill;split
  ·rename_i hw
   rw[if_pos hw] at h;obtain⟨v,h1,h2⟩:=h;have h3:=h1 w rfl;have h4:=jJ l _ h2;unfold Oper.quietAt at h3;unfold Oper.still;generalize (execOp a.eval o).run P w=r at*;cases r with
   |ok n w'=>
    cases n<;>simp only[Oper.quietUpon] at h3<;>simp only[Oper.stillUpon]
    case value u=>obtain⟨e1,e2⟩:=h3;subst e2;exact⟨e1,h4⟩
    case skip=>obtain⟨e1,e2⟩:=h3;subst e2;exact⟨e1,h4⟩
    case enter f args=>obtain⟨e1,hc⟩:=h3;exact⟨e1,v,hc,h4⟩
   |halt x w'=>simp only[Oper.quietUpon] at h3
  ·rename_i hw
   rw[if_neg hw] at h;exact jJ l _ h
theorem pE{P:Program}{id:Nat}{Q:Exit->Act->World->Prop}{a:Act}{w:World}{l:List Oper}(n:Nat)(hm:P.follows .mixedOrders=true)(hB:Region.lexTailB .any l.toArray n=true)
  (h:wpQuiet P l.toArray (fun w'=>w'=w.drewN 1) (fun a'=>wpList P l.toArray Q (l.drop n) a' (w.drewN 1)) (l.take n) a):(Code.region id l.toArray true).wp P Q a w:=
 wp_region_still_tail n hm hB (jJ _ _ h)
section
variable {P:Program} {ops:Array Oper} {md:Region.Mode} {C:World->Prop}
def fB(P:Program)(ops:Array Oper)(C:World->Prop)(R:Act->World->Prop)(l:List Oper):List (Bool×Nat)->Act->World->Prop
 |[],a,w=>R a w
 |(true,i)::s,a,w=>match l[i]? with
  |some o=>wpQuiet P ops C (fun a'=>fB P ops C R l s a' w) [o] a
  |none=>False
 |(false,i)::s,a,w=>match l[i]? with
  |some o=>wpList P ops (QN fun a' w'=>C w'/\fB P ops C R l s a' w') [o] a w
  |none=>False
def Region.qX(md:Region.Mode)(ops:Array Oper)(n:Nat):List (Bool×Nat)->Array Bool->Bool
 |[],listed=>Region.seqB md ops (ops.size-n) n listed
 |(false,c)::s,listed=>decide (Region.ready md ops listed=[c])&&decide (c<n)&&Region.qX md ops n s (listed.setIfInBounds c true)
 |(true,q)::s,listed=>(Region.ready md ops listed).contains q&&Region.free md ops listed q&&decide (q<n)&&((ops[q]?).map (fun o=>xo o.op)).getD false&&Region.qX md ops n s (listed.setIfInBounds q true)
def Region.qY(md:Region.Mode)(ops:Array Oper)(n:Nat)(s:List (Bool×Nat)):Bool:=
 Region.noSelect ops&&decide (n<ops.size)&&Region.sinkB md ops n&&Region.chainB md ops n&&decide (s.length=n)&&Region.qX md ops n s (Array.replicate ops.size false)
theorem kS{n:Nat}{Lq:Act->World->Prop}(hsel:Region.noSelect ops=true)(hs:Region.sinkB md ops n=true)(hc:Region.chainB md ops n=true)(hn:n<ops.size):
  ∀(s:List (Bool×Nat)) (listed:Array Bool) (a:Act) (w:World),C w->HeadInv md ops n listed->Region.qX md ops n s listed=true->fB P ops C Lq ops.toList s a w->
  kF P md ops C n (fun listed' a' w'=>Region.seqB md ops (ops.size-n) n listed'=true/\Lq a' w') s.length listed a w
 |(true,k)::s,listed,a,w,hC,inv,hB,h=>by
  simp only[Region.qX,Bool.and_eq_true,decide_eq_true_eq] at hB;obtain⟨⟨⟨⟨hr,hf⟩,hkn⟩,hq⟩,hB⟩:=hB;have hks:k<ops.size:=aB
  obtain⟨o,h0⟩:∃o,ops[k]?=some o:=⟨ops[k],by simp[hks]⟩;have h0':ops.toList[k]?=some o:=GK
  simp only[fB,h0'] at h;have hqo:xo o.op=true:=by rw[h0] at hq;simpa using hq
  rw[List.length_cons];unfold wpQuiet at h;split at h
  ·rename_i hw
   obtain⟨v,h1,h2⟩:=h
   have hy:gD P ops C o v a:=.inl ⟨hw,fun w1 hC1=>by
    have g:=h1 w1 hC1;unfold Oper.quietAt at g;generalize hr1:(execOp a.eval o).run P w1=r at g ⊢;cases r with
    |ok nx w2=>
     cases nx with
     |value u=>obtain⟨e1,e2⟩:=g;rw[e1,e2]
     |_=>exact absurd hr1 (wM hqo (by intro v;simp))
    |halt x w2=>exact g.elim⟩
   exact l9 h0 hsel hs hc hn hkn (fun listed' a' w' hL=>xq hL.1 aH) hC inv hf hr hy
    (kS hsel hs hc hn s _ _ w hC (inv.set El hkn) hB h2)
  ·rename_i hw
   exact l9 h0 hsel hs hc hn hkn (fun listed' a' w' hL=>xq hL.1 aH) hC inv hf hr (.inr ⟨by simpa using hw,rfl⟩)
    (kS hsel hs hc hn s _ _ w hC (inv.set El hkn) hB h)
 |(false,k)::s,listed,a,w,hC,inv,hB,h=>by
  simp only[Region.qX,Bool.and_eq_true,decide_eq_true_eq] at hB;obtain⟨⟨hr,hkn⟩,hB⟩:=hB;have hks:k<ops.size:=aB
  obtain⟨o,h0⟩:∃o,ops[k]?=some o:=⟨ops[k],by simp[hks]⟩;have h0':ops.toList[k]?=some o:=GK
  simp only[fB,h0'] at h;rw[List.length_cons];refine⟨xK,fun i hi=>?_⟩;rw[hr] at hi;obtain rfl:i=k:=Eh
  refine⟨hkn,Er (fun a' w' hC' h3=>?_) (CX h0 h)⟩;exact kS hsel hs hc hn s _ _ w' hC' (inv.set xK hkn) hB h3
 |[],listed,a,w,hC,inv,hB,h=>by
  simp only[Region.qX] at hB;exact⟨hB,h⟩
theorem wN{id:Nat}{Q:Exit->Act->World->Prop}{a:Act}{w:World}{l:List Oper}(n:Nat)(s:List (Bool×Nat))(C:World->Prop)(hm:P.follows .mixedOrders=true)(hB:Region.qY .any l.toArray n s=true)(hC:C (w.drewN 1))
  (h:fB P l.toArray C (fun a' w'=>wpList P l.toArray Q (l.drop n) a' w') l s a (w.drewN 1)):(Code.region id l.toArray true).wp P Q a w:=by
 simp only[Region.qY,Bool.and_eq_true,decide_eq_true_eq] at hB;obtain⟨⟨⟨⟨⟨hsel,hn⟩,hs⟩,hc⟩,hqn⟩,hlex⟩:=hB
 have inv0:HeadInv .any l.toArray n (Array.replicate l.toArray.size false):=
  ⟨bp,fun j oj _ hl=>Zb,fun t _ ht=>getD_in (by simpa using ht) (getD_replicate_false _ _)⟩
 have H:=kS (md:=.any) (Lq:=fun a' w'=>wpList P l.toArray Q (l.drop n) a' w') hsel hs hc hn s _ a _ hC inv0 hlex lD;refine wp_region_any hm ?_;have hdl:(l.drop n).length=l.toArray.size-n:=bp
 have:=jk (Q':=Q) (g:=l.toArray.size-n) (fun listed a' w' hL=>by
  have:=wpAny_of_seq (md:=.any) (Q':=Q) (l.drop n) n listed a' w' (fun j=>by simp[List.getElem?_drop]) (by rw[hdl];exact hL.1) hL.2;rwa [hdl] at this) _ _ _ _ H
 rw[hqn,show n+(l.toArray.size-n)=l.toArray.size by omega] at this;exact this
end
def Held(φ:World->Prop):Type:={W:World // φ W}
def fM(φ:World->Prop):World->Prop:=fun W=>∃x:Held φ,W=x.1
theorem fM.of{φ:World->Prop}{W:World}(h:φ W):fM φ W:=⟨⟨W,h⟩,rfl⟩
theorem iq{P:Program}{id:Nat}{Q:Exit->Act->World->Prop}{a:Act}{w:World}{l:List Oper}(n:Nat)(s:List (Bool×Nat))(φ:World->Prop)(hm:P.follows .mixedOrders=true)(hB:Region.qY .any l.toArray n s=true)(hφ:φ (w.drewN 1))
  (h:Nonempty (Held φ)->fB P l.toArray (fun W=>∃x:Held φ,W=x.1) (fun a' w'=>wpList P l.toArray Q (l.drop n) a' w') l s a (w.drewN 1)):(Code.region id l.toArray true).wp P Q a w:=
 wN n s (fM φ) hm hB (.of hφ) (h ⟨⟨_,hφ⟩⟩)
theorem mD{P:Program}{ops:Array Oper}{C:World->Prop}{R:Act->World->Prop}{l:List Oper}{i:Nat}{s:List (Bool×Nat)}{a:Act}{w:World}{o:Oper}(ho:l[i]?=some o)
  (h:wpQuiet P ops C (fun a'=>fB P ops C R l s a' w) [o] a):fB P ops C R l ((true,i)::s) a w:=by
 simp only[fB,ho];exact h
theorem dY{P:Program}{ops:Array Oper}{C:World->Prop}{R:Act->World->Prop}{l:List Oper}{i:Nat}{s:List (Bool×Nat)}{a:Act}{w:World}{o:Oper}(ho:l[i]?=some o)
  (h:wpList P ops (QN fun a' w'=>C w'/\fB P ops C R l s a' w') [o] a w):fB P ops C R l ((false,i)::s) a w:=by
 simp only[fB,ho];exact h
theorem jl{P:Program}{ops:Array Oper}{C:World->Prop}{R:Act->World->Prop}{l:List Oper}{a:Act}{w:World}(h:R a w):fB P ops C R l [] a w:=h
theorem mT{P:Program}{id:Nat}{Q:Exit->Act->World->Prop}{a:Act}{w:World}{l:List Oper}(hm:P.follows .mixedOrders=true)(hB:Region.lexB .any l.toArray=true)
  (h:wpQuiet P l.toArray (fun W=>∃x:qW w,W=x.1) (fun a'=>∀w',(∃x:qW w,w'=x.1)->Q .normal a' w') l a):(Code.region id l.toArray true).wp P Q a w:=
 wp_region_quiet (C:=fun W=>∃x:qW w,W=x.1) hm hB ⟨⟨w.drewN 1,(aI aF 1)⟩,rfl⟩ lD
theorem xO{w w':World}(h:∃x:qW w,w'=x.1):BL w w':=by
 obtain⟨x,rfl⟩:=h;exact x.2
theorem Calls.xu{P:Program}{f:FuncId}{args:Array Value}{w:World}{x:qW w}{v:Value}
  (h:Calls P f args x.1 fun e w'=>e=.returned v/\Below x.1.heap.size x.1 w'):Calls P f args x.1 fun e w''=>e=.returned v/\∃y:qW w,w''=y.1:=
 h.mono fun _ w' ⟨he,hb⟩=>⟨he,⟨w',x.2.trans (hb.mono x.2.size)⟩,rfl⟩
theorem uR{P:Program}{ops:Array Oper}{C:World->Prop}{R:Act->World->Prop}{l:List Oper}{w:World}{s:List (Bool×Nat)}:∀(is:List Nat) (a:Act),(∀i∈is,i<l.length)->
  wpQuiet P ops C (fun a'=>fB P ops C R l s a' w) (is.filterMap (fun i=>l[i]?)) a->fB P ops C R l (is.map (fun i=>(true,i))++s) a w
 |[],_,_,h=>h
 |i::is,a,hl,h=>by
  have hi:i<l.length:=hl i (List.mem_cons_self ..);have ho:l[i]?=some l[i]:=List.getElem?_eq_getElem hi;have ih:=fun a=>uR (P:=P) (ops:=ops) (C:=C) (R:=R) (w:=w) (s:=s) is a (fun j hj=>hl j (List.mem_cons_of_mem _ hj));rw[List.filterMap_cons,ho] at h;refine mD ho ?_;show wpQuiet P ops C _ [l[i]] a
  unfold wpQuiet at h ⊢;split
  ·rename_i hw
   rw[if_pos hw] at h;exact Oper.quiet_mono (fun a' h'=>ih a' h') h
  ·rename_i hw
   rw[if_neg hw] at h;exact ih _ h
theorem jX{α:Type}(l:List α):∀n,n<=l.length->(List.range n).filterMap (fun i=>l[i]?)=l.take n
 |0,_=>by simp
 |n+1,h=>by
  rw[List.range_succ,List.filterMap_append,jX l n aB,List.take_succ_eq_append_getElem (show n<l.length by omega)];simp[List.getElem?_eq_getElem (show n<l.length by omega)]
theorem jY{P:Program}{ops:Array Oper}{C:World->Prop}{R:Act->World->Prop}{l:List Oper}{w:World}{s:List (Bool×Nat)}(n:Nat)(hn:n<=l.length){a:Act}
  (h:wpQuiet P ops C (fun a'=>fB P ops C R l s a' w) (l.take n) a):fB P ops C R l ((List.range n).map (fun i=>(true,i))++s) a w:=
 uR (List.range n) a (fun i hi=>by have:=List.mem_range.1 hi;omega) (by rw[jX l n hn];exact h)
def aM(A:Nat->Obj->Prop)(n0:Nat)(W W':World):Prop:=Below n0 W W'/\∀(b:Nat) (o:Obj),W.heap[b]?=some o->¬A b o->W'.heap[b]?=some o
theorem aM.refl(A:Nat->Obj->Prop)(n0:Nat)(W:World):aM A n0 W W:=⟨aF,fun _ _ h _=>h⟩
theorem aM.trans{A:Nat->Obj->Prop}{n0:Nat}{W W1 W2:World}(h:aM A n0 W W1)(k:aM A n0 W1 W2):aM A n0 W W2:=
 ⟨h.1.trans k.1,fun b o hb ha=>k.2 b o (h.2 b o hb ha) ha⟩
theorem aM.mono{A A':Nat->Obj->Prop}{n0:Nat}{W W1:World}(h:aM A n0 W W1)(hA:∀b o,A b o->A' b o):aM A' n0 W W1:=
 ⟨h.1,fun b o hb ha=>h.2 b o hb (fun h=>ha (hA b o h))⟩
theorem aM.putObj{A:Nat->Obj->Prop}{n0:Nat}{W:World}{l:Nat}{o:Obj}(o':Obj)(h:W.heap[l]?=some o)(ha:A l o)(hn:n0<=l):aM A n0 W (W.putObj l o'):=by
 have hlt:l<W.heap.size:=(Array.getElem?_eq_some_iff.1 h).1;refine⟨(Below.refl n0 W).grown (grownBy_putObj' W l o') aB (fun k e=>by cases e;omega),fun b o2 hb ha2=>?_⟩;by_cases e:b=l
 ·subst e;rw[h] at hb;cases hb;exact absurd ha ha2
 ·exact(World.putObj_heap_other e).trans hb
theorem aM.alloc{A:Nat->Obj->Prop}{n0:Nat}{W W1:World}(h:aM A n0 W W1)(hn:n0<=W.heap.size)(o:Obj):aM A n0 W (W1.alloc o):=
 ⟨h.1.alloc (Nat.le_trans hn h.1.size) o,fun b o2 hb ha=>(Below.heap_alloc W1 o b (Array.getElem?_eq_some_iff.1 (h.2 b o2 hb ha)).1).trans (h.2 b o2 hb ha)⟩
theorem aM.drewN{A:Nat->Obj->Prop}{n0:Nat}{W W1:World}(h:aM A n0 W W1)(m:Nat):aM A n0 W (W1.drewN m):=⟨aI h.1 m,h.2⟩
theorem aM.setCell{A:Nat->Obj->Prop}{n0:Nat}{W W1:World}(h:aM A n0 W W1){p:Addr}{o:Obj}(hp:W1.heap[p.block]?=some o)(ha:A p.block o)(hn:n0<=p.block)(v:Value):aM A n0 W (W1.setCell p v):=by
 refine h.trans ⟨aF.setCell hn v,fun b o2 hb ha2=>?_⟩;by_cases e:b=p.block
 ·subst e;rw[hp] at hb;cases hb;exact absurd ha ha2
 ·exact(Below.heap_setCell _ _ _ _ e).trans hb
def book:Obj->Prop
 | .loop _=>True
 | .deferred _=>True
 |_=>False
def bF(nB:Nat):Nat->Obj->Prop:=fun b o=>nB<=b/\book o
def ofT(T:List TypeId):Obj->Prop
 | .cells _ t _=>t∈T
 |_=>False
def cellsOf(T:List TypeId):Nat->Obj->Prop:=fun _ o=>ofT T o
attribute [local go_sem] Oper.semAt_some
theorem LA{F:Fence}(hd:F.depth=none)(k:Nat):F.room k:=fun d h=>by rw[hd] at h;cases h
theorem RoundIn.gI{F:Fence}(hd:F.depth=none){m m':Nat}{P:Program}{l:Nat}{f:FuncId}{tmps:Array Value}{assign body:Code}{w:World}{R:Ending->World->Prop}
  (h:RoundIn F m P l f tmps assign body w R):RoundIn F m' P l f tmps assign body w R:=⟨h.1,fun c cs _=>h.2 c cs (LA hd _)⟩
theorem YieldAt.gI{F:Fence}(hd:F.depth=none){m:Nat}(m':Nat){P:Program}{l:Nat}{args:Array Value}{W:World}{R:Ending->World->Prop}(h:YieldAt F m P l args W R):YieldAt F m' P l args W R:=by
 obtain⟨fn,tmps,assign,body,hy,hR⟩:=h;exact⟨fn,tmps,assign,body,hy,RoundIn.gI hd hR⟩
theorem one_cell{W:World}{B:Nat}{t:TypeId}{v:Value}(h:W.heap[B]?=some (.cells #[v] t (0,0))):W.cell? ⟨B,0,none⟩=some v/\W.frozen? ⟨B,0,none⟩=false:=by
 constructor<;>simp[World.cell?,World.frozen?,h]
theorem one_set{W:World}{B:Nat}{t:TypeId}{v:Value}(v':Value)(h:W.heap[B]?=some (.cells #[v] t (0,0))):(W.setCell ⟨B,0,none⟩ v').heap[B]?=some (.cells #[v'] t (0,0)):=by
 obtain⟨hlt,hk⟩:=Array.getElem?_eq_some_iff.1 h;show (W.heap.modify B _)[B]?=_
 rw[Array.getElem?_eq_getElem (by rw[Array.size_modify];exact hlt),Array.getElem_modify_self,hk];rfl
theorem aM.aS{A:Nat->Obj->Prop}{n0:Nat}{w w':World}(h:BL w w')(hn:n0<=w.heap.size):aM A n0 w w':=
 ⟨h.mono hn,fun b _ hb _=>(h.block b (Array.getElem?_eq_some_iff.1 hb).1).trans hb⟩
theorem bG{W:World}{k:Nat}{v:Obj}(o:Obj)(h:W.heap[k]?=some v):(W.alloc o).heap[k]?=some v:=
 (Below.heap_alloc _ _ _ (Array.getElem?_eq_some_iff.1 h).1).trans h
theorem aW{k:Nat}(W:World)(o:Obj)(h:k=W.heap.size):(W.alloc o).heap[k]?=some o:=by
 rw[h];exact World.alloc_heap_new _ _
theorem OO{p:Prop}(h:p:=by
  rcases Nat.eq_zero_or_pos xs.length with h|h
  ·exact List.eq_nil_of_length_eq_zero h
  ·obtain⟨b,o,e⟩:=hok h;cases e):p:=h
theorem WA{p:Prop}(h:p:=by
  have hb3:BL w w1:=(aF.alloc aH _).trans (ht1.below bp (fun b hb=>by simp[Value.ownBlock] at hb;omega))
  clear hI hI1 GR ht1 hq
  go_wp2
  go_ret
  exact⟨_,rfl,tE,hb3⟩):p:=h
theorem tO(xs:List Int)(hx:xs.length<=100000)(v:Value)(S:Nat->Prop)(w:World)(hv:bq S w v xs):
  Calls Tryz.prog 52 #[v] w fun e w'=>∃x,e=.returned x/\bg (w.heap.size<=·) w' x xs/\BL w w':=by
 have hv0:=hv;obtain⟨a,cap,rfl,hok,hcap,hmax⟩:=hv.form;clear hv;cases a with
 |none=>
  have hz:xs=[]:=by
   exact OO
  subst hz
  have hq:∀W,(binOp .eql 22 (.slice none 0 cap) (.slice none 0 0)).run Tryz.prog W=.ok (.bool true) W:=fun W=>Lib.run_eql_slice_nil W 22 3 none 0 cap 0 0 (by kernel_rfl)
  go_enter Tryz.func52,Tryz.ntmps52
  go_wp2
  go_ret
  exact⟨_,rfl,bg.nil _ _,aF⟩
 |some ad=>
  have hq:∀W,(binOp .eql 22 (.slice (some ad) xs.length cap) (.slice none 0 0)).run Tryz.prog W=.ok (.bool false) W:=fun W=>Lib.run_eql_slice_nil W 22 3 (some ad) xs.length cap 0 0 (by kernel_rfl)
  have hI:bg (w.heap.size<=·) (w.alloc (.cells #[] 3)) (.slice (some ⟨w.heap.size,0,none⟩) 0 0) []:=
   ⟨World.ownsRow_made w #[] 0 (Nat.zero_le _) (Nat.zero_le _) bp,fun b hb=>by simp[Value.ownBlock] at hb;omega⟩
  have GR:bq S (w.alloc (.cells #[] 3)) (.slice (some ad) xs.length cap) xs:=bq.keep hv0 (aD.below (aF.alloc aH _))
  go_enter Tryz.func52,Tryz.ntmps52
  go_wp2_with (at_builtin;go_must (refine jW rfl _ _ rfl Tryz.rZ rfl hI aF rfl GR lC ?_))
  intro v1 w1 hI1 ht1
  have tE:bg (w.heap.size<=·) w1 v1 xs:=by
   have:=aX.mono hI1 (fun b _ hb=>gM bp b hb);simpa using this
  exact WA
def iL:=@wpQuiet_nil
def gm:=@List.getElem_mem
def jm:=@List.getD_eq_getElem?_getD
def jZ:=@List.drop_succ_cons
def jP:=@List.drop_zero
def CY:=@List.take_succ_eq_append_getElem
def Ae:=@World.block_lt_of_cell?
def qZ:=@decide_eq_true_eq
def pF:=@Bool.and_eq_true
def mL:=@List.mem_singleton
def xP:=@List.length_append
def kD:=@List.mem_cons
def jQ:=@Below.heap_setCell
def zAr:=@List.getElem_append_right
def TN:=@List.getElem_append_left
def zTl:=@List.take_of_length_le
def LB:=@List.length_take
def Bp:=@List.length_map
def GI:=@List.not_mem_nil
def zMg:=@List.mem_iff_getElem
def lE:=@List.getElem?_eq_getElem
def lg:=@Nat.lt_of_lt_of_le
def mM:=@Option.some.inj
def TQ:=@World.alloc_heap_new
def zOg:=@Option.getD_some
def dQ{α:Type}(n:Nat)(R:World->List Value->α->Prop)(S:Nat->Prop)(w:World)(v:Value)(xs:List α):Prop:=
 ∃a cap,v=.slice a xs.length cap/\dX a xs.length/\xs.length<=cap/\cap<=maxLen/\(0<xs.length->S (bL a))/\
  ∀j (h:j<xs.length),∃us:List Value,us.length=n/\(∀i u,us[i]?=some u->w.cell? ⟨bL a,bP a+j*n+i,none⟩=some u)/\R w us xs[j]
structure cH{α:Type}(RR:(Nat->Prop)->World->List Value->α->Prop):Prop where
 keep:∀{S w w' u x},RR S w u x->aD S w w'->RR S w' u x
 mono:∀{S S':Nat->Prop} {w u x},RR S w u x->(∀b,b<w.heap.size->S b->S' b)->RR S' w u x
theorem dQ.keep{α:Type}{n:Nat}{RR:(Nat->Prop)->World->List Value->α->Prop}(hR:cH RR){S:Nat->Prop}{w w':World}{v:Value}{xs:List α}
  (h:dQ n (RR S) S w v xs)(hk:aD S w w'):dQ n (RR S) S w' v xs:=by
 obtain⟨a,cap,rfl,h1,h2,h3,h4,h5⟩:=h;refine⟨a,cap,rfl,h1,h2,h3,h4,fun j hj=>?_⟩;obtain⟨us,hl,hu,hr⟩:=h5 j hj;refine⟨us,hl,fun i u hi=>?_,hR.keep hr hk⟩;rw[World.cell?_of_block (w:=w) (a:=⟨bL a,bP a+j*n+i,none⟩) (hk _ (h4 aB) (Ae w ⟨bL a,bP a+j*n+i,none⟩ (hu i u hi)))];exact hu i u hi
theorem dQ.mono{α:Type}{n:Nat}(hn:0<n){RR:(Nat->Prop)->World->List Value->α->Prop}(hR:cH RR){S S':Nat->Prop}{w:World}{v:Value}{xs:List α}
  (h:dQ n (RR S) S w v xs)(hS:∀b,b<w.heap.size->S b->S' b):dQ n (RR S') S' w v xs:=by
 obtain⟨a,cap,rfl,h1,h2,h3,h4,h5⟩:=h;refine⟨a,cap,rfl,h1,h2,h3,fun h0=>?_,fun j hj=>?_⟩
 ·obtain⟨us,hl,hu,_⟩:=h5 0 h0
  exact hS _ (Ae w ⟨bL a,bP a+0*n+0,none⟩ (hu 0 (us[0]' aB) (lE aB))) (h4 h0)
 ·obtain⟨us,hl,hu,hr⟩:=h5 j hj
  exact⟨us,hl,hu,hR.mono hr hS⟩
theorem dQ.nil{α:Type}(n:Nat)(R:World->List Value->α->Prop)(S:Nat->Prop)(w:World):dQ n R S w (.slice none 0 0) []:=
 ⟨none,0,rfl,fun h=>absurd h bp,aH,Nat.zero_le _,fun h=>absurd h bp,fun j h=>absurd h bp⟩
theorem dQ.form{α:Type}{n:Nat}{R:World->List Value->α->Prop}{S:Nat->Prop}{w:World}{v:Value}{xs:List α}(h:dQ n R S w v xs):
  ∃a cap,v=.slice a xs.length cap/\dX a xs.length/\xs.length<=cap/\cap<=9223372036854775807:=by
 obtain⟨a,cap,rfl,h1,h2,h3,_⟩:=h;exact⟨a,cap,rfl,h1,h2,h3⟩
theorem dQ.at{α:Type}{n:Nat}{R:World->List Value->α->Prop}{S:Nat->Prop}{w:World}{a:Option Addr}{m cap:Nat}{xs:List α}(h:dQ n R S w (.slice a m cap) xs){j:Nat}(hj:j<xs.length):
  S (bL a)/\∃us:List Value,us.length=n/\(∀i u,us[i]?=some u->w.cell? ⟨bL a,bP a+j*n+i,none⟩=some u)/\R w us xs[j]:=by
 obtain⟨a',cap',he,h1,h2,h3,h4,h5⟩:=h;cases he;exact⟨h4 aB,h5 j hj⟩
theorem qd{β:Type}{n:Nat}:∀(L:List (List β)) (j:Nat) (h:j<L.length) (i:Nat),(∀us∈L,us.length=n)->i<n->L.flatten[j*n+i]?=L[j][i]?
 |[],_,h,_,_,_=>absurd h bp
 |us::L,0,_,i,hl,hi=>by
  rw[List.flatten_cons,List.getElem?_append_left (by rw[hl us bp];omega)];simp
 |us::L,j+1,h,i,hl,hi=>by
  have ih:=qd L j lD i (fun x hx=>hl x CQ) hi;have e:us.length=n:=hl us bp;rw[List.flatten_cons,List.getElem?_append_right (by rw[e,Nat.add_mul];omega),e];have:(j+1)*n+i-n=j*n+i:=by rw[Nat.add_mul];omega
  rw[this,ih];rfl
theorem r8{β:Type}{n:Nat}:∀(L:List (List β)),(∀us∈L,us.length=n)->L.flatten.length=L.length*n
 |[],_=>by simp
 |us::L,hl=>by
  rw[List.flatten_cons,xP,hl us bp,r8 L (fun x hx=>hl x CQ),List.length_cons,Nat.add_mul];omega
theorem Es{β:Type}{n:Nat}:∀(L:List (List β)) (j:Nat) (h:j<L.length) (i:Nat) (x:β),(∀us∈L,us.length=n)->i<n->(L.set j (L[j].set i x)).flatten=L.flatten.set (j*n+i) x
 |[],_,h,_,_,_,_=>absurd h bp
 |us::L,0,_,i,x,hl,hi=>by
  rw[List.set_cons_zero,List.flatten_cons,List.flatten_cons,List.set_append_left _ _ (by rw[hl us bp];omega)];simp
 |us::L,j+1,h,i,x,hl,hi=>by
  have ih:=Es L j lD i x (fun x hx=>hl x CQ) hi;have e:us.length=n:=hl us bp;have:(j+1)*n+i-us.length=j*n+i:=by rw[e,Nat.add_mul];omega
  rw[List.set_cons_succ,List.flatten_cons,List.flatten_cons,List.set_append_right _ _ (by rw[e,Nat.add_mul];omega),this];exact congrArg _ ih
def cU{α:Type}(n:Nat)(RR:(Nat->Prop)->World->List Value->α->Prop)(S:Nat->Prop)(B:Nat)(e:TypeId)(w:World)(v:Value)(xs:List α):Prop:=
 ∃j8:List (List Value),w.ownsRow B e n v xs.length j8.flatten/\j8.length=xs.length/\(∀us∈j8,us.length=n)/\
  ∀j (h1:j<j8.length) (h2:j<xs.length),RR (fun b=>S b/\some b≠v.ownBlock) w j8[j] xs[j]
theorem cU.nil{α:Type}(n:Nat)(RR:(Nat->Prop)->World->List Value->α->Prop)(S:Nat->Prop)(B:Nat)(e:TypeId)(w:World):cU n RR S B e w (.slice none 0 0) []:=
 ⟨[],World.ownsRow_nil _ _ _ _,rfl,fun _ h=>absurd h bp,fun j h=>absurd h bp⟩
theorem AJ{w w':World}{base:Nat}{e:TypeId}{size:Nat}{v:Value}{n:Nat}{us:List Value}(h:w.ownsRow base e size v n us)(hk:∀b,v.ownBlock=some b->b<w.heap.size->w'.heap[b]?=w.heap[b]?):w'.ownsRow base e size v n us:=
 cQ (S:=fun b=>v.ownBlock=some b) h (fun _ hb=>hb) hk
theorem cU.keep{α:Type}{n:Nat}{RR:(Nat->Prop)->World->List Value->α->Prop}(hR:cH RR){S:Nat->Prop}{B:Nat}{e:TypeId}{w w':World}{v:Value}{xs:List α}
  (h:cU n RR S B e w v xs)(hk:aD (fun b=>S b\/v.ownBlock=some b) w w'):cU n RR S B e w' v xs:=by
 obtain⟨j8,h1,h2,h3,h4⟩:=h;exact⟨j8,AJ h1 (fun b hb hlt=>hk b (.inr hb) hlt),h2,h3,fun j g1 g2=>hR.keep (h4 j g1 g2) (fun b hb hlt=>hk b (.inl hb.1) hlt)⟩
theorem cU.below{α:Type}{n:Nat}{RR:(Nat->Prop)->World->List Value->α->Prop}(hR:cH RR){S:Nat->Prop}{B:Nat}{e:TypeId}{w w':World}{v:Value}{xs:List α}
  (h:cU n RR S B e w v xs)(hk:BL w w'):cU n RR S B e w' v xs:=h.keep hR (aD.below hk)
theorem cU.J5{α:Type}{n:Nat}{RR:(Nat->Prop)->World->List Value->α->Prop}(hR:cH RR){S S':Nat->Prop}{B:Nat}{e:TypeId}{w:World}{v:Value}{xs:List α}
  (h:cU n RR S B e w v xs)(hS:∀b,b<w.heap.size->S b->S' b):cU n RR S' B e w v xs:=by
 obtain⟨j8,h1,h2,h3,h4⟩:=h;exact⟨j8,h1,h2,h3,fun j g1 g2=>hR.mono (h4 j g1 g2) (fun b hlt hb=>⟨hS b hlt hb.1,hb.2⟩)⟩
theorem cU.lt{α:Type}{n:Nat}{RR:(Nat->Prop)->World->List Value->α->Prop}{S:Nat->Prop}{B:Nat}{e:TypeId}{w:World}{v:Value}{xs:List α}(h:cU n RR S B e w v xs):
  ∀b,v.ownBlock=some b->B<=b/\b<w.heap.size:=by
 obtain⟨us,h1,_⟩:=h;exact fun b hb=>h1.lt b hb
theorem cU.sl{α:Type}{n:Nat}{RR:(Nat->Prop)->World->List Value->α->Prop}(hR:cH RR){S T:Nat->Prop}{B:Nat}{e:TypeId}{w:World}{v:Value}{xs:List α}
  (h:cU n RR S B e w v xs)(hS:∀b,b<w.heap.size->S b->T b)(hT:∀b,v.ownBlock=some b->T b):dQ n (RR T) T w v xs:=by
 obtain⟨j8,⟨h1,h2⟩,h3,h5,h4⟩:=h;rcases h2 with⟨rfl,h0⟩|⟨g,cap,cur,rfl,hb,hg,hn,hc,hs,ht⟩
 ·obtain rfl:xs=[]:=List.eq_nil_of_length_eq_zero h0
  exact dQ.nil _ _ _ w
 ·refine⟨some ⟨g,0,none⟩,cap,rfl,fun _=>⟨g,0,rfl⟩,hn,hc,fun _=>hT g rfl,fun j hj=>⟨j8[j]' aB,h5 _ (gm _),fun i x hx=>?_,hR.mono (h4 j aB hj) (fun b hlt hb=>hS b hlt hb.1)⟩⟩
  have hi:i<n:=by
   have h6:=(List.getElem?_eq_some_iff.1 hx).1;rw[h5 _ (gm _)] at h6;exact h6
  have hlt:j*n+i<xs.length*n:=by
   have:(j+1)*n<=xs.length*n:=Nat.mul_le_mul_right n aB;rw[Nat.add_mul] at this;omega
  rw[fZ,f9,Nat.zero_add,cell_of_row w g _ cur e (0,0) hg,<-hx,<-qd j8 j aB i h5 hi,<-ht,List.getElem?_take,if_pos hlt];simp
theorem cU.form{α:Type}{n:Nat}{RR:(Nat->Prop)->World->List Value->α->Prop}{S:Nat->Prop}{B:Nat}{e:TypeId}{w:World}{v:Value}{xs:List α}(h:cU n RR S B e w v xs):
  ∃a cap,v=.slice a xs.length cap/\dX a xs.length/\xs.length<=cap/\cap<=9223372036854775807:=by
 obtain⟨j8,⟨h1,h2⟩,h3,h5,h4⟩:=h;rcases h2 with⟨rfl,h0⟩|⟨g,cap,cur,rfl,hb,hg,hn,hc,hs,ht⟩
 ·obtain rfl:xs=[]:=List.eq_nil_of_length_eq_zero h0
  exact⟨none,0,rfl,fun h=>absurd h bp,aH,aB⟩
 ·exact⟨_,cap,rfl,fun _=>⟨g,0,rfl⟩,hn,hc⟩
theorem cU.abR{α:Type}{n:Nat}{RR:(Nat->Prop)->World->List Value->α->Prop}(hR:cH RR){S:Nat->Prop}{B:Nat}{e:TypeId}{w w0 w':World}{v v':Value}{xs ys:List α}{j8 AL:List (List Value)}
  (hl:j8.length=xs.length)(hc:∀us∈j8,us.length=n)(hr:∀j (h1:j<j8.length) (h2:j<xs.length),RR (fun b=>S b/\some b≠v.ownBlock) w j8[j] xs[j])
  (hl':AL.length=ys.length) (hc':∀us∈AL,us.length=n) (hr':∀j (h1:j<AL.length) (h2:j<ys.length),RR (fun b=>S b/\some b≠v.ownBlock) w AL[j] ys[j]) (hb:BL w w0)
  (hown:w'.ownsRow B e n v' (xs.length+ys.length) (j8.flatten++AL.flatten))(hg:w0.grownBy w' v.ownBlock)(hn:v'.ownBlock=v.ownBlock\/v'.ownBlock=some w0.heap.size):cU n RR S B e w' v' (xs++ys):=by
 have key:∀{u x},RR (fun b=>S b/\some b≠v.ownBlock) w u x->RR (fun b=>S b/\some b≠v'.ownBlock) w' u x:=by
  intro u x h;have hsz:=hb.size;have h1:=hR.mono (S':=fun b=>(S b/\some b≠v.ownBlock)/\b<w.heap.size) h (fun b hlt hb'=>⟨hb',hlt⟩);have h2:=hR.keep (w':=w') h1 (fun b hb' _=>(hg.block b aB hb'.1.2).trans (hb.block b hb'.2));refine hR.mono h2 (fun b _ hb'=>⟨hb'.1.1,?_⟩);rcases hn with hn|hn
  ·rw[hn];exact hb'.1.2
  ·rw[hn];intro e';have:=mM e';omega
 refine⟨j8++AL,by simpa using hown,by simp[hl,hl'],fun us qF=>?_,fun j h1 h2=>?_⟩
 ·rcases List.mem_append.1 qF with qF|qF
  ·exact hc us qF
  ·exact hc' us qF
 by_cases hj:j<j8.length
 ·rw[TN hj,TN aB]
  exact key (hr j hj aB)
 ·rw[xP] at h1 h2
  rw[zAr aB,zAr aB];simp only[hl];exact key (hr' _ aB aB)
section
variable {P:Program} {w:World} {t e:TypeId} {n bytes:Nat} {ops:Array Oper} {rest:List Oper} {o:Oper} {a:Act} {Q:Exit->Act->World->Prop} {α:Type} {RR:(Nat->Prop)->World->List Value->α->Prop}
theorem di(hR:cH RR)(hgd:o.guard=none)(s x:Operand)
  (ho:o.op=.call {callee:=.builtin .append,args:=#[s,x],argTypes:=#[t,t]})(hT:jh P t e n bytes)
  {S:Nat->Prop}{B:Nat}{v:Value}{xs:List α}(hs:a.eval s=v)(hown:cU n RR S B e w v xs)
  {us:List Value}{cs:Array Value}{e':TypeId}(hx:a.eval x=.slice (some ⟨w.heap.size,0,none⟩) 1 1)(hcs:cs=us.toArray)(qF:us.length=n)(y:α)(hu:RR (fun b=>S b/\some b≠v.ownBlock) w us y)(h1:∀u∈us,u.oneCell'=true)
  (hsmall:xs.length+1<=1000000000)(hbase:B<=w.heap.size)
  (h:∀v' w',cU n RR S B e w' v' (xs++[y])->Turns (fun b=>some b=v.ownBlock) w w'->(v'.ownBlock=v.ownBlock\/∃b,v'.ownBlock=some b/\w.heap.size<=b)->wpList P ops Q rest (a.put o.dst v') w'):
  wpList P ops Q (o::rest) a (w.alloc (.cells cs e')):=by
 subst hcs;obtain⟨j8,h2,h3,h5,h4⟩:=hown;have ha:BL w (w.alloc (.cells us.toArray e')):=aF.alloc aH _;refine gB hgd s x ho hT hs (h2.alloc _) _ 1 1 hx (fun _=>⟨_,_,rfl⟩) us (by simp[qF]) (by simpa using gY w us.toArray e') h1 hsmall lC (fun v' w' g1 g2 g3=>?_);refine h v' w' (cU.abR hR h3 h5 h4 (AL:=[us]) (ys:=[y]) rfl (by simp[qF]) (fun j j1 j2=>?_) ha J2 g2 g3) ?_ ?_
 ·obtain rfl:j=0:=by simpa using j1
  exact hu
 ·exact(Turns.aS ha).trans (Turns.fI g2 (fun b hb=>hb.symm))
 ·rcases g3 with g3|g3
  ·exact .inl g3
  ·exact .inr ⟨_,g3,bp⟩
theorem gy(hR:cH RR)(hgd:o.guard=none)(s x:Operand)
  (ho:o.op=.call {callee:=.builtin .append,args:=#[s,x],argTypes:=#[t,t]})(hT:jh P t e n bytes)
  {S T T':Nat->Prop} {B:Nat} {v xv:Value} {xs ys:List α} (hs:a.eval s=v) (hown:cU n RR S B e w v xs)
  (hx:a.eval x=xv)(hy:dQ n (RR T) T' w xv ys)(hST:∀b,b<w.heap.size->T b->S b/\some b≠v.ownBlock)(h1:∀us (y:α),RR T w us y->∀u∈us,u.oneCell'=true)
  (hsmall:xs.length+ys.length<=1000000000)(hbase:B<=w.heap.size)
  (h:∀v' w',cU n RR S B e w' v' (xs++ys)->Turns (fun b=>some b=v.ownBlock) w w'->(v'.ownBlock=v.ownBlock\/∃b,v'.ownBlock=some b/\w.heap.size<=b)->wpList P ops Q rest (a.put o.dst v') w'):
  wpList P ops Q (o::rest) a w:=by
 obtain⟨j8,h2,h3,h5,h4⟩:=hown;obtain⟨ao,cap,rfl,hok,hcap,hmax,hTb,hcell⟩:=hy
 obtain⟨AL,hvl,hvc,LC⟩:∃AL:List (List Value),AL.length=ys.length/\(∀us∈AL,us.length=n)/\
   ∀j (g1:j<AL.length) (g2:j<ys.length),(∀i u,(AL[j])[i]?=some u->w.cell? ⟨bL ao,bP ao+j*n+i,none⟩=some u)/\RR T w AL[j] ys[j]:=by
  have hch:∀j:Nat,∃us:List Value,∀hj:j<ys.length,us.length=n/\(∀i u,us[i]?=some u->w.cell? ⟨bL ao,bP ao+j*n+i,none⟩=some u)/\RR T w us ys[j]:=fun j=>by
   by_cases hj:j<ys.length
   ·obtain⟨us,q1,q2,q3⟩:=hcell j hj
    exact⟨us,fun _=>⟨q1,q2,q3⟩⟩
   ·exact⟨[],fun h=>absurd h hj⟩
  obtain⟨f,hf⟩:=Classical.axiomOfChoice hch;refine⟨(List.range ys.length).map f,bp,fun us qF=>?_,fun j g1 g2=>?_⟩
  ·obtain⟨j,hj,rfl⟩:=List.mem_map.1 qF
   exact(hf j mP).1
  ·have:=hf j g2
   simp only[List.getElem_map,List.getElem_range];exact⟨this.2.1,this.2.2⟩
 refine gB hgd s x ho hT hs h2 ao ys.length cap hx hok AL.flatten (by rw[r8 AL hvc,hvl]) (fun j u hju=>?_) (fun u hu=>?_) hsmall hbase (fun v' w' g1 g2 g3=>?_)
 ·rcases Nat.eq_zero_or_pos n with h0|h0
  ·exfalso
   subst h0;have h7:=(List.getElem?_eq_some_iff.1 hju).1;rw[r8 AL hvc] at h7;omega
  have hjl:j<AL.length*n:=by
   have h7:=(List.getElem?_eq_some_iff.1 hju).1;rwa [r8 AL hvc] at h7
  have hq:j / n<AL.length:=Nat.div_lt_of_lt_mul (by rw[Nat.mul_comm];exact hjl);have hm:j % n<n:=Nat.mod_lt _ h0;have e1:j / n*n+j % n=j:=by rw[Nat.mul_comm];exact Nat.div_add_mod j n
  have h8:=qd AL (j / n) hq (j % n) hvc hm;rw[e1,hju] at h8;have h9:=(LC (j / n) hq aB).1 (j % n) u h8.symm;rw[Nat.add_assoc,e1] at h9;exact h9
 ·obtain⟨us,qF,mU⟩:=List.mem_flatten.1 hu
  obtain⟨j,hj,rfl⟩:=List.getElem_of_mem qF;exact h1 _ _ (LC j hj aB).2 u mU
 ·refine h v' w' (cU.abR hR h3 h5 h4 hvl hvc (fun j j1 j2=>hR.mono (LC j j1 j2).2 hST) aF g1 g2 g3) (Turns.fI g2 (fun b hb=>hb.symm)) ?_
  rcases g3 with g3|g3
  ·exact .inl g3
  ·exact .inr ⟨_,g3,aH⟩
end
theorem qG{w:World}{base size:Nat}{e:TypeId}{g n cap:Nat}{us:List Value}(h:w.ownsRow base e size (.slice (some ⟨g,0,none⟩) n cap) n us)(j:Nat)(u:Value):
  (w.setCell ⟨g,j,none⟩ u).ownsRow base e size (.slice (some ⟨g,0,none⟩) n cap) n (us.set j u):=by
 exact Wx
theorem cU.put{α:Type}{n:Nat}{RR:(Nat->Prop)->World->List Value->α->Prop}(hR:cH RR){S:Nat->Prop}{B:Nat}{e:TypeId}{w:World}{g m cap:Nat}{xs:List α}
  (h:cU n RR S B e w (.slice (some ⟨g,0,none⟩) m cap) xs)(hm:m=xs.length){j i:Nat}(hj:j<xs.length)(hi:i<n)(y:α)(x:Value)
  (hy:∀us,RR (fun b=>S b/\b≠g) w us xs[j]->RR (fun b=>S b/\b≠g) w (us.set i x) y):
  cU n RR S B e (w.setCell ⟨g,j*n+i,none⟩ x) (.slice (some ⟨g,0,none⟩) m cap) (xs.set j y):=by
 subst hm;obtain⟨j8,h1,h2,h3,h4⟩:=h
 have hkeep:aD (fun b=>S b/\some b≠(Value.slice (some ⟨g,0,none⟩) xs.length cap).ownBlock) w (w.setCell ⟨g,j*n+i,none⟩ x):=fun b hb _=>
  jQ _ _ _ _ (fun e=>hb.2 tL)
 refine⟨j8.set j ((j8[j]' aB).set i x),?_,by simp[h2],fun us qF=>?_,fun k k1 k2=>?_⟩
 ·rw[Es j8 j aB i x h3 hi,List.length_set]
  exact qG h1 _ _
 ·rcases List.mem_or_eq_of_mem_set qF with qF|rfl
  ·exact h3 _ qF
  ·rw[List.length_set];exact h3 _ (gm _)
 ·rw[List.length_set] at k1 k2
  by_cases e:j=k
  ·subst e
   simp only[List.getElem_set_self];have h5:=hy _ (hR.mono (h4 j aB hj) (fun b _ hb=>⟨hb.1,fun e=>hb.2 tL⟩));exact hR.keep (hR.mono h5 (fun b _ hb=>⟨hb.1,fun e=>hb.2 (mM e)⟩)) hkeep
  ·simp only[List.getElem_set_ne e]
   exact hR.keep (h4 k k1 k2) hkeep
theorem aN{w:World}{F:Nat}{cs:Array Value}{t:TypeId}(h:w.heap[F]?=some (.cells cs t (0,0)))(i:Nat):w.cell? ⟨F,i,none⟩=cs[i]?:=by simp[World.cell?,h]
theorem dJ{w:World}{F:Nat}{cs:Array Value}{t:TypeId}(h:w.heap[F]?=some (.cells cs t (0,0)))(i:Nat):w.frozen? ⟨F,i,none⟩=false:=by simp[World.frozen?,h]
theorem aC{w:World}{F:Nat}{o:Obj}(h:w.heap[F]?=some o):F<w.heap.size:=(Array.getElem?_eq_some_iff.1 h).1
theorem dK{w:World}{F:Nat}{x0 x1 x2 x3 x4 x5 x6 x7:Value}{t:TypeId}(h:w.heap[F]?=some (.cells #[x0,x1,x2,x3,x4,x5,x6,x7] t (0,0))):
  (w.cell? ⟨F,0,none⟩=some x0/\w.cell? ⟨F,1,none⟩=some x1/\w.cell? ⟨F,2,none⟩=some x2/\w.cell? ⟨F,3,none⟩=some x3/\w.cell? ⟨F,4,none⟩=some x4/\w.cell? ⟨F,5,none⟩=some x5/\w.cell? ⟨F,6,none⟩=some x6/\w.cell? ⟨F,7,none⟩=some x7)/\∀i,w.frozen? ⟨F,i,none⟩=false:=
 ⟨⟨aN h 0,aN h 1,aN h 2,aN h 3,aN h 4,aN h 5,aN h 6,aN h 7⟩,dJ h⟩
theorem bC{w:World}{F:Nat}{x0 x1 x2 x3:Value}{t:TypeId}(h:w.heap[F]?=some (.cells #[x0,x1,x2,x3] t (0,0))):
  (w.cell? ⟨F,0,none⟩=some x0/\w.cell? ⟨F,1,none⟩=some x1/\w.cell? ⟨F,2,none⟩=some x2/\w.cell? ⟨F,3,none⟩=some x3)/\∀i,w.frozen? ⟨F,i,none⟩=false:=
 ⟨⟨aN h 0,aN h 1,aN h 2,aN h 3⟩,dJ h⟩
def iG(F:Nat)(cs:Array Value)(t:TypeId)(W:World):Prop:=W.heap[F]?=some (.cells cs t (0,0))
theorem Turns.into{S T:Nat->Prop}{w w1 w2:World}(h:Turns S w w1)(k:Turns T w1 w2)(hT:∀x,x<w.heap.size->T x->S x):Turns S w w2:=
 ⟨k.os.trans h.os,k.tape.trans h.tape,k.output.trans h.output,Nat.le_trans h.size k.size,fun b hb hlt=>(k.block b (fun ht=>hb (hT b hlt ht)) (lg hlt h.size)).trans (h.block b hb hlt)⟩
theorem Turns.alloc{S:Nat->Prop}{w w1:World}(h:Turns S w w1)(o:Obj):Turns S w (w1.alloc o):=h.trans (Turns.aS (aF.alloc aH _))
theorem Turns.setCell_new{S:Nat->Prop}{w w1:World}(h:Turns S w w1)(a:Addr)(v:Value)(ha:w.heap.size<=a.block):Turns S w (w1.setCell a v):=
 h.into ((Turns.refl (·=a.block) w1).setCell a v rfl) (fun x hx e=>by omega)
theorem Turns.drewN{S:Nat->Prop}{w w1:World}(h:Turns S w w1)(n:Nat):Turns S w (w1.drewN n):=⟨h.os,h.tape,h.output,h.size,h.block⟩
theorem bg.xQ{S:Nat->Prop}{w:World}{v:Value}{xs:List Int}(h:bg S w v xs)(h0:0<xs.length):
  ∃g cap,v=.slice (some ⟨g,0,none⟩) xs.length cap/\S g/\g<w.heap.size/\∀j (_:j<xs.length),(∃x,w.cell? ⟨g,j,none⟩=some (.int .i64 x))/\w.frozen? ⟨g,j,none⟩=false:=by
 obtain⟨g,cap,rfl,h1,h2,h3,h4⟩:=eV h.1 h0;refine⟨g,cap,rfl,h.2 g rfl,(h.1.lt g rfl).2,fun j hj=>?_⟩;obtain⟨h5,h6⟩:=h4 j mP;exact⟨⟨xs[j],by simpa using h5⟩,h6⟩
theorem bg.set{S:Nat->Prop}{w:World}{g n cap:Nat}{xs:List Int}(h:bg S w (.slice (some ⟨g,0,none⟩) n cap) xs)(hn:n=xs.length)(j:Nat)(x:Int):
  bg S (w.setCell ⟨g,j,none⟩ (.int .i64 x)) (.slice (some ⟨g,0,none⟩) n cap) (xs.set j x):=by
 subst hn;refine⟨?_,h.2⟩;rw[List.length_set,List.map_set];exact pu h.1 j _
theorem Et{W:World}{K:Nat}{x0 x1 x2 x3:Value}{t:TypeId}(h:W.heap[K]?=some (.cells #[x0,x1,x2,x3] t (0,0)))(y0 y1 y2 y3:Value):
  ((((W.setCell ⟨K,0,none⟩ y0).setCell ⟨K,1,none⟩ y1).setCell ⟨K,2,none⟩ y2).setCell ⟨K,3,none⟩ y3).heap[K]?=some (.cells #[y0,y1,y2,y3] t (0,0))/\
   Turns (·=K) W ((((W.setCell ⟨K,0,none⟩ y0).setCell ⟨K,1,none⟩ y1).setCell ⟨K,2,none⟩ y2).setCell ⟨K,3,none⟩ y3):=
 ⟨heap_setCell_same _ K 3 _ _ y3 (heap_setCell_same _ K 2 _ _ y2 (heap_setCell_same _ K 1 _ _ y1 (heap_setCell_same _ K 0 _ _ y0 h))),
  ((((Turns.refl (·=K) W).setCell ⟨K,0,none⟩ y0 rfl).setCell ⟨K,1,none⟩ y1 rfl).setCell ⟨K,2,none⟩ y2 rfl).setCell ⟨K,3,none⟩ y3 rfl⟩
theorem cU.xQ{α:Type}{n:Nat}{RR:(Nat->Prop)->World->List Value->α->Prop}{S:Nat->Prop}{B:Nat}{e:TypeId}{w:World}{a:Option Addr}{m c:Nat}{xs:List α}(h:cU n RR S B e w (.slice a m c) xs)(h0:0<xs.length):
  ∃g,a=some ⟨g,0,none⟩/\m=xs.length/\B<=g/\g<w.heap.size/\∀i,w.frozen? ⟨g,i,none⟩=false:=by
 obtain⟨j8,⟨h1,h2⟩,h3,h5,h4⟩:=h;rcases h2 with⟨e',h0'⟩|⟨g,cap,cur,e',hb,hg,hn,hc,hs,ht⟩
 ·cases e';omega
 ·cases e'
  exact⟨g,rfl,rfl,hb,aC hg,dJ hg⟩
theorem mV{W:World}{F y:Nat}(_:Unit)(h:y≠F)(x0 x1 x2 x3 x4 x5 x6 x7:Value):
  ((((((((W.setCell ⟨F,0,none⟩ x0).setCell ⟨F,1,none⟩ x1).setCell ⟨F,2,none⟩ x2).setCell ⟨F,3,none⟩ x3).setCell ⟨F,4,none⟩ x4).setCell ⟨F,5,none⟩ x5).setCell ⟨F,6,none⟩ x6).setCell ⟨F,7,none⟩ x7).heap[y]?=W.heap[y]?:=by
 rw[jQ _ ⟨F,7,none⟩ _ y h,jQ _ ⟨F,6,none⟩ _ y h,jQ _ ⟨F,5,none⟩ _ y h,jQ _ ⟨F,4,none⟩ _ y h,jQ _ ⟨F,3,none⟩ _ y h,jQ _ ⟨F,2,none⟩ _ y h,
  jQ _ ⟨F,1,none⟩ _ y h,jQ _ ⟨F,0,none⟩ _ y h]
theorem cU.at{α:Type}{n:Nat}{RR:(Nat->Prop)->World->List Value->α->Prop}{S:Nat->Prop}{B:Nat}{e:TypeId}{w:World}{g m c:Nat}{xs:List α}(h:cU n RR S B e w (.slice (some ⟨g,0,none⟩) m c) xs){j:Nat}(hj:j<xs.length):
  ∃us:List Value,us.length=n/\(∀i u,us[i]?=some u->w.cell? ⟨g,j*n+i,none⟩=some u)/\RR (fun b=>S b/\b≠g) w us xs[j]:=by
 obtain⟨j8,⟨h1,h2⟩,h3,h5,h4⟩:=h;rcases h2 with⟨e',h0⟩|⟨g',cap,cur,e',hb,hg,hn,hc,hs,ht⟩
 ·cases e'
 ·cases e'
  refine⟨j8[j]' aB,h5 _ (gm _),fun i x hx=>?_,?_⟩
  ·have hi:i<n:=by
    have h6:=(List.getElem?_eq_some_iff.1 hx).1
    rw[h5 _ (gm _)] at h6
    exact h6
   have hlt:j*n+i<xs.length*n:=by
    have:(j+1)*n<=xs.length*n:=Nat.mul_le_mul_right n aB;rw[Nat.add_mul] at this;omega
   rw[cell_of_row w g _ cur e (0,0) hg,<-hx,<-qd j8 j aB i h5 hi,<-ht,List.getElem?_take,if_pos hlt];simp
  ·have:=h4 j aB hj
   have e2:(fun b=>S b/\some b≠(Value.slice (some ⟨g,0,none⟩) xs.length c).ownBlock)=fun b=>S b/\b≠g:=by
    funext b;simp[Value.ownBlock]
   rw[e2] at this;exact this
theorem cU.xR{α:Type}{n:Nat}{RR:(Nat->Prop)->World->List Value->α->Prop}{S:Nat->Prop}{B:Nat}{e:TypeId}{w:World}{g:Nat}(h:w.heap[g]?=some (.cells #[] e (0,0)))(hB:B<=g):cU (α:=α) n RR S B e w (.slice (some ⟨g,0,none⟩) 0 0) []:=
 ⟨[],⟨bp,.inr ⟨g,0,#[],rfl,hB,h,aH,xJ,bp,bp⟩⟩,rfl,bp,fun j h=>absurd h bp⟩
theorem cU.free{α:Type}{n:Nat}{RR:(Nat->Prop)->World->List Value->α->Prop}{S:Nat->Prop}{B:Nat}{e:TypeId}{w:World}{g m c:Nat}{xs:List α}(h:cU n RR S B e w (.slice (some ⟨g,0,none⟩) m c) xs):
  ∀i,w.frozen? ⟨g,i,none⟩=false:=by
 obtain⟨j8,⟨h1,h2⟩,h3,h5,h4⟩:=h;rcases h2 with⟨e',h0'⟩|⟨g',cap,cur,e',hb,hg,hn,hc,hs,ht⟩
 ·cases e'
 ·cases e'
  exact dJ hg
theorem mE{w:World}{F:Nat}{x0 x1 x2 x3 x4:Value}{t:TypeId}(h:w.heap[F]?=some (.cells #[x0,x1,x2,x3,x4] t (0,0))):
  (w.cell? ⟨F,0,none⟩=some x0/\w.cell? ⟨F,1,none⟩=some x1/\w.cell? ⟨F,2,none⟩=some x2/\w.cell? ⟨F,3,none⟩=some x3/\w.cell? ⟨F,4,none⟩=some x4)/\∀i,w.frozen? ⟨F,i,none⟩=false:=
 ⟨⟨aN h 0,aN h 1,aN h 2,aN h 3,aN h 4⟩,dJ h⟩
theorem TR{W:World}{K:Nat}{x0 x1 x2 x3 x4:Value}{t:TypeId}(h:W.heap[K]?=some (.cells #[x0,x1,x2,x3,x4] t (0,0)))(y0 y1 y2 y3 y4:Value):
  (((((W.setCell ⟨K,0,none⟩ y0).setCell ⟨K,1,none⟩ y1).setCell ⟨K,2,none⟩ y2).setCell ⟨K,3,none⟩ y3).setCell ⟨K,4,none⟩ y4).heap[K]?=some (.cells #[y0,y1,y2,y3,y4] t (0,0))/\
   Turns (·=K) W (((((W.setCell ⟨K,0,none⟩ y0).setCell ⟨K,1,none⟩ y1).setCell ⟨K,2,none⟩ y2).setCell ⟨K,3,none⟩ y3).setCell ⟨K,4,none⟩ y4):=
 ⟨heap_setCell_same _ K 4 _ _ y4 (heap_setCell_same _ K 3 _ _ y3 (heap_setCell_same _ K 2 _ _ y2 (heap_setCell_same _ K 1 _ _ y1 (heap_setCell_same _ K 0 _ _ y0 h)))),
  (((((Turns.refl (·=K) W).setCell ⟨K,0,none⟩ y0 rfl).setCell ⟨K,1,none⟩ y1 rfl).setCell ⟨K,2,none⟩ y2 rfl).setCell ⟨K,3,none⟩ y3 rfl).setCell ⟨K,4,none⟩ y4 rfl⟩
theorem aD.fF{S T:Nat->Prop}{w w':World}(h:Turns T w w')(hS:∀x,S x->¬T x):aD S w w':=fun b hb hlt=>h.block b (hS b hb) hlt
theorem GS{W:World}{K:Nat}{x0 x1 x2 x3 x4 x5 x6 x7:Value}{t:TypeId}(h:W.heap[K]?=some (.cells #[x0,x1,x2,x3,x4,x5,x6,x7] t (0,0)))(y0 y1 y2 y3 y4 y5 y6 y7:Value):
  ((((((((W.setCell ⟨K,0,none⟩ y0).setCell ⟨K,1,none⟩ y1).setCell ⟨K,2,none⟩ y2).setCell ⟨K,3,none⟩ y3).setCell ⟨K,4,none⟩ y4).setCell ⟨K,5,none⟩ y5).setCell ⟨K,6,none⟩ y6).setCell ⟨K,7,none⟩ y7).heap[K]?=some (.cells #[y0,y1,y2,y3,y4,y5,y6,y7] t (0,0))/\
   Turns (·=K) W ((((((((W.setCell ⟨K,0,none⟩ y0).setCell ⟨K,1,none⟩ y1).setCell ⟨K,2,none⟩ y2).setCell ⟨K,3,none⟩ y3).setCell ⟨K,4,none⟩ y4).setCell ⟨K,5,none⟩ y5).setCell ⟨K,6,none⟩ y6).setCell ⟨K,7,none⟩ y7):=by
 have h0:=heap_setCell_same W K 0 #[x0,x1,x2,x3,x4,x5,x6,x7] t y0 h;have h1:=heap_setCell_same _ K 1 #[y0,x1,x2,x3,x4,x5,x6,x7] t y1 h0;have h2:=heap_setCell_same _ K 2 #[y0,y1,x2,x3,x4,x5,x6,x7] t y2 h1;have h3:=heap_setCell_same _ K 3 #[y0,y1,y2,x3,x4,x5,x6,x7] t y3 h2;have h4:=heap_setCell_same _ K 4 #[y0,y1,y2,y3,x4,x5,x6,x7] t y4 h3;have h5:=heap_setCell_same _ K 5 #[y0,y1,y2,y3,y4,x5,x6,x7] t y5 h4;have h6:=heap_setCell_same _ K 6 #[y0,y1,y2,y3,y4,y5,x6,x7] t y6 h5;have h7:=heap_setCell_same _ K 7 #[y0,y1,y2,y3,y4,y5,y6,x7] t y7 h6;refine⟨h7,?_⟩;have t1:=(((Turns.refl (·=K) W).setCell ⟨K,0,none⟩ y0 rfl).setCell ⟨K,1,none⟩ y1 rfl).setCell ⟨K,2,none⟩ y2 rfl;have t2:=(t1.setCell ⟨K,3,none⟩ y3 rfl).setCell ⟨K,4,none⟩ y4 rfl;exact((t2.setCell ⟨K,5,none⟩ y5 rfl).setCell ⟨K,6,none⟩ y6 rfl).setCell ⟨K,7,none⟩ y7 rfl
theorem eO(w:World)(p:Addr)(v:Value)(h:∀xh:Held (BL w),xh.1.cell? p=some v):∀xh:Held (BL w),xh.1.cell? p=some v:=h
theorem WB{w:World}{b:Nat}{x0 x1 x2 x3:Value}{t:TypeId}(h:∀V,Below w.heap.size w V->V.heap[b]?=some (.cells #[x0,x1,x2,x3] t (0,0))):(∀xh:Held (BL w),xh.1.cell? ⟨b,0,none⟩=some x0)/\(∀xh:Held (BL w),xh.1.cell? ⟨b,1,none⟩=some x1)/\(∀xh:Held (BL w),xh.1.cell? ⟨b,2,none⟩=some x2)/\(∀xh:Held (BL w),xh.1.cell? ⟨b,3,none⟩=some x3):=⟨fun xh=>(bC (h xh.1 xh.2)).1.1,fun xh=>(bC (h xh.1 xh.2)).1.2.1,fun xh=>(bC (h xh.1 xh.2)).1.2.2.1,fun xh=>(bC (h xh.1 xh.2)).1.2.2.2⟩
theorem tP{α:Type}{R:World->Value->α->Prop}{S:Nat->Prop}{w:World}{g:Nat}{vs:List Value}{xs:List α}{t:TypeId}(hb:w.heap[g]?=some (.cells vs.toArray t (0,0))){m:Nat}(hx:xs.length=m)(hl:vs.length=xs.length)(hm:xs.length<=1000)(hS:S g)
  (hR:∀j (h1:j<vs.length) (h2:j<xs.length),R w vs[j] xs[j]):eU R S w (.slice (some ⟨g,0,none⟩) m m) xs:=by
 subst hx;refine⟨some ⟨g,0,none⟩,xs.length,rfl,fun _=>⟨_,_,rfl⟩,aH,xJ,fun _=>hS,fun j hj=>⟨vs[j]' aB,?_,hR j aB hj⟩⟩;show w.cell? ⟨g,0+j,none⟩=_
 rw[Nat.zero_add,aN hb];simp[hl,hj]
theorem Bq{α:Type}{n:Nat}{R:World->List Value->α->Prop}{S:Nat->Prop}{w:World}{g:Nat}(j8:List (List Value)){xs:List α}{t:TypeId}(hb:w.heap[g]?=some (.cells j8.flatten.toArray t (0,0))){m:Nat}(hx:xs.length=m)(hl:j8.length=xs.length)(hn:∀us∈j8,us.length=n)(hm:xs.length<=1000)(hS:S g)
  (hR:∀j (h1:j<j8.length) (h2:j<xs.length),R w j8[j] xs[j]):dQ n R S w (.slice (some ⟨g,0,none⟩) m m) xs:=by
 subst hx;refine⟨some ⟨g,0,none⟩,xs.length,rfl,fun _=>⟨_,_,rfl⟩,aH,xJ,fun _=>hS,fun j hj=>⟨j8[j]' aB,hn _ (gm _),fun i u hu=>?_,hR j aB hj⟩⟩;have hj':j<j8.length:=aB
 have hi:i<n:=by
  have:=(List.getElem?_eq_some_iff.1 hu).1;rw[hn _ (gm hj')] at this;exact this
 show w.cell? ⟨g,0+j*n+i,none⟩=_
 rw[Nat.zero_add,aN hb,List.getElem?_toArray,qd j8 j hj' i hn hi];exact hu
end Go.Proofs.YtibacilhkciihaaGreatDoor
namespace Go.Proofs.YtibacilhkciihaaGreatDoor.ah
abbrev Nm:=ByteArray
structure cD where
 name:Nm
 of:Nm
 up:Nm
 kind:Int
 lo:Int
 hi:Int
 cB:List Nm
 bO:List Int
structure dZ where
 name:Nm
 lo:Int
 hi:Int
 aG:List cD
structure DV where
 name:Nm
 dw:List Nm
 iw:List (Int×Int)
structure tQ where
 name:Nm
 kind:Nm
 a:Nm
 b:Nm
 n:Int
structure cA where
 aL:Int
 aA:List dZ
 aP:List DV
 aR:List tQ
def nil:Nm:=⟨#[]⟩
def uS:cD:=⟨nil,nil,nil,0,0,0,[],[]⟩
def mF(c:UInt8):Bool:=decide (97<=c.toNat)&&decide (c.toNat<=122)
def q9(c:UInt8):Bool:=decide (48<=c.toNat)&&decide (c.toNat<=57)
def aY(s:Nm):Bool:=decide (1<=s.size)&&decide (s.size<=12)&&mF (s.data.getD 0 0)&&s.data.toList.all fun c=>mF c||q9 c
def qA(n least most:Int):Bool:=decide (least<=n)&&decide (n<=most)
def fJ(lo hi least most:Int):Bool:=decide (least<=lo)&&decide (lo<=hi)&&decide (hi<=most)
def rq(l:List Int):Int:=l.foldl (·+·) 0
def jR(ws:List Nm)(gs:List Int):Bool:=gs.all (fun n=>qA n 0 1048576)&&qA ws.length 1 12&&decide (ws.length=gs.length)&&decide (0<rq gs)&&ws.all aY
def mg(f:cD):Bool:=
 (decide (f.of=nil)||decide (f.kind=1)||decide (f.kind=4)||decide (f.kind=5)||decide (f.kind=6)||decide (f.kind=7)||decide (f.kind=8))&&
 (decide (f.up=nil)||decide (f.kind=7)||decide (f.kind=8))&&
 (decide (f.lo=0)||decide (f.kind=0)||decide (f.kind=1)||decide (f.kind=2)||decide (f.kind=4)||decide (f.kind=5)||decide (f.kind=7))&&
 (decide (f.hi=0)||decide (f.kind=1)||decide (f.kind=2)||decide (f.kind=4)||decide (f.kind=5)||decide (f.kind=7))&&
 (decide (f.cB=[])||decide (f.kind=3))&&(decide (f.bO=[])||decide (f.kind=3))
def lG(f:cD):Bool:=
 if f.kind=0 then qA f.lo (-1048576) 1048576
 else if f.kind=1 then aY f.of&&fJ f.lo f.hi 0 65536
 else if f.kind=2 then fJ f.lo f.hi (-1048576) 1048576
 else if f.kind=3 then jR f.cB f.bO
 else if f.kind=4 then (decide (f.of=nil)||aY f.of)&&fJ f.lo f.hi (-1048576) 1048576
 else if f.kind=5 then aY f.of&&fJ f.lo f.hi 0 32
 else if f.kind=6 then aY f.of
 else if f.kind=7 then aY f.of&&aY f.up&&fJ f.lo f.hi 0 1048576
 else if f.kind=8 then aY f.of&&aY f.up
 else false
def cV(f:cD):Bool:=aY f.name&&mg f&&lG f
def oM(k:dZ):Bool:=aY k.name&&fJ k.lo k.hi 0 65536&&decide (k.aG.length<=10)&&k.aG.all cV
def xS(n:Int)(m:Int×Int):Bool:=qA m.1 0 (n-1)&&qA m.2 0 (n-1)
def r9(x:DV):Bool:=aY x.name&&qA x.dw.length 1 12&&x.dw.all aY&&decide (x.iw.length<=32)&&x.iw.all (xS x.dw.length)
def si(r:tQ):Bool:=
 aY r.name&&aY r.kind&&(decide (r.a=nil)||aY r.a)&&(decide (r.b=nil)||aY r.b)&& !(decide (r.a=nil)&&decide (r.b=nil))&&qA r.n (-1048576) 1048576
def pG(x:cA):Bool:=
 qA x.aL 0 1048576&&decide (x.aA.length<=6)&&decide (x.aP.length<=6)&&decide (x.aR.length<=16)&&x.aA.all oM&&x.aP.all r9&&x.aR.all si
def xT:Nat->Nat->Nat
 |0,_=>1
 |f+1,n=>if n<10 then 1 else 1+xT f (n / 10)
def dx(n:Int):Nat:=(if n<0 then 1 else 0)+xT 40 n.natAbs
def dR(s:Nm):Nat:=if s=nil then 1 else s.size
def qH(k:Int):Nat:=if k=3\/k=5\/k=8 then 4 else if k=7 then 5 else 3
def jo:List Nm->List Int->Nat
 |w::ws,g::gs=>1+w.size+(1+dx g)+jo ws gs
 |_,_=>0
def bZ(f:cD):Nat:=qH f.kind+1+f.name.size+1+
  (if f.kind=0 then 1+dx f.lo
   else if f.kind=2 then 1+dx f.lo+(1+dx f.hi)
   else if f.kind=3 then 1+dx f.cB.length+jo f.cB f.bO
   else if f.kind=6 then 1+f.of.size
   else if f.kind=7 then 1+f.up.size+(1+f.of.size)+(1+dx f.lo)+(1+dx f.hi)
   else if f.kind=8 then 1+f.up.size+(1+f.of.size)
   else 1+dR f.of+(1+dx f.lo)+(1+dx f.hi))
def bK{α:Type}(g:α->Nat)(l:List α):Nat:=l.foldl (fun n x=>n+g x) 0
def gQ(k:dZ):Nat:=4+(1+k.name.size)+(1+dx k.lo)+(1+dx k.hi)+1+bK bZ k.aG
def jq(x:DV):Nat:=4+(1+x.name.size)+(1+dx x.dw.length)+bK (fun s:Nm=>1+s.size) x.dw+1+bK (fun m:Int×Int=>4+(1+dx m.1)+(1+dx m.2)+1) x.iw
def kM(r:tQ):Nat:=4+(1+r.name.size)+(1+r.kind.size)+(1+dR r.a)+(1+dR r.b)+(1+dx r.n)+1
def Eu(x:cA):Nat:=6+(1+dx x.aL)+1+bK gQ x.aA+bK jq x.aP+bK kM x.aR
def nX(x:cA):Int:=if pG x=true then (if 8192<Eu x then 4 else 0) else 1
def fK{α:Type}(p:α->Bool):List α->Nat->Int
 |[],_=> -1
 |x::l,i=>if p x=true then i else fK p l (i+1)
def cL(x:cA)(s:Nm):Int:=fK (fun k:dZ=>decide (k.name=s)) x.aA 0
def bJ(k:dZ)(s:Nm):Int:=fK (fun f:cD=>decide (f.name=s)) k.aG 0
def J6:dZ:=⟨nil,0,0,[]⟩
def kd(x:cA)(i:Int):dZ:=x.aA.getD i.toNat J6
def fd(x:cA)(i j:Int):cD:=(kd x i).aG.getD j.toNat uS
def hasB(x:cA)(i j:Int):Bool:=decide (0<=i)&&decide (i<x.aA.length)&&decide (0<=j)&&decide (j<(kd x i).aG.length)
def pH(x:cA)(i:Int)(f:cD):Int:=if cL x f.of<i then cL x f.of else -1
def dI(x:cA)(i j:Int):Int:=
  if hasB x i j=true then
    (let f:=fd x i j
     if f.kind=7\/f.kind=8 then
       (let u:=bJ (kd x i) f.up
        if hasB x i u=true/\u<j/\(fd x i u).kind=1 then pH x i (fd x i u) else -1)
     else if f.kind=1 then pH x i f else -1)
  else -1
def sj(x:cA)(i o:Int)(s:Nm):List Int:=
 ((List.range (kd x o).aG.length).map fun j:Nat=>(j:Int)).filter fun j=>decide ((fd x o j).kind=7)&&decide ((fd x o j).of=s)&&decide (dI x o j=i)
def iP(x:cA)(i:Int)(f:cD):Int:=if f.kind=6/\i<cL x f.of then cL x f.of else -1
def iQ(x:cA)(i:Int)(f:cD):List Int:=if iP x i f<0 then [] else sj x i (iP x i f) f.name
def xU(x:cA)(i j:Int)(f:cD):Option cD:=
 if dI x i j<0 then none
 else if hasB x (dI x i j) (bJ (kd x (dI x i j)) f.of)=true then some (fd x (dI x i j) (bJ (kd x (dI x i j)) f.of)) else none
def mW(x:cA)(i j:Int)(f:cD):cD:=(xU x i j f).getD uS
def J7(x:cA)(s:Nm):Bool:=x.aP.any fun l=>decide (l.name=s)
def xV(x:cA)(i j:Int):Int:=
  let f:=fd x i j
  if f.kind=0 then (if 0<j then 13 else 0)
  else if f.kind=1 then (if dI x i j<0 then 12 else 0)
  else if f.kind=4 then (let u:=bJ (kd x i) f.of
                           if f.of≠nil/\(u<0\/j<=u\/(fd x i u).kind≠4) then 12 else 0)
  else if f.kind=5 then (if J7 x f.of=true then 0 else 12)
  else if f.kind=6 then (if iP x i f<0 then 12 else if (iQ x i f).length≠1 then 11 else 0)
  else if f.kind=7 then (if dI x i j<0 then 12 else if xU x i j f=none\/(mW x i j f).kind≠6\/cL x (mW x i j f).of≠i then 13 else 0)
  else if f.kind=8 then (if dI x i j<0 then 12 else if xU x i j f=none\/¬((mW x i j f).kind=2\/(mW x i j f).kind=3\/(mW x i j f).kind=4\/(mW x i j f).kind=5\/(mW x i j f).kind=8) then 13 else 0)
  else 0
def nZ(x:cA)(i j:Int):Int:=if bJ (kd x i) (fd x i j).name<j then 7 else xV x i j
def xW(x:cA)(i:Int):Int:=if cL x (kd x i).name<i then 7 else if (kd x i).aG.length=0\/(fd x i 0).kind≠0 then 11 else 0
def Ev(x:cA)(i:Nat):Int:=if (x.aP.take i).any (fun l=>decide (some l.name=(x.aP[i]?).map DV.name))=true then 7 else 0
def sq(x:cA)(k:Int)(s:Nm):Bool×Bool:=
 if s=nil\/k<0 then (false,false)
 else (let u:=bJ (kd x k) s
    (!hasB x k u,decide ((if hasB x k u=true then fd x k u else uS).kind≠2)&&decide ((if hasB x k u=true then fd x k u else uS).kind≠4)))
def abS:tQ:=⟨nil,nil,nil,nil,0⟩
def rl(x:cA)(i:Nat):tQ:=x.aR.getD i abS
def xX(x:cA)(i:Nat):Int:=
 let r:=rl x i
 let k:=cL x r.kind
 if (x.aR.take i).any (fun s=>decide (s.name=r.name))=true then 7
 else if k<0\/(sq x k r.a).1=true\/(sq x k r.b).1=true then 12
 else if (sq x k r.a).2=true\/(sq x k r.b).2=true then 13
 else if r.a=r.b then 1 else 0
def okB(x:cA):Bool:=
 decide (nX x=0)&&(List.range x.aP.length).all (fun i=>decide (Ev x i=0))&&
 (List.range x.aA.length).all (fun i:Nat=>decide (xW x i=0)&&(List.range (kd x i).aG.length).all fun j:Nat=>decide (nZ x i j=0))&&
 (List.range x.aR.length).all (fun i=>decide (xX x i=0))
end Go.Proofs.YtibacilhkciihaaGreatDoor.ah
namespace Go.Proofs.YtibacilhkciihaaGreatDoor.ah
def SN:Nm:=⟨#[105,100]⟩
def sx:Nm:=⟨#[111,102]⟩
def xY:Nm:=⟨#[115,97,109,101]⟩
def uT:Nm:=⟨#[112,97,114,116]⟩
def eG:Nm:=⟨#[116,111,116,97,108]⟩
def nBy:Nm:=⟨#[98,121]⟩
def gT:Nm:=⟨#[115,105,122,101]⟩
def wO:Nm:=⟨#[116,97,103]⟩
def mX:Nm:=⟨#[98,111,114,110]⟩
def uU:Nm:=⟨#[108,101,102,116]⟩
def oe:Nm:=⟨#[115,116,97,116,101]⟩
def oN:Nm:=⟨#[108,105,102,101]⟩
def kG:Nm:=⟨#[108,111,119]⟩
def j9:Nm:=⟨#[104,105,103,104]⟩
def nRed:Nm:=⟨#[114,101,100]⟩
def Zo:Nm:=⟨#[103,114,101,101,110]⟩
def abT:Nm:=⟨#[98,108,117,101]⟩
def Br(lo hi:Int):cD:=⟨gT,nil,nil,2,lo,hi,[],[]⟩
def AO(ws:List Nm)(gs:List Int):cD:=⟨wO,nil,nil,3,0,0,ws,gs⟩
def pI(lo hi:Int):cD:=⟨mX,nil,nil,4,lo,hi,[],[]⟩
def qI(lo hi:Int):cD:=⟨uU,mX,nil,4,lo,hi,[],[]⟩
def mG(lo hi:Int):cD:=⟨oe,oN,nil,5,lo,hi,[],[]⟩
def AP(lo hi:Int):cD:=⟨kG,nil,nil,2,lo,hi,[],[]⟩
def pJ(lo hi:Int):cD:=⟨j9,nil,nil,2,lo,hi,[],[]⟩
def fW:List Nm:=[nRed,Zo,abT]
def Ord(lo hi:Int):Prop:= -200<=lo/\lo<=hi/\hi<=300
inductive dL:List cD->Prop
 |none:dL []
 |size (lo hi:Int):Ord lo hi->dL [Br lo hi]
 |tag (n:Nat) (gs:List Int):1<=n->n<=3->gs.length=n->(∀g∈gs,0<=g/\g<=5)->0<rq gs->dL [AO (fW.take n) gs]
 |born (lo hi lo' hi':Int):Ord lo hi->Ord lo' hi'->dL [pI lo hi,qI lo' hi']
 |state (lo hi:Int):0<=lo->lo<=hi->hi<=10->dL [mG lo hi]
 |low (lo hi lo' hi':Int):Ord lo hi->Ord lo' hi'->dL [AP lo hi,pJ lo' hi']
theorem foldl_add(l:List Int)(a:Int):l.foldl (·+·) a=a+rq l:=by
 unfold rq;induction l generalizing a with
 |nil=>simp
 |cons x l ih=>simp only[List.foldl_cons];rw[ih,ih (0+x)];omega
theorem Bs(x:Int)(l:List Int):rq (x::l)=x+rq l:=by
 show List.foldl _ (0+x) l=_
 rw[foldl_add];omega
theorem uV:∀(l:List Int),(∀g∈l,0<=g)->0<=rq l
 |[],_=>Int.le_refl 0
 |x::l,h=>by
  rw[Bs];have h1:=h x bp;have h2:=uV l (fun g hg=>h g (by simp[hg]));omega
theorem Ew:∀(l:List Int),(∀g∈l,0<=g)->(∃g∈l,0<g)->0<rq l
 |[],_,⟨_,h,_⟩=>absurd h bp
 |x::l,h,⟨g,hg,hp⟩=>by
  rw[Bs];have h1:=h x bp;have h2:=uV l (fun g hg=>h g (by simp[hg]));rcases kD.1 hg with rfl|hg
  ·omega
  ·have:=Ew l (fun g hg=>h g (by simp[hg])) ⟨g,hg,hp⟩
   omega
def pK(lo:Int):cD:=⟨SN,nil,nil,0,lo,0,[],[]⟩
def uW(s:Nm)(lo hi:Int):cD:=⟨sx,s,nil,1,lo,hi,[],[]⟩
def oO(s:Nm):cD:=⟨xY,s,sx,8,0,0,[],[]⟩
def lH(lo hi:Int):cD:=⟨uT,eG,sx,7,lo,hi,[],[]⟩
def fN(s:Nm):cD:=⟨eG,s,nil,6,0,0,[],[]⟩
def OP(s:Nm):cD:=⟨nBy,s,nil,1,0,8,[],[]⟩
def TS:Nm:=⟨#[112,101,114,115,111,110]⟩
def Zp:Nm:=⟨#[111,114,100,101,114]⟩
def abU:Nm:=⟨#[105,116,101,109]⟩
def Zq:List Nm:=[TS,Zp,abU]
def bQ(i:Nat):Nm:=Zq.getD i nil
def sy(f:cD):Prop:=f.kind≠0/\f.kind≠1/\f.kind≠6/\f.kind≠7
def iR(ks:List dZ)(i:Nat):dZ:=ks.getD i J6
def og(k:dZ)(l:List cD):Prop:=l=[]\/∃c,∃h:c<k.aG.length,sy k.aG[c]/\l=[oO k.aG[c].name]
def eC(k:dZ)(nm:Nm):dZ:={k with aG:=k.aG++[fN nm]}
def tR(ks:List dZ)(to:Nat)(nm:Nm)(ks':List dZ)(l:List cD):Prop:=
 (l=[]/\ks'=ks)\/∃lo hi,0<=lo/\lo<=hi/\hi<=20/\l=[lH lo hi]/\(∀f∈(iR ks to).aG,f.name≠eG)/\ks'=ks.set to (eC (iR ks to) nm)
def oh(ks:List dZ)(nm:Nm)(ks':List dZ)(fs:List cD):Prop:=
 ∃a, -3<=a/\a<=100/\((ks=[]/\ks'=ks/\fs=[pK a])\/
  ∃to,to<ks.length/\∃lo hi s p,0<=lo/\lo<=1/\2<=hi/\hi<=8/\og (iR ks to) s/\tR ks to nm ks' p/\fs=pK a::uW (iR ks to).name lo hi::(s++p))
def OQ(ks:List dZ)(l:List cD):Prop:=l=[]\/(1<ks.length/\l=[OP (iR ks 0).name])
def mY(fs l:List cD):Prop:=l=[]\/(dL l/\∀f,l.head?=some f->∀g∈fs,g.name≠f.name)
def pM(ks ks':List dZ)(k:dZ):Prop:=
 ks.length<=2/\k.name=bQ ks.length/\0<=k.lo/\k.lo<=k.hi/\k.hi<=20/\
  ∃h y p q,oh ks k.name ks' h/\OQ ks' y/\dL p/\mY (h++y++p) q/\k.aG=h++y++p++q
theorem mh{α:Type}{p:α->Bool}:∀{l:List α} {i k:Nat} (h:k<l.length),(∀j (h:j<l.length),j<k->p l[j]=false)->p l[k]=true->fK p l i=((i+k:Nat):Int)
 |[],_,_,h,_,_=>absurd h bp
 |x::l,i,0,_,_,hp=>by
  have:p x=true:=hp;unfold fK;rw[if_pos this];simp
 |x::l,i,k+1,h,hn,hp=>by
  have h0:p x=false:=hn 0 bp aB;unfold fK;rw[if_neg (by simp[h0]),mh lD (fun j hj hjk=>hn (j+1) mP aB) hp];omega
theorem lm{α:Type}{p:α->Bool}:∀{l:List α} {i:Nat},(∀j (h:j<l.length),p l[j]=false)->fK p l i= -1
 |[],_,_=>rfl
 |x::l,i,hn=>by
  have h0:p x=false:=hn 0 bp;unfold fK;rw[if_neg (by simp[h0]),lm (fun j hj=>hn (j+1) mP)]
theorem uX{α:Type}(p:α->Bool):∀(l:List α) (i:Nat),(fK p l i= -1/\∀j (h:j<l.length),p l[j]=false)\/∃k,∃h:k<l.length,fK p l i=((i+k:Nat):Int)/\p l[k]=true/\∀j (h:j<l.length),j<k->p l[j]=false
 |[],_=>.inl ⟨rfl,fun j h=>absurd h bp⟩
 |x::l,i=>by
  cases e:p x
  ·rcases uX p l (i+1) with⟨h1,h2⟩|⟨k,hk,h1,h2,h3⟩
   ·refine .inl ⟨?_,fun j hj=>?_⟩
    ·unfold fK;rw[if_neg (by simp[e]),h1]
    ·cases j with
     |zero=>exact e
     |succ j=>exact h2 j mP
   ·refine .inr ⟨k+1,wK,?_,h2,fun j hj hjk=>?_⟩
    ·unfold fK;rw[if_neg (by simp[e]),h1];omega
    ·cases j with
     |zero=>exact e
     |succ j=>exact h3 j mP aB
  ·refine .inr ⟨0,bp,?_,e,fun j _ hj=>absurd hj aB⟩
   unfold fK;rw[if_pos e];simp
theorem iy{α:Type}(p:α->Bool)(l:List α):(fK p l 0= -1/\∀j (h:j<l.length),p l[j]=false)\/∃k,∃h:k<l.length,fK p l 0=(k:Int)/\p l[k]=true/\∀j (h:j<l.length),j<k->p l[j]=false:=by
 have:=uX p l 0;simpa using this
def qJ(f:cD):Bool:=decide (f.kind≠0)&&decide (f.kind≠1)&&decide (f.kind≠6)&&decide (f.kind≠7)
def AQ(fs:List cD)(s:Nm):Int:=fK (fun f=>decide (f.name=s)) fs 0
def J8(fs:List cD):Int:=fK qJ fs 0
def J9:Nm:=⟨#[111,114,100,101,114]⟩
def Ka:Nm:=⟨#[109,111,115,116]⟩
def CZ:Nm:=⟨#[108,101,97,115,116]⟩
def fD(f:cD):Prop:= -100000<=f.lo/\f.lo<=100000/\ -100000<=f.hi/\f.hi<=100000
def xZ(k:dZ)(r:tQ):Prop:=
 (∃n, -100<=n/\n<=100/\0<=AQ k.aG kG/\r=⟨J9++k.name.extract 0 1,k.name,kG,j9,n⟩)\/
 (∃n, -200000<=n/\n<=200000/\0<=AQ k.aG gT/\(r=⟨Ka++k.name.extract 0 1,k.name,gT,nil,n⟩\/r=⟨CZ++k.name.extract 0 1,k.name,nil,gT,n⟩))
end Go.Proofs.YtibacilhkciihaaGreatDoor.ah
namespace Go.Proofs.YtibacilhkciihaaGreatDoor.ah
inductive Af:List dZ->Prop
 |nil:Af []
 |snoc (ks ks':List dZ) (k:dZ):Af ks->pM ks ks' k->Af (ks'++[k])
theorem dL.le{l:List cD}(h:dL l):l.length<=2:=by cases h<;>simp
theorem dL.small{l:List cD}(h:dL l):∀f∈l,fD f:=by
 intro f hf;cases h with
 |none=>simp at hf
 |size lo hi h=>simp at hf;subst hf;simp only[fD,Br,Ord] at*;omega
 |tag n gs=>simp at hf;subst hf;simp only[fD,AO];omega
 |born lo hi lo' hi' h h'=>
  simp only[Ord] at h h'
  rcases (by simpa using hf:f=pI lo hi\/f=qI lo' hi') with rfl|rfl<;>simp only[fD,pI,qI]<;>omega
 |state lo hi=>simp at hf;subst hf;simp only[fD,mG];omega
 |low lo hi lo' hi' h h'=>
  simp only[Ord] at h h'
  rcases (by simpa using hf:f=AP lo hi\/f=pJ lo' hi') with rfl|rfl<;>simp only[fD,AP,pJ]<;>omega
theorem mY.plain{fs l:List cD}(h:mY fs l):dL l:=by
 rcases h with rfl|h
 ·exact .none
 ·exact h.1
theorem og.le{k:dZ}{l:List cD}(h:og k l):l.length<=1/\∀f∈l,fD f:=by
 rcases h with rfl|⟨c,h,_,rfl⟩
 ·simp
 ·refine⟨bp,fun f hf=>?_⟩
  rw[mL.1 hf];simp only[fD,oO];omega
theorem tR.le{ks:List dZ}{to:Nat}{nm:Nm}{ks':List dZ}{l:List cD}(h:tR ks to nm ks' l):l.length<=1/\(∀f∈l,fD f)/\ks'.length=ks.length:=by
 rcases h with⟨rfl,rfl⟩|⟨lo,hi,h1,h2,h3,rfl,_,rfl⟩
 ·simp
 ·refine⟨bp,fun f hf=>?_,bp⟩
  rw[mL.1 hf];simp only[fD,lH];omega
theorem oh.le{ks:List dZ}{nm:Nm}{ks':List dZ}{l:List cD}(h:oh ks nm ks' l):l.length<=4/\(∀f∈l,fD f)/\ks'.length=ks.length:=by
 obtain⟨a,h1,h2,⟨_,rfl,rfl⟩|⟨t,_,lo,hi,s,p,h3,h4,h5,h6,hs,hp,rfl⟩⟩:=h
 ·refine⟨bp,fun f hf=>?_,rfl⟩
  rw[mL.1 hf];simp only[fD,pK];omega
 ·have e1:=hs.le
  have e2:=hp.le;refine⟨lC,fun f hf=>?_,e2.2.2⟩;simp only[kD,List.mem_append] at hf;rcases hf with rfl|rfl|hf|hf
  ·simp only[fD,pK];omega
  ·simp only[fD,uW];omega
  ·exact e1.2 f hf
  ·exact e2.2.1 f hf
theorem OQ.le{ks:List dZ}{l:List cD}(h:OQ ks l):l.length<=1/\∀f∈l,fD f:=by
 rcases h with rfl|⟨_,rfl⟩
 ·simp
 ·refine⟨bp,fun f hf=>?_⟩
  rw[mL.1 hf];simp only[fD,OP];omega
theorem pM.le{ks ks':List dZ}{k:dZ}(h:pM ks ks' k):k.aG.length<=9/\(∀f∈k.aG,fD f)/\ks'.length=ks.length:=by
 obtain⟨_,_,_,_,_,a,y,p,q,ha,hy,hp,hq,hf⟩:=h;have e1:=ha.le;have e2:=hy.le;have e3:=hp.le;have e4:=hq.plain.le;rw[hf];refine⟨lC,fun f hf=>?_,e1.2.2⟩;simp only[List.mem_append] at hf;rcases hf with((hf|hf)|hf)|hf
 ·exact e1.2.1 f hf
 ·exact e2.2 f hf
 ·exact hp.small f hf
 ·exact hq.plain.small f hf
theorem pM.old{ks ks':List dZ}{k:dZ}(h:pM ks ks' k):ks'=ks\/∃to,∃h:to<ks.length,(∀f∈ks[to].aG,f.name≠eG)/\ks'=ks.set to (eC ks[to] k.name):=by
 obtain⟨_,_,_,_,_,a,y,p,q,ha,hy,hp,hq,hf⟩:=h;obtain⟨_,_,_,⟨_,rfl,_⟩|⟨t,ht,lo,hi,s,p,h3,h4,h5,h6,hs,hp,rfl⟩⟩:=ha
 ·exact .inl rfl
 ·rcases hp with⟨_,rfl⟩|⟨_,_,_,_,_,_,h7,h8⟩
  ·exact .inl rfl
  ·have e:iR ks t=ks[t]:=by rw[iR,jm,lE ht];rfl
   rw[e] at h7 h8;exact .inr ⟨t,ht,h7,h8⟩
structure OT(k:dZ):Prop where
 len:k.aG.length<=10
 tot:(∀f∈k.aG,f.name≠eG)->k.aG.length<=9
 small:∀f∈k.aG,fD f
theorem Ey{k:dZ}{nm:Nm}(h:OT k)(hn:∀f∈k.aG,f.name≠eG):OT (eC k nm):=by
 have h1:=h.tot hn;refine⟨by simp[eC];omega,fun h2=>?_,fun f hf=>?_⟩
 ·exact absurd rfl (h2 (fN nm) (by simp[eC]))
 ·simp only[eC,List.mem_append,mL] at hf
  rcases hf with hf|rfl
  ·exact h.small f hf
  ·simp only[fD,fN];omega
theorem Af.good{ks:List dZ}(h:Af ks):ks.length<=3/\(∀k∈ks,OT k)/\∀i (h:i<ks.length),ks[i].name=bQ i:=by
 induction h with
 |nil=>exact⟨bp,fun _ h=>absurd h bp,fun i h=>absurd h bp⟩
 |snoc ks ks' k hg hk ih=>
  obtain⟨i1,i2,i3⟩:=ih
  have e:=hk.le
  have hl:=e.2.2
  have hkn:=hk.2.1
  refine⟨by have:=hk.1;simp;omega,fun x hx=>?_,fun i hi=>?_⟩
  ·rcases List.mem_append.1 hx with hx|hx
   ·rcases hk.old with rfl|⟨t,ht,h1,rfl⟩
    ·exact i2 x hx
    ·rcases List.mem_or_eq_of_mem_set hx with hx|rfl
     ·exact i2 x hx
     ·exact Ey (i2 _ (gm _)) h1
   ·rw[mL.1 hx]
    exact⟨aB,fun _=>e.1,e.2.1⟩
  ·by_cases hi':i<ks'.length
   ·rw[TN hi']
    rcases hk.old with rfl|⟨t,ht,h1,rfl⟩
    ·exact i3 i hi'
    ·rw[List.getElem_set]
     split
     ·rename_i h2;subst h2;exact i3 _ ht
     ·exact i3 i (by simpa using hi')
   ·rw[zAr aB]
    have:i=ks'.length:=by simp at hi;omega
    subst this;simp[hkn,hl]
def nNew:Nm:=⟨#[110,101,119]⟩
def abV:Nm:=⟨#[111,112,101,110]⟩
def abW:Nm:=⟨#[100,111,110,101]⟩
def abX:Nm:=⟨#[115,104,117,116]⟩
def om:List Nm:=[nNew,abV,abW,abX]
def OU(x:DV):Prop:=x.name=oN/\∃n,2<=n/\n<=4/\x.dw=om.take n/\x.iw.length<=6/\∀m∈x.iw,0<=m.1/\m.1<n/\0<=m.2/\m.2<n
inductive mo (ks:List dZ):Nat->List tQ->Prop
 |nil:mo ks 0 []
 |skip (i:Nat) (rs:List tQ):mo ks i rs->mo ks (i+1) rs
 |take (i:Nat) (rs:List tQ) (r:tQ) (h:i<ks.length):mo ks i rs->xZ ks[i] r->mo ks (i+1) (rs++[r])
structure Bt(x:cA):Prop where
 aL:0<=x.aL/\x.aL<=3
 aA:Af x.aA
 some:1<=x.aA.length
 aP:∃l,x.aP=[l]/\OU l
 aR:∃n,n<=x.aA.length/\mo x.aA n x.aR/\x.aR.length<=2
end Go.Proofs.YtibacilhkciihaaGreatDoor.ah
