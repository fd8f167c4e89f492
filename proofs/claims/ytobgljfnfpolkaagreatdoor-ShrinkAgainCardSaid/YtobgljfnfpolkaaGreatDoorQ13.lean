/- Part 13 of the walks and plain laws that the proof needs (packed). -/
import Derived.Shelf.SlSortCmp.NoneTotal
import Derived.Ground.SlsfProg
import Derived.Test.YtobgljfnfpolkaaGreatDoorQ6
import Derived.Test.YtobgljfnfpolkaaGreatDoorQ12
set_option linter.all false
set_option maxRecDepth 100000
set_option maxHeartbeats 8000000
namespace Go.Proofs.YtobgljfnfpolkaaGreatDoor.Dr
open Go.RowKit
structure Below(B:Nat)(w w':World):Prop where
 toB:Go.RowKit.Below B w w'
 drawn:w.drawn<=w'.drawn
theorem Below.size{B:Nat}{w w':World}(h:Below B w w'):w.heap.size<=w'.heap.size:=h.toB.size
theorem Below.block{B:Nat}{w w':World}(h:Below B w w'):∀k,k<B->w'.heap[k]?=w.heap[k]?:=h.toB.block
theorem Below.refl(B:Nat)(w:World):Below B w w:=⟨.refl _ _,aB⟩
theorem Below.trans{B:Nat}{a b c:World}(h:Below B a b)(k:Below B b c):Below B a c:=⟨h.toB.trans k.toB,Nat.le_trans h.drawn k.drawn⟩
theorem Below.mono{B B':Nat}{w w':World}(h:Below B w w')(hB:B'<=B):Below B' w w':=⟨h.toB.mono hB,h.drawn⟩
theorem Below.alloc{B:Nat}{a w:World}(h:Below B a w)(hB:B<=w.heap.size)(o:Obj):Below B a (w.alloc o):=⟨h.toB.alloc hB o,h.drawn⟩
theorem Below.setCell{B:Nat}{a w:World}(h:Below B a w){p:Addr}(hp:B<=p.block)(u:Value):Below B a (w.setCell p u):=⟨h.toB.setCell hp u,h.drawn⟩
theorem af5{B:Nat}{a w:World}(h:Below B a w)(n:Nat):Below B a (w.drewN n):=⟨YtobgljfnfpolkaaGreatDoor.af5 h.toB n,Nat.le_trans h.drawn (Nat.le_add_right _ _)⟩
theorem aA.aM{S:Nat->Prop}{w w':World}{B:Nat}(h:Below B w w')(hS:∀b,S b->b<B):aA S w w':=YtobgljfnfpolkaaGreatDoor.aA.aM h.toB hS
theorem aA.below{S:Nat->Prop}{w w':World}(h:Below w.heap.size w w'):aA S w w':=YtobgljfnfpolkaaGreatDoor.aA.below h.toB
def aJ(A:Nat->Obj->Prop)(n0:Nat)(W W':World):Prop:=Below n0 W W'/\∀(b:Nat) (o:Obj),W.heap[b]?=some o->¬A b o->W'.heap[b]?=some o
theorem aJ.refl(A:Nat->Obj->Prop)(n0:Nat)(W:World):aJ A n0 W W:=⟨(Below.refl _ _),fun _ _ h _=>h⟩
theorem aJ.trans{A:Nat->Obj->Prop}{n0:Nat}{W W1 W2:World}(h:aJ A n0 W W1)(k:aJ A n0 W1 W2):aJ A n0 W W2:=
 ⟨h.1.trans k.1,fun b o hb ha=>k.2 b o (h.2 b o hb ha) ha⟩
theorem aJ.mono{A A':Nat->Obj->Prop}{n0:Nat}{W W1:World}(h:aJ A n0 W W1)(hA:∀b o,A b o->A' b o):aJ A' n0 W W1:=
 ⟨h.1,fun b o hb ha=>h.2 b o hb (fun h=>ha (hA b o h))⟩
theorem aJ.putObj{A:Nat->Obj->Prop}{n0:Nat}{W:World}{l:Nat}{o:Obj}(o':Obj)(h:W.heap[l]?=some o)(ha:A l o)(hn:n0<=l):aJ A n0 W (W.putObj l o'):=
 have:=YtobgljfnfpolkaaGreatDoor.aJ.putObj o' h ha hn
 ⟨⟨this.1,aB⟩,this.2⟩
theorem aJ.alloc{A:Nat->Obj->Prop}{n0:Nat}{W W1:World}(h:aJ A n0 W W1)(hn:n0<=W.heap.size)(o:Obj):aJ A n0 W (W1.alloc o):=
 ⟨h.1.alloc (Nat.le_trans hn h.1.size) o,fun b o2 hb ha=>(Go.RowKit.Below.heap_alloc W1 o b (Array.getElem?_eq_some_iff.1 (h.2 b o2 hb ha)).1).trans (h.2 b o2 hb ha)⟩
theorem aJ.drewN{A:Nat->Obj->Prop}{n0:Nat}{W W1:World}(h:aJ A n0 W W1)(m:Nat):aJ A n0 W (W1.drewN m):=⟨af5 h.1 m,h.2⟩
theorem aJ.setCell{A:Nat->Obj->Prop}{n0:Nat}{W W1:World}(h:aJ A n0 W W1){p:Addr}{o:Obj}(hp:W1.heap[p.block]?=some o)(ha:A p.block o)(hn:n0<=p.block)(v:Value):aJ A n0 W (W1.setCell p v):=by
 refine h.trans ⟨(Below.refl _ _).setCell hn v,fun b o2 hb ha2=>?_⟩;by_cases e:b=p.block
 ·subst e;rw[hp] at hb;cases hb;exact absurd ha ha2
 ·exact(Go.RowKit.Below.heap_setCell _ _ _ _ e).trans hb
theorem aJ.aM{A:Nat->Obj->Prop}{n0:Nat}{w w':World}(h:Below w.heap.size w w')(hn:n0<=w.heap.size):aJ A n0 w w':=
 ⟨h.mono hn,fun b _ hb _=>(h.block b (Array.getElem?_eq_some_iff.1 hb).1).trans hb⟩
def Marks(n0 nB:Nat)(ds:List Deferred)(w:World):Prop:=
 ∃Ds:List Nat,ds=Ds.map (fun D=>{target:=.collected D,args:=#[]})/\Ds.Nodup/\∀D∈Ds,n0<=D/\D<nB/\w.heap[D]?=some (.deferred (some []))
theorem Marks.nil(n0 nB:Nat)(w:World):Marks n0 nB [] w:=⟨[],rfl,List.nodup_nil,fun D h=>absurd h (by simp)⟩
theorem Marks.mono{n0 nB nB':Nat}{ds:List Deferred}{w:World}(h:Marks n0 nB ds w)(hn:nB<=nB'):Marks n0 nB' ds w:=by
 obtain⟨Ds,h1,h2,h3⟩:=h;exact⟨Ds,h1,h2,fun D hD=>⟨(h3 D hD).1,Nat.lt_of_lt_of_le (h3 D hD).2.1 hn,(h3 D hD).2.2⟩⟩
theorem Marks.turn{A:Nat->Obj->Prop}{n0 n1 nB:Nat}{ds:List Deferred}{w w':World}(h:Marks n0 nB ds w)(ht:aJ A n1 w w')(hA:∀b o,b<nB->A b o->¬book o):Marks n0 nB ds w':=by
 obtain⟨Ds,h1,h2,h3⟩:=h;exact⟨Ds,h1,h2,fun D hD=>⟨(h3 D hD).1,(h3 D hD).2.1,ht.2 _ _ (h3 D hD).2.2 (fun ha=>hA _ _ (h3 D hD).2.1 ha trivial)⟩⟩
theorem Marks.push{n0 nB:Nat}{ds:List Deferred}{w:World}(h:Marks n0 nB ds w){D:Nat}(hD:nB<=D)(hn:n0<=D)(hk:w.heap[D]?=some (.deferred (some []))):
  Marks n0 w.heap.size ({target:=.collected D,args:=#[]}::ds) w:=by
 obtain⟨Ds,h1,h2,h3⟩:=h;have hlt:=(Array.getElem?_eq_some_iff.1 hk).1;refine⟨D::Ds,by rw[h1];rfl,List.nodup_cons.2 ⟨fun hm=>?_,h2⟩,fun E hE=>?_⟩
 ·have:=(h3 D hm).2.1
  omega
 ·rcases List.mem_cons.1 hE with rfl|hE
  ·exact⟨hn,hlt,hk⟩
  ·exact⟨(h3 E hE).1,by have:=(h3 E hE).2.1;omega,(h3 E hE).2.2⟩
theorem iY{P:Program}{n n0:Nat}{fn:Func}{tmps:Array Value}{R:Ending->World->Prop}{v:Value}:∀(Ds:List Nat) (w:World),Ds.Nodup->(∀D∈Ds,n0<=D/\w.heap[D]?=some (.deferred (some [])))->
  (∀w',aJ (aS n0) n0 w w'->(results fn tmps).run P w'=.ok v w'/\R (.returned v) w')->LeavesInM Fence.wide n P fn tmps R (Ds.map (fun D=>{target:=.collected D,args:=#[]})) .returning w
 |[],w,_,_,h=>⟨_,(h w (aJ.refl _ _ _)).1,(h w (aJ.refl _ _ _)).2⟩
 |D::Ds,w,hn,hD,h=>by
  obtain⟨hnd,hns⟩:=List.nodup_cons.1 hn;have hk:=(hD D List.mem_cons_self);have ht:aJ (aS n0) n0 w (w.putObj D (.deferred none)):=aJ.putObj _ hk.2 ⟨hk.1,trivial⟩ hk.1;refine⟨by simp,.inl ⟨D,_,rfl,run_takeDeferred hk.2,?_⟩⟩;refine iY Ds _ hns (fun E hE=>⟨(hD E (List.mem_cons_of_mem _ hE)).1,?_⟩) (fun w' h'=>h w' (ht.trans h'));have hne:E≠D:=fun e=>hnd (e▸hE);exact(World.putObj_heap_other hne).trans (hD E (List.mem_cons_of_mem _ hE)).2
theorem iL{P:Program}{n n0:Nat}{fn:Func}{tmps:Array Value}{ds:List Deferred}{w:World}{R:Ending->World->Prop}{v:Value}{nB:Nat}(hm:Marks n0 nB ds w)
  (h:∀w',aJ (aS n0) n0 w w'->(results fn tmps).run P w'=.ok v w'/\R (.returned v) w'):bodyPostM Fence.wide n P fn R .ret {tmps,defers:=ds} w:=by
 obtain⟨Ds,rfl,hnd,hD⟩:=hm;exact iY Ds w hnd (fun D h=>⟨(hD D h).1,(hD D h).2.2⟩) h
def qn{α:Type}(P:Program)(n0 nB gf:Nat)(lb:Array Value)(encs:α->Array Value)(G:List α->α->World->Prop)(bA iA:Nat->Obj->Prop)(S:List α->World->Prop)(w:World):Prop:=
 ∀(l:Nat) (J Jx:List α->World->Prop) (W:World),Below w.heap.size w W->
  (∀pre A B,J pre A->aJ iA n0 A B->J pre B)->(∀pre A B,Jx pre A->aJ iA n0 A B->Jx pre B)->
  (∀pre x W1,J pre W1->G pre x W1->YieldAt Fence.wide 0 P l (encs x) W1 fun e W'=>
   aJ (fun b o=>bA b o\/aS nB b o) n0 W1 W'/\((e=.returned (.bool true)/\J (pre++[x]) W')\/(e=.returned (.bool false)/\Jx (pre++[x]) W')))->
  J [] W->Calls P gf (#[.func (.yield l) #[] #[]]++lb) W fun e W'=>(∃v,e=.returned v)/\((∃xs,S xs W'/\J xs W')\/∃xs,Jx xs W')
def QS{α:Type}(bA:Nat->Obj->Prop)(n0:Nat)(I Ix:List α->World->Prop)(xs:List α)(W:World):Exit->Act->World->Prop
 | .normal,_,W3=>aJ bA n0 W W3/\I xs W3
 | .ret,_,W3=>aJ bA n0 W W3/\Ix xs W3
 |_,_,_=>False
theorem sB{P:Program}{α:Type}{n0 nB:Nat}{ps:Array Tmp}{assign body:Code}{fn:FuncId}{tmps:Array Value}{TJ l gf:Nat}{lb:Array Value}{w W1:World}
  {encs:α->Array Value}(hps:∀x,(encs x).size=ps.size){G:List α->α->World->Prop}{bA iA:Nat->Obj->Prop}{S:List α->World->Prop}(hseq:qn P n0 nB gf lb encs G bA iA S w)
  (hb1:Below w.heap.size w W1)(hL1:W1.heap[l]?=some (.loop (oR fn tmps ps assign body TJ .ready none)))(hlB:nB<=l)(hn:n0<=nB)(Mg:∀b o,iA b o->¬book o)(FH:∀b o,bA b o->¬book o)
  (I Ix:List α->World->Prop)(hI:∀pre A B,I pre A->aJ (fun b o=>iA b o\/aS nB b o) n0 A B->I pre B)(hIx:∀pre A B,Ix pre A->aJ (fun b o=>iA b o\/aS nB b o) n0 A B->Ix pre B)
  (hS:∀xs A B,S xs A->aJ (aS nB) n0 A B->S xs B)
  (E:World->Prop)(hE:∀(A:Nat->Obj->Prop) X Y,(∀b o,A b o->¬book o)->aJ A n0 X Y->E X->E Y)(TK:∀X o,E X->E (X.putObj l o))(h0:I [] W1)(hE0:E W1)
  (jh:∀pre x W,W.heap[l]?=some (.loop (oR fn tmps ps assign body TJ .ready none))->I pre W->G pre x W->assign.wpIn (Fence.wide.inRound l) 0 P (Exit.then (fun a₁ W1=>aJ bA n0 W W1/\∀W2,aJ (aS nB) n0 W1 W2->W2.heap.size=W1.heap.size->(∃r,W2.heap[l]?=some (.loop r))->
    body.wpIn (Fence.wide.inRound l) 0 P (QS bA n0 I Ix (pre++[x]) W2) a₁ W2) (fun _ _ _=>False))
   {tmps:=(ps.zip (encs x)).foldl (fun t (p,v)=>t.setIfInBounds p v) tmps,defers:=[]} W):
  Calls P gf (#[.func (.yield l) #[] #[]]++lb) W1 fun e W2=>(∃v,e=.returned v)/\∃jump W4,(Instr.endLoop l).run P W2=.ok jump W4/\E W4/\
   ((jump=none/\∃xs,S xs W4/\I xs W4)\/(jump=some .ret/\∃xs,Ix xs W4)):=by
 obtain⟨rec,hrec⟩:∃rec:LoopState->Option Code->Loop,rec=oR fn tmps ps assign body TJ:=⟨_,rfl⟩;rw[<-hrec] at hL1
 have uE:∀{A:Nat->Obj->Prop} {X Y:World} {st:LoopState} {pe:Option Code},(∀b o,A b o->¬book o)->aJ A n0 X Y->X.heap[l]?=some (.loop (rec st pe))->Y.heap[l]?=some (.loop (rec st pe)):=
  fun hA ht hl=>ht.2 _ _ hl (fun h=>hA _ _ h trivial)
 have DS:∀{X:World} {o:Obj} (o':Obj),X.heap[l]?=some o->book o->aJ (aS nB) n0 X (X.putObj l o'):=fun o' h hb=>aJ.putObj _ h ⟨hlB,hb⟩ (by omega)
 refine(hseq l (fun pre W=>I pre W/\W.heap[l]?=some (.loop (rec .ready none))/\E W) (fun pre W=>Ix pre W/\W.heap[l]?=some (.loop (rec .done (some .ret)))/\E W) W1 hb1
  (fun pre A B hj ht=>⟨hI _ _ _ hj.1 (ht.mono fun b o h=>.inl h),uE Mg ht hj.2.1,hE _ _ _ Mg ht hj.2.2⟩) (fun pre A B hj ht=>⟨hIx _ _ _ hj.1 (ht.mono fun b o h=>.inl h),uE Mg ht hj.2.1,hE _ _ _ Mg ht hj.2.2⟩) ?_ ⟨h0,hL1,hE0⟩).mono ?_
 ·rintro pre x W ⟨hi,hl,hE1⟩ hG
  have hy:=run_yield (P:=P) (args:=encs x) hl (by rw[hrec];exact hps x);rw[hrec] at hy;refine⟨fn,_,assign,body,hy,roundIn_of_wpIn trivial (wpIn_mono (jh pre x W (by rw[hl,hrec]) hi hG) ?_)⟩;rintro e a1 W2 hp;cases e with
  |normal=>
   obtain⟨ht1,hbody⟩:=hp
   have hl2:=uE FH ht1 hl
   have E4:=hE _ _ _ FH ht1 hE1
   have hlt2:l<W2.heap.size:=(Array.getElem?_eq_some_iff.1 hl2).1
   have hput:aJ (aS nB) n0 W2 (W2.putObj l (.loop (rec .busy none))):=DS _ hl2 trivial
   have hbr:(Instr.beginRound l).run P W2=.ok () (W2.putObj l (.loop (rec .busy none))):=by
    have:=run_beginRound (P:=P) hl2 (by rw[hrec]);rw[hrec] at this ⊢;exact this
   have hl3:(W2.putObj l (.loop (rec .busy none))).heap[l]?=some (.loop (rec .busy none)):=World.putObj_heap_same hlt2
   refine⟨_,hbr,wpIn_mono (hbody _ hput (by simp) ⟨_,hl3⟩) ?_⟩
   rintro e a3 W3 hq
   have fin:∀(I':List α->World->Prop) (hI':∀pre A B,I' pre A->aJ (fun b o=>iA b o\/aS nB b o) n0 A B->I' pre B) (jp:Option Code),aJ bA n0 (W2.putObj l (.loop (rec .busy none))) W3/\I' (pre++[x]) W3->
     (Instr.endRound l jp).run P W3=.ok (.bool jp.isNone) (W3.putObj l (.loop (rec (if jp.isNone then .ready else .done) jp)))/\
     I' (pre++[x]) (W3.putObj l (.loop (rec (if jp.isNone then .ready else .done) jp)))/\
     (W3.putObj l (.loop (rec (if jp.isNone then .ready else .done) jp))).heap[l]?=some (.loop (rec (if jp.isNone then .ready else .done) jp))/\
     E (W3.putObj l (.loop (rec (if jp.isNone then .ready else .done) jp)))/\
     aJ (fun b o=>bA b o\/aS nB b o) n0 W (W3.putObj l (.loop (rec (if jp.isNone then .ready else .done) jp))):=by
    rintro I' hI' jp ⟨ht3,hi3⟩;have hl4:=uE FH ht3 hl3;have OI:l<W3.heap.size:=(Array.getElem?_eq_some_iff.1 hl4).1
    have hend:(Instr.endRound l jp).run P W3=.ok (.bool jp.isNone) (W3.putObj l (.loop (rec (if jp.isNone then .ready else .done) jp))):=by
     have:=run_endRound (P:=P) jp hl4;rw[hrec] at this ⊢;exact this
    have FI:aJ (aS nB) n0 W3 (W3.putObj l (.loop (rec (if jp.isNone then .ready else .done) jp))):=DS _ hl4 trivial
    exact⟨hend,hI' _ _ _ hi3 (FI.mono fun b o h=>.inr h),World.putObj_heap_same OI,TK _ _ (hE _ _ _ FH ht3 (TK _ _ E4)),
     (((ht1.mono fun b o h=>.inl h).trans (hput.mono fun b o h=>.inr h)).trans (ht3.mono fun b o h=>.inl h)).trans (FI.mono fun b o h=>.inr h)⟩
   cases e with
   |normal=>
    obtain⟨h1,h2,h3,h4,h5⟩:=fin I hI none hq
    exact⟨_,_,h1,h5,.inl ⟨rfl,h2,h3,h4⟩⟩
   |ret=>
    obtain⟨h1,h2,h3,h4,h5⟩:=fin Ix hIx (some .ret) hq
    exact⟨_,_,h1,h5,.inr ⟨rfl,h2,h3,h4⟩⟩
   |_=>exact hq.elim
  |_=>exact hp.elim
 ·rintro e W2 ⟨hv,h⟩
  refine⟨hv,?_⟩;rcases h with⟨xs,hSx,hi,hl,E4⟩|⟨xs,hi,hl,E4⟩
  ·have hend:=run_endLoop (P:=P) hl (by rw[hrec];simp)
   have hput:∀o',aJ (aS nB) n0 W2 (W2.putObj l o'):=fun o'=>DS o' hl trivial;exact⟨_,_,hend,TK _ _ E4,.inl ⟨by rw[hrec],xs,hS _ _ _ hSx (hput _),hI _ _ _ hi ((hput _).mono fun b o h=>.inr h)⟩⟩
  ·have hend:=run_endLoop (P:=P) hl (by rw[hrec];simp)
   have hput:∀o',aJ (aS nB) n0 W2 (W2.putObj l o'):=fun o'=>DS o' hl trivial;exact⟨_,_,hend,TK _ _ E4,.inr ⟨by rw[hrec],xs,hIx _ _ _ hi ((hput _).mono fun b o h=>.inr h)⟩⟩
theorem kI{P:Program}{α:Type}{n n0:Nat}{g:Operand}{ps:Array Tmp}{assign body:Code}{Q:Exit->Act->World->Prop}{a:Act}{w:World}
  {gf:Nat}{lb:Array Value}(hg:a.eval g=.func (.func gf) #[] lb)(eg:∀args w,(callFunc gf args).run P w=.ok (.enter gf args) w)
  {encs:α->Array Value}(hps:∀x,(encs x).size=ps.size){G:List α->α->World->Prop}{bA iA:Nat->Obj->Prop}{S:List α->World->Prop}(hseq:qn P n0 w.heap.size gf lb encs G bA iA S w)
  (hn0:n0<=w.heap.size)(Mg:∀b o,iA b o->¬book o)(FH:∀b o,bA b o->¬book o)
  (I Ix:List α->World->Prop)(hI:∀pre A B,I pre A->aJ (fun b o=>iA b o\/aS w.heap.size b o) n0 A B->I pre B)(hIx:∀pre A B,Ix pre A->aJ (fun b o=>iA b o\/aS w.heap.size b o) n0 A B->Ix pre B)
  (hS:∀xs A B,S xs A->aJ (aS w.heap.size) n0 A B->S xs B)(h0:I [] w)
  (jh:∀l pre x W,(∃r,W.heap[l]?=some (.loop r))->I pre W->G pre x W->assign.wpIn (Fence.wide.inRound l) 0 P (Exit.then (fun a₁ W1=>aJ bA n0 W W1/\∀W2,aJ (aS w.heap.size) n0 W1 W2->W2.heap.size=W1.heap.size->(∃r,W2.heap[l]?=some (.loop r))->
    body.wpIn (Fence.wide.inRound l) 0 P (QS bA n0 I Ix (pre++[x]) W2) a₁ W2) (fun _ _ _=>False))
   {tmps:=(ps.zip (encs x)).foldl (fun t (p,v)=>t.setIfInBounds p v) a.tmps,defers:=[]} W)
  (hdone:∀D xs W,w.heap.size<=D->S xs W->I xs W->W.heap[D]?=some (.deferred (some []))->Q .normal {a with defers:={target:=.collected D,args:=#[]}::a.defers} W)
  (hstop:∀D xs W,w.heap.size<=D->Ix xs W->W.heap[D]?=some (.deferred (some []))->Q .ret {a with defers:={target:=.collected D,args:=#[]}::a.defers} W):
  (Code.rangeFunc g ps assign body).wpIn Fence.wide n P Q a w:=by
 refine wpIn_rangeFunc ?_;intro fn hfn;obtain⟨W1,hW1⟩:∃W1,(w.alloc (.deferred (some []))).alloc (.loop (oR fn a.tmps ps assign body w.heap.size .ready none))=W1:=⟨_,rfl⟩
 have hL1:W1.heap[w.heap.size+1]?=some (.loop (oR fn a.tmps ps assign body w.heap.size .ready none)):=by
  rw[<-hW1];have:=World.alloc_heap_new (w.alloc (.deferred (some []))) (.loop (oR fn a.tmps ps assign body w.heap.size .ready none));rwa [World.size_alloc] at this
 have hK1:W1.heap[w.heap.size]?=some (.deferred (some [])):=by
  rw[<-hW1];exact(Go.RowKit.Below.heap_alloc _ _ _ (by simp)).trans (World.alloc_heap_new w _)
 have hb1:Below w.heap.size w W1:=by rw[<-hW1];exact((Below.refl _ w).alloc aB _).alloc (by simp) _
 have hI1:I [] W1:=hI _ _ _ h0 (by rw[<-hW1];exact((aJ.refl _ n0 w).alloc hn0 _).alloc hn0 _)
 refine⟨w.heap.size+1,[{target:=.collected w.heap.size,args:=#[]}],W1,{target:=.fn (.func gf) lb,args:=#[.func (.yield (w.heap.size+1)) #[] #[]]},W1,gf,
  #[.func (.yield (w.heap.size+1)) #[] #[]]++lb,W1,?_,?_,fun _ _=>trivial,?_,fun h=>by simp[Fence.wide] at h,?_⟩
 ·rw[<-hW1];exact run_enterLoop_outer _ _ _ _ _
 ·simp only[resolve,hg]
  simp[go_sem]
 ·simp[invoke,go_sem,eg]
 ·rw[callsIn_wide]
  refine(sB (l:=w.heap.size+1) hps hseq hb1 hL1 (by omega) hn0 Mg FH I Ix hI hIx hS (fun W=>W.heap[w.heap.size]?=some (.deferred (some []))) (fun A X Y hA ht h=>ht.2 _ _ h (fun h=>hA _ _ h trivial))
   (fun X o h=>(World.putObj_heap_other (by omega)).trans h) hI1 hK1 (fun pre x W hl=>jh (w.heap.size+1) pre x W ⟨_,hl⟩)).mono ?_
  rintro e W2 ⟨⟨v,rfl⟩,jump,W4,hend,hE,h⟩;refine⟨jump,W4,hend,?_⟩;rcases h with⟨rfl,xs,h1,h2⟩|⟨rfl,xs,h1⟩
  ·exact hdone _ xs _ aB h1 h2 hE
  ·exact wpIn_ret (hstop _ xs _ aB h1 hE)
theorem vR(s:Sub.S)(n0 nB b l:Nat)(v:Value)(S:Nat->Prop)(W0:World)(bA:Nat->Obj->Prop)(Kp:World->Prop)(Yn:∀X Y,Kp X->aJ (fun b o=>bA b o\/aS nB b o) n0 X Y->Kp Y)
  (hK1:∀X,Kp X->X.heap[b]?=some (.cells #[v] 45 (0,0)))(hK2:∀X,Kp X->aA S W0 X)(hs:aP S W0 v s)
  (J Jx:List (Nat×Nat)->World->Prop)(hJ:∀pre X Y,J pre X->aJ (fun _ _=>False) n0 X Y->J pre Y)(W:World)
  (hY:∀pre (x:Nat×Nat) W1,J pre W1->pre++[x]<+:Sub.kept s->YieldAt Fence.wide 0 Tryz.prog l #[.agg #[.int .i64 (x.1:Int),.int .i64 (x.2:Int)]] W1 fun e W'=>
   aJ (fun b o=>bA b o\/aS nB b o) n0 W1 W'/\((e=.returned (.bool true)/\J (pre++[x]) W')\/(e=.returned (.bool false)/\Jx (pre++[x]) W')))
  (hkp:Kp W)(h0:J [] W):
  Calls Tryz.prog 107 #[.func (.yield l) #[] #[],.pointer (some ⟨b,0,none⟩)] W fun e W'=>(∃v,e=.returned v)/\((∃xs,xs=Sub.kept s/\J xs W')\/∃xs,Jx xs W'):=by
 have c0:=(one_cell (hK1 W hkp)).1;obtain⟨a,cap,rfl,hok,hc,hm⟩:=hs.form;have HS:=hid hs;have Yo:=hid (And.intro hkp h0);have HY:=hid hY;have HDJ:=hid (fun pre X m (h:J pre X)=>hJ pre X (X.drewN m) h ((aJ.refl _ _ _).drewN m));have HDK:=hid (fun X m (h:Kp X)=>Yn X (X.drewN m) h ((aJ.refl _ _ _).drewN m));have rG:=hid hK2;have Aj:=hid Yn;clear hY hkp h0 hK1 hK2 hs Yn hJ;rw[<-callsIn_wide (n:=1)];refine callsIn_of_wp Tryz.func107 rfl trivial ?_ rfl;simp only[Tryz.ntmps107,List.size_toArray,List.length_cons,List.length_nil,Nat.reduceAdd,Nat.reduceSub,Array.replicate_succ,Array.replicate_zero,List.push_toArray,List.append_toArray,List.nil_append,List.cons_append];gi_wp2;clear c0;gi_loopw [9] (fun c wr=>∃k:Nat,k<=s.length/\c=.int .i64 k/\Hid (Kp wr/\J (Sub.gW s k) wr)) (fun c _=>s.length-(intOf c).toNat);case atStart=>exact⟨0,by omega,rfl,hid ⟨Yo.out.1,by rw[Sub.Ah];exact Yo.out.2⟩⟩
 case round=>
  obtain⟨k,hk,rfl,HR⟩:=hrel;by_cases hlt:k<s.length
  ·obtain⟨u,hu1,kL⟩:=HS.out.lW hlt
   have x0:=kL wr (rG.out wr HR.out.1);obtain⟨a1,c1,rfl,Yp,hc1,hm1⟩:=hu1.form;have HB:=hid hu1;have HG:Hid (s.getD k []=s[k]):=hid (Sub.aR hlt);have hk0:(0:Int)<=(k:Int):=by omega
   have hk1:(k:Int)<(s.length:Int):=by omega
   clear hu1 kL;obtain⟨nr,sx⟩:∃n,n=s[k].length:=⟨_,rfl⟩;rw[<-sx] at HB Yp hc1 x0;have Gs:=hid sx;clear sx;gi_wp2;clear x0;generalize LY:wr=Wb at*;gi_loopw [16] (fun c wr=>∃i:Nat,i<=nr/\c=.int .i64 i/\Hid (Kp wr/\J (Sub.gW s k++Sub.kT k s[k] i) wr)) (fun c _=>nr-(intOf c).toNat);case atStart=>exact⟨0,by omega,rfl,hid ⟨HR.out.1,by rw[Sub.sC,List.append_nil];exact HR.out.2⟩⟩
   case round=>
    obtain⟨i,hi,rfl,Jg⟩:=hrel;by_cases hit:i<nr
    ·have hi0:(0:Int)<=(i:Int):=by omega
     have hi1:(i:Int)<(nr:Int):=by omega
     have hik:i<s[k].length:=by have:=Gs.out;omega
     obtain⟨ub,TL,kL⟩:=HB.out.lW hik;obtain rfl:ub=_:=TL;have x0:=kL wr (rG.out wr Jg.out.1);have hsu:=Sub.lZ k s[k] i;rw[Sub.aR hik] at hsu;have hpre:=Sub.Ai (s:=s) (k:=k) (i:=i+1) hlt (by rw[HG.out];omega);rw[HG.out] at hpre;clear kL;generalize s[k][i]=kp at*;cases kp with
     |true=>
      rw[if_pos rfl] at hsu
      rw[hsu,<-List.append_assoc] at hpre
      obtain⟨fn,tmps,assign,body,hyy,hR⟩:=YieldAt.mQ (m':=0) rfl (HY.out _ (k,i) wr Jg.out.2 hpre)
      have Cy:=hid hR
      have TM:=hid hsu
      clear hsu hpre hR
      gi_wp2
      refine(RoundIn.mQ rfl Cy.out).mono ?_
      rintro e W2 ⟨ht2,hres⟩
      have hk2:=Aj.out _ _ Jg.out.1 ht2
      rw[List.append_assoc,<-TM.out] at hres
      rcases hres with⟨rfl,hj2⟩|⟨rfl,hj2⟩
      ·have H2:=hid (And.intro hk2 hj2)
       clear ht2 hk2 hj2 Cy hyy TM;gi_wp2;go_roundw;case rel=>exact⟨i+1,by omega,by go_num,H2⟩
       case measure=>simp[intOf];omega
      ·have H2:=hid hj2
       clear ht2 hk2 hj2 Cy hyy TM;gi_wp2;refine bodyPost_ret (results_none rfl _ _ _) rfl ?_;exact⟨⟨_,rfl⟩,.inr ⟨_,H2.out⟩⟩
     |false=>
      rw[if_neg (by simp)] at hsu
      have H2:Hid (Kp wr/\J (Sub.gW s k++Sub.kT k s[k] (i+1)) wr):=hid ⟨Jg.out.1,by rw[hsu,List.append_nil];exact Jg.out.2⟩
      clear hsu hpre
      gi_wp2
      refine⟨by simp,?_⟩
      gi_wp2
      go_roundw
      case rel=>exact⟨i+1,by omega,by go_num,H2⟩
      case measure=>simp[intOf];omega
    ·obtain rfl:nr=i:=by omega
     have H2:Hid (Kp wr/\J (Sub.gW s (k+1)) wr):=hid ⟨Jg.out.1,by
      have:=Jg.out.2
      rw[Sub.j5,HG.out,<-Sub.nK,<-Gs.out]
      exact this⟩
     gi_wp2;go_roundw;case rel=>exact⟨k+1,by omega,by go_num,H2⟩
     case measure=>simp[intOf];omega
  ·obtain rfl:s.length=k:=by omega
   have H2:=hid HR.out.2;gi_wp2;go_end0;exact⟨⟨_,rfl⟩,.inl ⟨_,rfl,by rw[<-Sub.qQ];exact H2.out⟩⟩
theorem qp(a:Option Addr)(n c:Nat)(w:World):Calls Tryz.prog 67 #[.slice a n c] w fun e w'=>e=.returned (.func (.func 107) #[] #[.pointer (some ⟨w.heap.size,0,none⟩)])/\w'=w.alloc (.cells #[.slice a n c] 45):=by
 go_enter Tryz.func67,Tryz.ntmps67;go_wp2;go_ret;exact⟨rfl,rfl⟩
theorem nL(s:Sub.S)(n0 nB b:Nat)(v:Value)(S:Nat->Prop)(bA:Nat->Obj->Prop)(w:World)(hn0:n0<=w.heap.size)(hs:aP S w v s)
  (hb:w.heap[b]?=some (.cells #[v] 45 (0,0)))(FH:∀o,¬bA b o)(hk:∀X,aJ (fun b o=>bA b o\/aS nB b o) n0 w X->aA S w X):
  qn (α:=Nat×Nat) Tryz.prog n0 nB 107 #[.pointer (some ⟨b,0,none⟩)] (fun x=> #[.agg #[.int .i64 (x.1:Int),.int .i64 (x.2:Int)]]) (fun pre x _=>pre++[x]<+:Sub.kept s) bA (fun _ _=>False) (fun xs _=>xs=Sub.kept s) w:=by
 intro l J Jx W hbW hJ hJx hY h0;refine vR s n0 nB b l v S w bA (fun X=>aJ (fun b o=>bA b o\/aS nB b o) n0 w X) (fun X Y h1 h2=>h1.trans h2) (fun X h=>h.2 _ _ hb ?_) hk hs J Jx hJ W hY (aJ.aM hbW hn0) h0;rintro (h|h)
 ·exact FH _ h
 ·simp[aS,book] at h
attribute [local go_sem] Oper.semAt_some
theorem nO(s:Sub.S)(kW:Sub.size s<=1000000)(t:Value)(U:Nat->Prop)(w:World)(hs:aP U w t s):
  Calls Tryz.prog 38 #[t] w fun e w'=>e=.returned (.int .i64 (Sub.size s:Nat))/\Below w.heap.size w w':=by
 obtain⟨w1,hw1⟩:∃V,V=w.alloc (.cells #[.int .i64 0] 3):=⟨_,rfl⟩;have aW:Hid (Below w.heap.size w w1):=hid (by rw[hw1];exact(Below.refl _ _).alloc aB _);have Jk:Hid (w1.heap[w.heap.size]?=some (.cells #[.int .i64 0] 3 (0,0))):=hid (by rw[hw1];exact aD _ _ rfl);have hz1:w.heap.size<w1.heap.size:=ay Jk.out;have HW1:=hid hw1;clear hw1;have HS:=hid (aP.mono (S':=(·<w.heap.size)) hs (fun b hb _=>hb));obtain⟨uj,cs,rfl,hss, -, -⟩:=hs.form;clear hs;obtain⟨sz,hsz⟩:∃n,n=Sub.size s:=⟨_,rfl⟩;rw[<-hsz] at kW ⊢;have TF:=hid hsz;clear hsz;rw[<-callsIn_wide (n:=5)];refine callsIn_of_wp_marks Tryz.func38 rfl trivial ?_ rfl;simp only[Tryz.ntmps38,List.size_toArray,List.length_cons,List.length_nil,Nat.reduceAdd,Nat.reduceSub,Array.replicate_succ,Array.replicate_zero,List.push_toArray,List.append_toArray,List.nil_append,List.cons_append];rw[wpIn_wide];go_upto_region 2 with fail;rw[<-HW1.out];go_wp2_with fail;refine(qp _ _ _ _).mono ?_;rintro e w5 ⟨rfl,jO⟩;have gL:Below w1.heap.size w1 w5:=by rw[jO];exact(Below.refl _ _).alloc aB _
 have Ar:w5.heap[w1.heap.size]?=some (.cells #[.slice uj s.length cs] 45 (0,0)):=by rw[jO];exact aD _ _ rfl
 have Nb:=ay Ar;have BI:Hid (Below w.heap.size w w5):=hid (aW.out.trans (gL.mono (by omega)));have TW:Hid (w5.heap[w.heap.size]?=some (.cells #[.int .i64 0] 3 (0,0))):=hid ((gL.block _ hz1).trans Jk.out)
 have FP:Hid (qn (α:=Nat×Nat) Tryz.prog w.heap.size w5.heap.size 107 #[.pointer (some ⟨w1.heap.size,0,none⟩)] (fun x=> #[.agg #[.int .i64 (x.1:Int),.int .i64 (x.2:Int)]]) (fun pre x _=>pre++[x]<+:Sub.kept s) (yu w.heap.size) (fun _ _=>False) (fun xs _=>xs=Sub.kept s) w5):=
  hid (nL s w.heap.size w5.heap.size w1.heap.size _ (·<w.heap.size) (yu w.heap.size) w5 (by omega) (HS.out.keep (aA.below BI.out)) Ar (fun o h=>by have:=h.1;omega) (fun Y ht=>aA.aM ht.1 (fun _ h=>h)))
 clear jO gL Ar;go_wp2;rw[<-wpIn_wide (n:=5)]
 refine kI (α:=Nat×Nat) (n0:=w.heap.size) (gf:=107) rfl (aZ Tryz.func107 (by kernel_rfl) rfl) (fun _=>rfl) FP.out (by omega) (fun _ _ h=>h.elim) (fun _ _ h=>h.2)
  (fun pre Y=>aJ (fun b o=>yu w.heap.size b o\/aS w5.heap.size b o) w.heap.size w5 Y/\Y.heap[w.heap.size]?=some (.cells #[.int .i64 (pre.length:Nat)] 3 (0,0))) (fun _ _=>False)
  (fun pre A B h ht=>⟨h.1.trans (ht.mono (fun b o h=>h.elim False.elim .inr)),ht.2 _ _ h.2 (by
   rintro (h|h)
   ·exact h
   ·simp[aS,book] at h)⟩) (fun _ _ _ h _=>h) (fun _ _ _ h _=>h) ⟨aJ.refl _ _ _,TW.out⟩ ?jh ?hdone ?hstop
 case jh=>
  rintro l pre y Y hlr ⟨hI1,qU⟩ Jl;obtain⟨k,i⟩:=y;simp only[List.zip_toArray,List.zip_cons_cons,List.zip_nil_left];have hsY:=hI1.1.size
  have hpl:pre.length+1<=sz:=by
   have h1:=Jl.length_le;rw[List.length_append] at h1;rw[TF.out];exact h1
  gi_wp2;refine⟨aJ.refl _ _ _,fun Y2 ht2 hs2 hl2=>?_⟩;have hA2:=ht2.2 _ _ qU (by simp[aS,book]);have mV:Hid (aJ (fun b o=>yu w.heap.size b o\/aS w5.heap.size b o) w.heap.size w5 Y2):=hid (hI1.trans (ht2.mono (fun b o h=>.inr h)));have c4:=(one_cell hA2).1;have c5:=(one_cell hA2).2
  have HQ:Hid (QS (yu w.heap.size) w.heap.size (fun pre Y=>aJ (fun b o=>yu w.heap.size b o\/aS w5.heap.size b o) w.heap.size w5 Y/\Y.heap[w.heap.size]?=some (.cells #[.int .i64 (pre.length:Nat)] 3 (0,0))) (fun(_:List (Nat×Nat)) _=>False) (pre++[(k,i)]) Y2 .normal {tmps:=#[],defers:=[]} (Y2.setCell ⟨w.heap.size,0,none⟩ (.int .i64 ((pre.length:Int)+1)))):=hid (by
   have t24:aJ (yu w.heap.size) w.heap.size Y2 (Y2.setCell ⟨w.heap.size,0,none⟩ (.int .i64 ((pre.length:Int)+1))):=
    aJ.setCell (p:=⟨w.heap.size,0,none⟩) (aJ.refl _ _ _) hA2 ⟨rfl,by simp[book]⟩ aB _
   refine⟨t24,mV.out.trans (t24.mono (fun b o h=>.inl h)),?_⟩
   rw[List.length_append]
   exact one_set _ hA2)
  have hp0:(0:Int)<=(pre.length:Int):=by omega
  have hp1:(pre.length:Int)<=1000000:=by omega
  clear hI1 qU ht2 hA2 Jl hs2;gi_wp2;exact HQ.out
 case hdone=>
  rintro D xs Y hD rfl ⟨hI1,qU⟩ hk;have c4:=(one_cell qU).1;have HM:=hid ((Marks.nil w.heap.size w5.heap.size Y).push hD (by omega) hk);have HB:=hid (BI.out.trans hI1.1);have hkl:(Sub.kept s).length=sz:=by rw[TF.out];rfl
  rw[hkl] at c4;clear hI1 qU hk hkl;dsimp only;go_wp2;refine iL (v:=.int .i64 (sz:Int)) HM.out (fun w' ht=>⟨?_,rfl,HB.out.trans ht.1⟩);simp[results,Tryz.results38,go_sem]
 case hstop=>
  rintro D xs Y hD h;exact h.elim
theorem nQ(sh:List Nat)(a b:Sub.S)(hfa:Sub.Fit sh a)(wO:Sub.Fit sh b)(hsa:Sub.size a<=1000000)(hsb:Sub.size b<=1000000)(kW:sh.length<=1000000)(t u:Value)(U V:Nat->Prop)(w:World)(ha:aP U w t a)(hb:aP V w u b):
  Calls Tryz.prog 34 #[t,u] w fun e w'=>e=.returned (.bool (Sub.less sh a b))/\Below w.heap.size w w':=by
 have hlen:a.length=b.length:=by rw[hfa.1,wO.1]
 have hmap:a.map List.length=b.map List.length:=by
  refine List.ext_getElem (by simp[hlen]) fun k h1 h2=>?_;simp only[List.length_map] at h1 h2;have e1:=hfa.2 k;have e2:=wO.2 k;rw[Sub.aR h1] at e1;rw[Sub.aR h2] at e2;simp only[List.getElem_map];omega
 have HEq:=hid (Qq a b hmap (by rw[hfa.1];omega) t u U V w ha hb);have HSa:=hid (nO a hsa t U w ha);have HSb:=hid (fun X (hX:Below w.heap.size w X)=>nO b hsb u V X (hb.keep (aA.below hX)));have HA:=hid ha;have HB:=hid hb;obtain⟨aa,ac,rfl,hoa, -, -⟩:=ha.form;obtain⟨ba,bc,rfl,hob, -, -⟩:=hb.form;have HFa:=hid hfa;have HFb:=hid wO;obtain⟨za,hza⟩:∃n,n=Sub.size a:=⟨_,rfl⟩;obtain⟨zb,Xe⟩:∃n,n=Sub.size b:=⟨_,rfl⟩;have Gv:Hid (za≠zb->Sub.less sh a b=decide (za<zb)):=hid (fun h=>by rw[hza,Xe] at h ⊢;exact Sub.Mq h);have pT:Hid (za=zb->∀k i,k<sh.length->i<sh.getD k 0->(∀k' i',k'<k\/(k'=k/\i'<i)->Sub.keeps a k' i'=Sub.keeps b k' i')->Sub.keeps a k i≠Sub.keeps b k i->Sub.less sh a b=Sub.keeps a k i):=hid (fun h k i h1 h2 h3 h4=>Sub.T9 (by rw[<-hza,<-Xe];exact h) h1 h2 h3 h4);have Qi:Hid (za=zb->(∀k' i',Sub.keeps a k' i'=Sub.keeps b k' i')->Sub.less sh a b=false):=hid (fun h h1=>Sub.Mr (by rw[<-hza,<-Xe];exact h) h1);rw[<-hza] at hsa HSa;rw[<-Xe] at hsb HSb;obtain⟨res,hres⟩:∃r,r=Sub.less sh a b:=⟨_,rfl⟩;rw[<-hres] at Gv pT Qi ⊢;obtain⟨na,hna⟩:∃n,n=a.length:=⟨_,rfl⟩;have hnb:b.length=na:=by rw[hna];exact hlen.symm
 have hns:sh.length=na:=by rw[hna];exact hfa.1.symm
 rw[<-hna] at HEq HSa hoa;rw[hnb] at HEq HSb hob;rw[<-hna,hnb];have HNa:=hid hna;have X8:=hid hnb;have HNs:=hid hns;have hnm:na<=1000000:=by omega
 clear ha hb hfa wO hlen hmap hza Xe hres hna hnb hns kW;go_enter Tryz.func34,Tryz.ntmps34;go_wp2_with fail;refine HEq.out.mono ?_;rintro e w1 ⟨rfl,rfl⟩;go_wp2_with fail;refine HSa.out.mono ?_;rintro e w2 ⟨rfl,hb2⟩;have bB:=hid hb2;clear hb2;go_wp2_with fail;refine(HSb.out w2 bB.out).mono ?_;rintro e w3 ⟨rfl,hb3⟩;have bG:Hid (Below w.heap.size w w3):=hid (bB.out.trans (hb3.mono bB.out.size));clear hb3;by_cases hz:za=zb
 ·have HAt2:=hid (pT.out hz)
  have HNn2:=hid (Qi.out hz);have hz2:(za:Int)=(zb:Int):=by omega
  clear pT Qi Gv;subst hz;go_wp2;go_loopw [25] (fun kk wr=>∃k:Nat,k<=na/\kk=.int .i64 k/\Hid (∀k' i',k'<k->Sub.keeps a k' i'=Sub.keeps b k' i')/\Hid (Below w.heap.size w wr)) (fun kk _=>na-(intOf kk).toNat);case atStart=>exact⟨0,Nat.zero_le _,rfl,hid (fun k' i' h=>absurd h (by omega)),bG⟩
  case round=>
   obtain⟨k,hk,rfl,HPr,iP⟩:=hrel;by_cases hlt:k<na
   ·have hk0:(0:Int)<=(k:Int):=by omega
    have hk1:(k:Int)<(na:Int):=by omega
    have hka:k<a.length:=by rw[<-HNa.out];exact hlt
    have hkb:k<b.length:=by rw[X8.out];exact hlt
    obtain⟨ra,YS,Ul⟩:=HA.out.lW hka;obtain⟨rb,YT,YU⟩:=HB.out.lW hkb;obtain⟨aa1,ac1,rfl,hoa1,hxc,hxm⟩:=YS.form;obtain⟨ba1,bc1,rfl,hob1, -, -⟩:=YT.form;have hla:=HFa.out.2 k;rw[Sub.aR hka] at hla;have hlb:=HFb.out.2 k;rw[Sub.aR hkb] at hlb;obtain⟨m,hm⟩:∃m,m=sh.getD k 0:=⟨_,rfl⟩;rw[<-hm] at hla hlb;rw[hla] at Ul hoa1 hxc;rw[hlb] at YU hob1;have HRa:=hid YS;have HRb:=hid YT;have HRa2:=hid Ul;have HRb2:=hid YU;have HLa:=hid hla;have HLb:=hid hlb;have HM:=hid hm;have x0:wr.cell? ⟨aY aa,bC aa+k,none⟩=some (.slice aa1 m ac1):=Ul wr (aA.below iP.out);clear YS Ul YT YU hla hlb hm;go_wp2;clear x0;generalize LY:wr=Wb at*;go_loopw [33] (fun ii wr=>∃i:Nat,i<=m/\ii=.int .i64 i/\Hid (∀k' i',k'<k\/(k'=k/\i'<i)->Sub.keeps a k' i'=Sub.keeps b k' i')/\Hid (Below w.heap.size w wr)) (fun ii _=>m-(intOf ii).toNat);case atStart=>exact⟨0,Nat.zero_le _,rfl,hid (fun k' i' h=>HPr.out k' i' (by omega)),iP⟩
    case round=>
     obtain⟨i,hi,rfl,HPi,Gi⟩:=hrel;by_cases hit:i<m
     ·have hi0:(0:Int)<=(i:Int):=by omega
      have hi1:(i:Int)<(m:Int):=by omega
      have hia:i<a[k].length:=by rw[HLa.out];exact hit
      have hib:i<b[k].length:=by rw[HLb.out];exact hit
      obtain⟨ca,hca1,acB⟩:=HRa.out.lW hia;obtain rfl:ca=_:=hca1;obtain⟨cb,hcb1,acC⟩:=HRb.out.lW hib;obtain rfl:cb=_:=hcb1;have x0:wr.cell? ⟨aY aa,bC aa+k,none⟩=some (.slice aa1 m ac1):=HRa2.out wr (aA.below Gi.out);have x1:wr.cell? ⟨aY ba,bC ba+k,none⟩=some (.slice ba1 m bc1):=HRb2.out wr (aA.below Gi.out);have x2:wr.cell? ⟨aY aa1,bC aa1+i,none⟩=some (.bool a[k][i]):=acB wr (aA.below Gi.out);have x3:wr.cell? ⟨aY ba1,bC ba1+i,none⟩=some (.bool b[k][i]):=acC wr (aA.below Gi.out);have hxa:Sub.keeps a k i=a[k][i]:=by unfold Sub.keeps;rw[Sub.aR hka,Sub.aR hia]
      have M5:Sub.keeps b k i=b[k][i]:=by unfold Sub.keeps;rw[Sub.aR hkb,Sub.aR hib]
      have Dh:Hid (a[k][i]≠b[k][i]->res=a[k][i]):=hid (fun h=>by
       rw[<-hxa];exact HAt2.out k i (by rw[HNs.out];exact hlt) (by rw[<-HM.out];exact hit) HPi.out (by rw[hxa,M5];exact h))
      have tE:Hid (a[k][i]=b[k][i]->∀k' i',k'<k\/(k'=k/\i'<i+1)->Sub.keeps a k' i'=Sub.keeps b k' i'):=hid (fun h k' i' hki=>by
       by_cases e:k'=k/\i'=i
       ·obtain⟨rfl,rfl⟩:=e
        rw[hxa,M5,h]
       ·exact HPi.out k' i' (by omega))
      clear hxa M5 acB acC;generalize a[k][i]=xa at*;generalize b[k][i]=xb at*;cases xa with
      |false=>cases xb with
       |false=>
        have HN:=hid (tE.out rfl)
        clear Dh tE
        go_wp2
        go_quiet (fail)
        go_wp2
        go_roundw
        case rel=>exact⟨i+1,by omega,by go_num,HN,hid (af5 Gi.out _)⟩
        case measure=>simp[intOf];omega
       |true=>
        have HN:=hid (Dh.out (by decide))
        clear Dh tE
        go_wp2
        go_quiet (fail)
        go_wp2
        go_ret
        exact⟨by rw[HN.out];rfl,af5 Gi.out _⟩
      |true=>cases xb with
       |false=>
        have HN:=hid (Dh.out (by decide))
        clear Dh tE
        go_wp2
        go_quiet (fail)
        go_wp2
        go_ret
        exact⟨by rw[HN.out];rfl,af5 Gi.out _⟩
       |true=>
        have HN:=hid (tE.out rfl)
        clear Dh tE
        go_wp2
        go_quiet (fail)
        go_wp2
        go_roundw
        case rel=>exact⟨i+1,by omega,by go_num,HN,hid (af5 Gi.out _)⟩
        case measure=>simp[intOf];omega
     ·obtain rfl:m=i:=by omega
      have HN:Hid (∀k' i',k'<k+1->Sub.keeps a k' i'=Sub.keeps b k' i'):=hid (fun k' i' h=>by
       by_cases e:k'=k/\m<=i'
       ·obtain⟨rfl,h2⟩:=e
        unfold Sub.keeps;rw[Sub.aR hka,Sub.aR hkb,Sub.gU (by rw[HLa.out];exact h2),Sub.gU (by rw[HLb.out];exact h2)]
       ·exact HPi.out k' i' (by omega))
      go_wp2;go_roundw;case rel=>exact⟨k+1,by omega,by go_num,HN,Gi⟩
      case measure=>simp[intOf];omega
   ·obtain rfl:na=k:=by omega
    have HN:Hid (res=false):=hid (HNn2.out (fun k' i'=>by
     by_cases h:k'<na
     ·exact HPr.out k' i' h
     ·unfold Sub.keeps
      rw[Sub.gU (xs:=a) (by rw[<-HNa.out];omega),Sub.gU (xs:=b) (by rw[X8.out];omega)]))
    go_wp2;go_ret;exact⟨by rw[HN.out];rfl,iP.out⟩
 ·have HN:=hid (Gv.out hz)
  have hz2:¬(za:Int)=(zb:Int):=by omega
  clear pT Qi Gv;by_cases hl:za<zb
  ·have hl2:(za:Int)<(zb:Int):=by omega
   have HR:Hid (res=true):=hid (by rw[HN.out];exact decide_eq_true hl);clear HN;go_wp2;go_ret;exact⟨by rw[HR.out];simp,bG.out⟩
  ·have hl2:¬(za:Int)<(zb:Int):=by omega
   have HR:Hid (res=false):=hid (by rw[HN.out];exact decide_eq_false hl);clear HN;go_wp2;go_ret;exact⟨by rw[HR.out];simp,bG.out⟩
end Go.Proofs.YtobgljfnfpolkaaGreatDoor.Dr
namespace Go.Proofs.YtobgljfnfpolkaaGreatDoor
open Go.RowKit
def cW(B:Nat)(E:Nat->Prop)(w:World)(v:Value)(xs:List Sub.S):Prop:=
 ∃us,w.ownsRow B 45 1 v xs.length us/\us.length=xs.length/\∀j (h1:j<us.length) (h2:j<xs.length),aP (fun b=>E b/\v.ownBlock≠some b) w us[j] xs[j]
theorem cW.nil(B:Nat)(E:Nat->Prop)(w:World):cW B E w (.slice none 0 0) []:=⟨[],World.ownsRow_nil _ _ _ _,rfl,fun j h=>absurd h (by simp)⟩
theorem cW.lt{B:Nat}{E:Nat->Prop}{w:World}{v:Value}{xs:List Sub.S}(h:cW B E w v xs):∀b,v.ownBlock=some b->B<=b/\b<w.heap.size:=by
 obtain⟨us,h1,_⟩:=h;exact fun b hb=>h1.lt b hb
theorem cW.kept{B:Nat}{E:Nat->Prop}{w w':World}{v:Value}{xs:List Sub.S}(h:cW B E w v xs)(hk:∀b,b<w.heap.size->v.ownBlock=some b\/E b->w'.heap[b]?=w.heap[b]?):cW B E w' v xs:=by
 obtain⟨us,h1,h2,h3⟩:=h;exact⟨us,cC (S:=fun b=>v.ownBlock=some b) h1 (fun b hb=>hb) (fun b hb hlt=>hk b hlt (.inl hb)),h2,fun j g1 g2=>(h3 j g1 g2).keep (fun b hb hlt=>hk b hlt (.inr hb.1))⟩
theorem cW.next{B:Nat}{E:Nat->Prop}{w w':World}{v:Value}{xs:List Sub.S}(h:cW B E w v xs)(hb:BL w w'):cW B E w' v xs:=h.kept fun b hl _=>hb.block b hl
theorem cW.mono{B:Nat}{E E':Nat->Prop}{w:World}{v:Value}{xs:List Sub.S}(h:cW B E w v xs)(hE:∀b,b<w.heap.size->E b->E' b):cW B E' w v xs:=by
 obtain⟨us,h1,h2,h3⟩:=h;exact⟨us,h1,h2,fun j g1 g2=>(h3 j g1 g2).mono (fun b hl hb=>⟨hE b hl hb.1,hb.2⟩)⟩
theorem cW.sl{B:Nat}{E:Nat->Prop}{w:World}{v:Value}{xs:List Sub.S}(h:cW B E w v xs):eX (fun w u x=>aP (fun b=>E b/\v.ownBlock≠some b) w u x) (fun b=>v.ownBlock=some b) w v xs:=by
 obtain⟨us,g1,g2,g3⟩:=h;exact jP g1 (fun b hb=>hb) g2 g3
theorem cW.form{B:Nat}{E:Nat->Prop}{w:World}{v:Value}{xs:List Sub.S}(h:cW B E w v xs):∃a c,v=.slice a xs.length c/\dG a xs.length/\xs.length<=c/\c<=9223372036854775807:=h.sl.form
theorem cW.one{B:Nat}{E:Nat->Prop}{w:World}{u:Value}{x:Sub.S}(hB:B<=w.heap.size)(hu:aP E w u x)(h1:u.oneCell'=true):cW B E (w.alloc (.cells #[u] 45)) (.slice (some ⟨w.heap.size,0,none⟩) 1 1) [x]:=by
 refine⟨[u],⟨by simp,.inr ⟨w.heap.size,1,#[u],rfl,hB,aD _ _ rfl,by simp,by decide,rfl,rfl⟩⟩,rfl,fun j g1 g2=>?_⟩;obtain rfl:j=0:=by simp at g1;omega
 have h2:=aP.mono (S':=fun b=>E b/\b<w.heap.size) hu (fun b hb hE=>⟨hE,hb⟩);have h3:=aP.keep (w':=w.alloc (.cells #[u] 45)) h2 (fun b hb hl=>Below.heap_alloc _ _ _ hl);exact aP.mono h3 (fun b _ hb=>⟨hb.1,fun e=>by have h8:w.heap.size=b:=zSi e;have h9:=hb.2;omega⟩)
theorem Tryz.D1:jt Tryz.prog 36 45 1 24:=gA (z:=.slice none 0 0) (by kernel_rfl) (by kernel_rfl) rfl (by omega) (by omega)
theorem AA{P:Program}{t:TypeId}{bytes:Nat}{w:World}{ops:Array Oper}{rest:List Oper}{o:Oper}{a:Act}{Q:Exit->Act->World->Prop}(hgd:o.guard=none)(s x:Operand)
  (ho:o.op=.call {callee:=.builtin .append,args:=#[s,x],argTypes:=#[t,t]})(hT:jt P t 45 1 bytes)
  {B:Nat}{E:Nat->Prop}{v:Value}{xs:List Sub.S}(hs:a.eval s=v)(hown:cW B E w v xs)
  {u:Value}{e':TypeId}(hx:a.eval x=.slice (some ⟨w.heap.size,0,none⟩) 1 1)(y:Sub.S)(hu:aP (fun b=>E b/\v.ownBlock≠some b) w u y)(h1:u.oneCell'=true)
  (hsmall:xs.length+1<=1000000000)(hB:B<=w.heap.size)
  (h:∀v' w',cW B E w' v' (xs++[y])->Turns (fun b=>v.ownBlock=some b) w w'->(∀b,v'.ownBlock=some b->v.ownBlock=some b\/w.heap.size<=b)->wpList P ops Q rest (a.put o.dst v') w'):
  wpList P ops Q (o::rest) a (w.alloc (.cells #[u] e')):=by
 obtain⟨us,h2,h3,h4⟩:=hown;have ha:BL w (w.alloc (.cells #[u] e')):=aj.alloc aB _;refine gB hgd s x ho hT hs (h2.alloc _) _ 1 1 hx (fun _=>⟨_,_,rfl⟩) [u] rfl (jb w #[u] e') (by simpa using h1) hsmall (by simp;omega) (fun v' w' g1 g2 g3=>?_);have hT0:=Turns.eT (S:=fun b=>v.ownBlock=some b) g2 fun b hb'=>hb';have hT:Turns (fun b=>v.ownBlock=some b) w w':=(Turns.aM ha).trans ⟨hT0.os,hT0.tape,hT0.output,hT0.size,hT0.block⟩;refine h v' w' ⟨us++[u],by simpa using g1,by simp[h3],fun j k1 k2=>?_⟩ hT (fun b hb=>?_);rotate_left
 ·rcases g3 with g3|g3
  ·exact .inl (g3▸hb)
  ·rw[g3] at hb
   have h8:=zSi hb;have h10:=ha.size;exact .inr (by omega)
 have keep:∀{u y},aP (fun b=>E b/\v.ownBlock≠some b) w u y->aP (fun b=>E b/\v'.ownBlock≠some b) w' u y:=fun h=>by
  have:=aP.mono (S':=fun b=>(E b/\v.ownBlock≠some b)/\b<w.heap.size) h (fun b hb hE=>⟨hE,hb⟩);refine aP.mono (aP.keep this (hT.keep (fun b hb=>hb.1.2))) (fun b _ hb=>⟨hb.1.1,?_⟩);rcases g3 with g3|g3
  ·rw[g3];exact hb.1.2
  ·rw[g3];intro e
   have h8:=zSi e;have h9:=hb.2;have h10:=ha.size;omega
 by_cases hj:j<us.length
 ·rw[zAl hj,zAl (by omega)]
  exact keep (h4 j hj (by omega))
 ·simp at k1
  obtain rfl:j=us.length:=by omega
  simp only[zAr aB,Nat.sub_self,List.getElem_cons_zero];rw[zAr (by omega)];simp[h3];exact keep hu
def MH(sh:List Nat)(a b:Sub.S):Int:=if Sub.less sh a b=true then -1 else if Sub.less sh b a=true then 1 else 0
theorem QI(sh:List Nat)(a b:Sub.S):decide (MH sh a b<0)=Sub.less sh a b:=by
 unfold MH;cases Sub.less sh a b<;>cases Sub.less sh b a<;>rfl
theorem QJ(sh:List Nat)(a b:Sub.S)(hfa:Sub.Fit sh a)(wO:Sub.Fit sh b)(hsa:Sub.size a<=1000000)(hsb:Sub.size b<=1000000)(kW:sh.length<=1000000)(t u:Value)(U V:Nat->Prop)(w:World)(ha:aP U w t a)(hb:aP V w u b):
  Calls Tryz.prog 85 #[t,u] w fun e w'=>e=.returned (.int .i64 (MH sh a b))/\Dr.Below w.heap.size w w':=by
 have H1:=hid (Dr.nQ sh a b hfa wO hsa hsb kW t u U V w ha hb);have H2:=hid (fun X (hX:Dr.Below w.heap.size w X)=>Dr.nQ sh b a wO hfa hsb hsa kW u t V U X (hb.keep (Dr.aA.below hX)) (ha.keep (Dr.aA.below hX)));obtain⟨aa,ac,rfl, -, -, -⟩:=ha.form;obtain⟨ba,bc,rfl, -, -, -⟩:=hb.form;have HR:Hid (MH sh a b=if Sub.less sh a b=true then -1 else if Sub.less sh b a=true then 1 else 0):=hid rfl;clear ha hb hfa wO hsa hsb kW;generalize MH sh a b=r at*;generalize Sub.less sh a b=l1 at*;generalize Sub.less sh b a=l2 at*;go_enter Tryz.func85,Tryz.ntmps85;go_wp2_with fail;refine H1.out.mono ?_;rintro e w1 ⟨rfl,hb1⟩;have aW:=hid hb1;clear hb1;cases l1 with
 |true=>
  go_wp2
  go_ret
  exact⟨by rw[HR.out];rfl,aW.out⟩
 |false=>
  go_wp2_with fail
  refine(H2.out w1 aW.out).mono ?_
  rintro e w2 ⟨rfl,hb2⟩
  have bB:Hid (Dr.Below w.heap.size w w2):=hid (aW.out.trans (hb2.mono aW.out.size))
  clear hb2
  cases l2 with
  |true=>
   go_wp2
   go_ret
   exact⟨by rw[HR.out];rfl,bB.out⟩
  |false=>
   go_wp2
   go_ret
   exact⟨by rw[HR.out];rfl,bB.out⟩
theorem afZ{w w':World}(h:Dr.Below w.heap.size w w'):∃q os,w'=Go.Sort.grow (w.drewN q) os:=by
 refine⟨w'.drawn-w.drawn,w'.heap.extract w.heap.size w'.heap.size,?_⟩;have hd:=h.drawn;have hz:=h.size;obtain⟨h1,h2,h3, -,h5⟩:=h.toB;cases w with
 |mk heap tape drawn os output=>
 cases w' with
 |mk VZ tape' drawn' os' adf=>
 simp only at*;subst h1;subst h2;subst h3;unfold Go.Sort.grow World.drewN;simp only[World.mk.injEq,and_true,true_and];refine⟨?_,by omega⟩;apply Array.ext_getElem?;intro i;rw[Array.getElem?_append];by_cases hi:i<heap.size
 ·rw[if_pos hi,h5 i hi]
 ·rw[if_neg hi,Array.getElem?_extract]
  by_cases h9:i-heap.size<min VZ.size VZ.size-heap.size
  ·rw[if_pos h9]
   congr 1;omega
  ·rw[if_neg h9]
   simp at h9;exact Array.getElem?_eq_none (by omega)
end Go.Proofs.YtobgljfnfpolkaaGreatDoor
namespace Go.Proofs
open Go.Shelf
def Tryz.vZ:Go.Shelf.Ren:=⟨fun|6=>84|14=>112|15=>113|20=>149|21=>150|22=>151|23=>152|24=>153|25=>154|26=>155|27=>156|28=>157|29=>158|46=>182|47=>183|48=>184|49=>185|50=>186|57=>212|n=>n,fun|0=>0|3=>3|4=>4|5=>5|9=>9|22=>36|24=>45|25=>170|39=>175|45=>261|46=>262|50=>266|53=>248|55=>251|66=>283|70=>287|76=>312|77=>204|n=>n,fun|n=>n⟩
theorem Tryz.QK:Go.Proofs.SlLaysF.n6 Tryz.prog Tryz.vZ:={
 mixed:=by kernel_rfl
 f6:=⟨Tryz.f84.name,by decide,Tryz.func84.trans (congrArg some (by kernel_rfl))⟩
 f14:=⟨Tryz.f112.name,by decide,Tryz.func112.trans (congrArg some (by kernel_rfl))⟩
 f15:=Tryz.func113.trans (congrArg some (by kernel_rfl))
 f20:=⟨Tryz.f149.name,by decide,Tryz.func149.trans (congrArg some (by kernel_rfl))⟩
 f21:=⟨Tryz.f150.name,by decide,Tryz.func150.trans (congrArg some (by kernel_rfl))⟩
 f22:=⟨Tryz.f151.name,by decide,Tryz.func151.trans (congrArg some (by kernel_rfl))⟩
 f23:=⟨Tryz.f152.name,by decide,Tryz.func152.trans (congrArg some (by kernel_rfl))⟩
 f24:=⟨Tryz.f153.name,by decide,Tryz.func153.trans (congrArg some (by kernel_rfl))⟩
 f25:=⟨Tryz.f154.name,by decide,Tryz.func154.trans (congrArg some (by kernel_rfl))⟩
 f26:=⟨Tryz.f155.name,by decide,Tryz.func155.trans (congrArg some (by kernel_rfl))⟩
 f27:=⟨Tryz.f156.name,by decide,Tryz.func156.trans (congrArg some (by kernel_rfl))⟩
 f28:=Tryz.func157.trans (congrArg some (by kernel_rfl))
 f29:=Tryz.func158.trans (congrArg some (by kernel_rfl))
 f46:=⟨Tryz.f182.name,by decide,Tryz.func182.trans (congrArg some (by kernel_rfl))⟩
 f47:=Tryz.func183.trans (congrArg some (by kernel_rfl))
 f48:=Tryz.func184.trans (congrArg some (by kernel_rfl))
 f49:=⟨Tryz.f185.name,by decide,Tryz.func185.trans (congrArg some (by kernel_rfl))⟩
 f50:=⟨Tryz.f186.name,by decide,Tryz.func186.trans (congrArg some (by kernel_rfl))⟩
 f57:=⟨Tryz.f212.name,by decide,Tryz.func212.trans (congrArg some (by kernel_rfl))⟩
 t0:=Tryz.underlying0
 a0:=Tryz.isAgg0
 z0:=Tryz.sizeOf0
 v0:=Tryz.zeroValue0
 t3:=Tryz.underlying3
 a3:=Tryz.isAgg3
 z3:=Tryz.sizeOf3
 v3:=Tryz.zeroValue3
 t4:=Tryz.underlying4
 a4:=Tryz.isAgg4
 z4:=Tryz.sizeOf4
 v4:=Tryz.zeroValue4
 t5:=Tryz.underlying5
 a5:=Tryz.isAgg5
 z5:=Tryz.sizeOf5
 v5:=Tryz.zeroValue5
 t9:=Tryz.underlying9
 a9:=Tryz.isAgg9
 z9:=Tryz.sizeOf9
 v9:=Tryz.zeroValue9
 t22:=Tryz.underlying36
 a22:=Tryz.isAgg36
 z22:=Tryz.sizeOf36
 v22:=Tryz.zeroValue36
 a24:=Tryz.isAgg45
 z24:=Tryz.sizeOf45
 t25:=Tryz.underlying170
 a25:=Tryz.isAgg170
 z25:=Tryz.sizeOf170
 v25:=Tryz.zeroValue170
 t39:=Tryz.underlying175
 a39:=Tryz.isAgg175
 z39:=Tryz.sizeOf175
 v39:=Tryz.zeroValue175
 t45:=Tryz.underlying261
 a45:=Tryz.isAgg261
 z45:=Tryz.sizeOf261
 v45:=Tryz.zeroValue261
 t46:=Tryz.underlying262
 a46:=Tryz.isAgg262
 z46:=Tryz.sizeOf262
 v46:=Tryz.zeroValue262
 t50:=Tryz.underlying266
 a50:=Tryz.isAgg266
 z50:=Tryz.sizeOf266
 v50:=Tryz.zeroValue266
 t53:=Tryz.underlying248
 a53:=Tryz.isAgg248
 z53:=Tryz.sizeOf248
 v53:=Tryz.zeroValue248
 t55:=Tryz.underlying251
 a55:=Tryz.isAgg251
 z55:=Tryz.sizeOf251
 v55:=Tryz.zeroValue251
 t66:=Tryz.underlying283
 a66:=Tryz.isAgg283
 z66:=Tryz.sizeOf283
 v66:=Tryz.zeroValue283
 t70:=Tryz.underlying287
 a70:=Tryz.isAgg287
 z70:=Tryz.sizeOf287
 v70:=Tryz.zeroValue287
 t76:=Tryz.underlying312
 a76:=Tryz.isAgg312
 z76:=Tryz.sizeOf312
 v76:=Tryz.zeroValue312
 t77:=Tryz.underlying204
 a77:=Tryz.isAgg204
 z77:=Tryz.sizeOf204
 v77:=Tryz.zeroValue204}
end Go.Proofs
namespace Go.Proofs.YtobgljfnfpolkaaGreatDoor
open Go.RowKit Go.Shelf Go.Lib Go.Sort
abbrev ElS(sh:List Nat)(E:Nat->Prop)(w:World):={p:Value×Sub.S // aP E w p.1 p.2/\p.1.oneCell'=true/\Sub.Fit sh p.2/\Sub.size p.2<=1000000}
def encS{sh:List Nat}{E:Nat->Prop}{w:World}(x:ElS sh E w):Value:=x.1.1
def cfS{sh:List Nat}{E:Nat->Prop}{w:World}(x y:ElS sh E w):Int:=MH sh x.1.2 y.1.2
theorem ltS{sh:List Nat}{E:Nat->Prop}{w:World}(x y:ElS sh E w):ltOf cfS x y=Sub.less sh x.1.2 y.1.2:=QI _ _ _
theorem swoS{sh:List Nat}{E:Nat->Prop}{w:World}:SWO (ltOf (cfS (sh:=sh) (E:=E) (w:=w))) where
 irrefl x:=by rw[ltS];exact Sub.kG _ _
 trans x y z h1 h2:=by rw[ltS] at*;exact Sub.ox h1 h2
 ntrans x y z h1 h2:=by
  rw[ltS] at*;rcases Sub.oy x.2.2.2.1 y.2.2.2.1 with h|h|h
  ·rw[h];exact h2
  ·rw[h] at h1;cases h1
  ·rcases Sub.oy y.2.2.2.1 z.2.2.2.1 with h'|h'|h'
   ·rw[<-h'];exact h1
   ·rw[h'] at h2;cases h2
   ·exact Sub.zx (Sub.ox h' h)
theorem kP{α:Type}[Inhabited α](enc:α->Value)(w:World)(g n:Nat)(d:Array α)(os:Array Obj){b:Nat}(hb:b<w.heap.size)(hne:b≠g):(sortWorld enc w g 0 n d os).heap[b]?=w.heap[b]?:=by
 unfold sortWorld;rw[heap_grow_old _ _ (by simpa using hb)];unfold putRow mapBlock;simp only[Array.getElem?_modify,heap_ahead];rw[if_neg (Ne.symm hne)]
theorem BM{α:Type}[Inhabited α](enc:α->Value)(w:World)(g n:Nat)(d:Array α)(os:Array Obj){c:Array Value}{e:TypeId}{fr:Nat×Nat}(h:w.heap[g]?=some (.cells c e fr)):(sortWorld enc w g 0 n d os).heap[g]?=some (.cells (putCells enc 0 d c) e fr):=by
 have hb:=(Array.getElem?_eq_some_iff.1 h).1;unfold sortWorld;rw[heap_grow_old _ _ (by simpa using hb)];unfold putRow mapBlock;simp only[Array.getElem?_modify,heap_ahead,if_true,h];rfl
theorem yx{α:Type}[Inhabited α](enc:α->Value)(w:World)(g n:Nat)(d:Array α)(os:Array Obj):Turns (·=g) w (sortWorld enc w g 0 n d os):=
 ⟨rfl,rfl,rfl,by simp[sortWorld],fun b hb hlt=>kP enc w g n d os hlt hb⟩
theorem acD{sh:List Nat}{E:Nat->Prop}{w:World}:∀(us:List Value) (xs:List Sub.S),us.length=xs.length->(∀s∈xs,Sub.Fit sh s/\Sub.size s<=1000000)->(∀j (h1:j<us.length) (h2:j<xs.length),aP E w us[j] xs[j])->∃dl:List (ElS sh E w),dl.map (fun x=>x.1.1)=us/\dl.map (fun x=>x.1.2)=xs
 |[],[],_,_,_=>⟨[],rfl,rfl⟩
 |u::us,x::xs,hl,hf,h=>by
  obtain⟨dl,e1,e2⟩:=acD us xs (by simpa using hl) (fun s hs=>hf s (List.mem_cons_of_mem _ hs)) (fun j h1 h2=>by
   have:=h (j+1) (by simpa using h1) (by simpa using h2);simpa using this)
  have h0:aP E w u x:=h 0 (by simp) (by simp);have h1:u.oneCell'=true:=by obtain⟨a,cap,e, -⟩:=h0.form;rw[e];rfl
  exact⟨⟨(u,x),h0,h1,hf x (by simp)⟩::dl,by simp[e1],by simp[e2]⟩
 |[],_::_,h,_,_=>by simp at h
 |_::_,[],h,_,_=>by simp at h
theorem QL(sh:List Nat)(kW:sh.length<=1000000)(B:Nat)(E:Nat->Prop)(w:World)(a:Option Addr)(l c:Nat)(xs:List Sub.S)(h:cW B E w (.slice a l c) xs)(hf:∀s∈xs,Sub.Fit sh s/\Sub.size s<=1000000)(hn:xs.length<=1000000000):
  Calls Tryz.prog 84 #[.slice a l c,.func (.func 85) #[] #[]] w fun e w'=>e=.returned (.tuple #[])/\∃ys,ys.Perm xs/\ys.Pairwise (fun a b=>Sub.less sh b a=false)/\cW B E w' (.slice a l c) ys/\Turns (fun b=>(Value.slice a l c).ownBlock=some b) w w':=by
 obtain⟨us,⟨h1,h1'⟩,h2,h3⟩:=h;rcases h1' with⟨h0,h00⟩|⟨g,cap,cur,he,hbg,hg,hroom,hcm,hsz,YV⟩
 ·cases h0
  obtain rfl:xs=[]:=by
   exact List.eq_nil_of_length_eq_zero h00
  have hS:=AnyF.slices_SortFunc_none (P:=Tryz.prog) (ρ:=Tryz.vZ) {Tryz.QK with} none 0 (.func (.func 85) #[] #[]) w;refine Calls.mono hS ?_;rintro e w' ⟨rfl,rfl⟩;exact⟨rfl,[],List.Perm.refl _,List.Pairwise.nil,cW.nil _ _ _,Turns.refl _ _⟩
 ·cases he
  obtain⟨E',hE'⟩:∃E':Nat->Prop,E'=fun b=>E b/\(Value.slice (some ⟨g,0,none⟩) xs.length c).ownBlock≠some b:=⟨_,rfl⟩;rw[<-hE'] at h3;have hEg:∀b,E' b->b≠g:=fun b hb e=>by rw[hE'] at hb;exact hb.2 (by rw[e];rfl)
  obtain⟨dl,e1,e2⟩:=acD (sh:=sh) us xs h2 hf h3;have hdl:dl.length=xs.length:=by rw[<-e2,zLm]
  have hlt:=(Array.getElem?_eq_some_iff.1 hg).1;by_cases hx0:xs.length=0
  ·obtain rfl:xs=[]:=List.eq_nil_of_length_eq_zero hx0
   have hS:=AnyF.slices_SortFunc_none (P:=Tryz.prog) (ρ:=Tryz.vZ) {Tryz.QK with} (some ⟨g,0,none⟩) c (.func (.func 85) #[] #[]) w;refine Calls.mono hS ?_;rintro e w' ⟨rfl,rfl⟩;exact⟨rfl,[],List.Perm.refl _,List.Pairwise.nil,⟨us,⟨h1,.inr ⟨g,c,cur,rfl,hbg,hg,hroom,hcm,hsz,YV⟩⟩,h2,fun j g1 g2=>absurd g2 (by simp)⟩,Turns.refl _ _⟩
  haveI:Inhabited (ElS sh E' w):=⟨dl[0]'(by omega)⟩
  have hcur:∀j (h:j<dl.length),cur[j]?=some (encS dl[j]):=fun j h=>by
   have:us[j]?=some (encS dl[j]):=by rw[<-e1,List.getElem?_map,zEg h];rfl
   rw[<-YV,List.getElem?_take,if_pos (by omega)] at this;simpa using this
  have hH:Holds encS w g 0 dl.toArray:=fun j hj=>by
   have hj':j<dl.length:=by simpa using hj
   have ej:dl.toArray[j]! =dl[j]:=by simp[getElem!_pos,hj']
   rw[ej,Nat.zero_add];constructor
   ·simp[World.cell?,hg,hcur j hj']
   ·simp[World.frozen?,hg]
  have hcmp:CmpLays1 Tryz.prog 85 #[] (encS (sh:=sh) (E:=E') (w:=w)) cfS g 0 dl.toArray.size w:=fun m os dk hs x y=>by
   have hk:aA E' w (sortWorld encS w g 0 m dk os):=fun b hb hlt=>kP encS w g m dk os hlt (hEg b hb);refine Calls.mono (QJ sh x.1.2 y.1.2 x.2.2.2.1 y.2.2.2.1 x.2.2.2.2 y.2.2.2.2 kW x.1.1 y.1.1 E' E' (sortWorld encS w g 0 m dk os) (aP.keep x.2.1 hk) (aP.keep y.2.1 hk)) ?_;rintro e w' ⟨h1,h2⟩;exact⟨h1,afZ h2⟩
  have hS:=Any.slices_SortFunc Tryz.QK (encS (sh:=sh) (E:=E') (w:=w)) (fun x=>x.2.2.1) cfS swoS 85 #[] g 0 c dl.toArray w (aZ Tryz.func85 (by kernel_rfl) rfl) hcmp hH hlt (by simp;omega);have hdz:dl.toArray.size=xs.length:=by simp[hdl]
  rw[hdz] at hS;refine Calls.mono hS ?_;rintro e w' ⟨rfl,d',n,os,⟨p1, -,p3⟩,hsort,rfl⟩;rw[hdz] at p1;have x1:d'.extract 0 xs.length=d':=by rw[<-p1];simp
  have x2:dl.toArray.extract 0 xs.length=dl.toArray:=by rw[<-hdz];simp
  rw[x1,x2] at p3;have hk:aA E' w (sortWorld encS w g 0 n d' os):=fun b hb hlt=>kP encS w g n d' os hlt (hEg b hb);have hlen:d'.toList.length=xs.length:=by simpa using p1
  refine⟨rfl,d'.toList.map (fun x=>x.1.2),?_,?_,?_,?_⟩
  ·have:=p3.map (fun x=>x.1.2)
   rw[<-e2];simpa using this
  ·rw[List.pairwise_iff_getElem]
   intro i j hi hj hij;have hi':i<d'.size:=by simpa using hi
   have hj':j<d'.size:=by simpa using hj
   have:=hsort i j (Nat.zero_le _) hij (by omega);rw[ltS,getElem!_pos d' i hi',getElem!_pos d' j hj'] at this;simpa using this
  ·refine⟨d'.toList.map (fun x=>x.1.1),⟨by simp,.inr ⟨g,c,putCells encS 0 d' cur,by simp[hlen],hbg,BM encS w g n d' os hg,by simp[p1];omega,hcm,by simp[putCells,hsz],?_⟩⟩,by simp,fun j k1 k2=>?_⟩
   ·apply List.ext_getElem?
    intro j;rw[List.getElem?_take];simp only[zLm,Array.length_toList,Nat.mul_one,putCells,Array.getElem?_toList,Array.getElem?_mapIdx,List.getElem?_map];by_cases hj:j<d'.size
    ·have hjc:j<cur.size:=by rw[hsz];omega
     rw[if_pos hj,Array.getElem?_eq_getElem hjc,Array.getElem?_eq_getElem hj];simp[hj,encS,getElem!_pos]
    ·rw[if_neg hj,Array.getElem?_eq_none (by omega)]
     rfl
   ·simp only[List.getElem_map]
    have:=aP.keep (d'.toList[j]'(by simpa using k1)).2.1 hk;exact aP.mono this (fun b _ hb=>by rw[hE'] at hb;exact hb)
  ·have:=yx (encS (sh:=sh) (E:=E') (w:=w)) w g n d' os
   exact⟨this.os,this.tape,this.output,this.size,fun b hb hl=>this.block b (fun e=>hb (by rw[e];rfl)) hl⟩
end Go.Proofs.YtobgljfnfpolkaaGreatDoor
namespace Go.Proofs.YtobgljfnfpolkaaGreatDoor
namespace Sub
theorem AB(W:S->Nat->Nat->Bool)(s:S)(x:Nat×Nat):∀(l:List (Nat×Nat)) (out:List S),gV W s (l++[x]) out=if without W s x.1 x.2∈gV W s l out then gV W s l out else gV W s l out++[without W s x.1 x.2]
 |[],out=>by
  show gV W s [x] out=_
  unfold gV;rfl
 |y::l,out=>by
  show gV W s (y::(l++[x])) out=_
  rw[gV,AB W s x l];rfl
theorem Good.sub{W:S->Nat->Nat->Bool}{sh:List Nat}{g:S}{out l:List S}(h:Good W sh g out)(hl:∀t,Fit sh t->Sub.valid W t=true->t∈l):out.length<=l.length:=
 length_le_of_subset h.nodup fun t ht=>hl t (h.fit t ht) (h.valid t ht)
theorem Good.one{W:S->Nat->Nat->Bool}{sh:List Nat}{g:S}(h1:Fit sh g)(h2:Sub.valid W g=true):Good W sh g [g] where
 fit s hs:=by rw[zMs.1 hs];exact h1
 valid s hs:=by rw[zMs.1 hs];exact h2
 nodup:=by simp
 has:=by simp
theorem Di(W:S->Nat->Nat->Bool)(out:List S):Done W out 0:=fun j _ h=>absurd h (by omega)
theorem MI{sh:List Nat}{ys:List S}(hn:ys.Nodup)(hf:∀s∈ys,Fit sh s)(hp:ys.Pairwise fun a b=>less sh b a=false):Sorted sh ys:=by
 rw[Sorted,List.pairwise_iff_getElem];rw[List.pairwise_iff_getElem] at hp;intro i j hi hj hij;have h1:=hp i j hi hj hij;rcases oy (hf _ (zGm hi)) (hf _ (zGm hj)) with h|h|h
 ·exact absurd h (List.pairwise_iff_getElem.1 hn i j hi hj hij)
 ·exact h
 ·rw[h1] at h;cases h
theorem rR{sh:List Nat}:∀(l:List S),(∀s∈l,Fit sh s)->∃m,Sorted sh m/\∀s,s∈m↔s∈l
 |[],_=>⟨[],List.Pairwise.nil,fun _=>Iff.rfl⟩
 |a::l,hf=>by
  obtain⟨m,h1,h2⟩:=rR l (fun s hs=>hf s (List.mem_cons_of_mem _ hs));have ha:=hf a (by simp);have hm:∀s∈m,Fit sh s:=fun s hs=>hf s (List.mem_cons_of_mem _ ((h2 s).1 hs));refine⟨m.filter (fun s=>less sh s a)++a::m.filter (fun s=>less sh a s),?_,fun s=>?_⟩
  ·rw[Sorted,List.pairwise_append]
   refine⟨h1.sublist List.filter_sublist,?_,fun x hx y hy=>?_⟩
   ·rw[List.pairwise_cons]
    exact⟨fun y hy=>by simpa using (List.mem_filter.1 hy).2,h1.sublist List.filter_sublist⟩
   ·have hxa:less sh x a=true:=by simpa using (List.mem_filter.1 hx).2
    rcases zMc.1 hy with rfl|hy
    ·exact hxa
    ·exact ox hxa (by simpa using (List.mem_filter.1 hy).2)
  ·rw[List.mem_append,zMc,List.mem_filter,List.mem_filter,zMc]
   constructor
   ·rintro (⟨h, -⟩|rfl|⟨h, -⟩)
    ·exact .inr ((h2 s).1 h)
    ·exact .inl rfl
    ·exact .inr ((h2 s).1 h)
   ·rintro (rfl|h)
    ·exact .inr (.inl rfl)
    ·have hs:=(h2 s).2 h
     rcases oy (hm s hs) ha with e|e|e
     ·exact .inr (.inl e)
     ·exact .inl ⟨hs,e⟩
     ·exact .inr (.inr ⟨hs,e⟩)
end Sub
namespace aF
open ah (bK bD)
theorem sJ(x:bD)(W:bK):Sub.Good (wr x W) (shape W) (bP x W) [bP x W]:=.one (jZ x W) (oF x W)
theorem KI{x:bD}{W:bK}{out:List Sub.S}(h:Sub.Good (wr x W) (shape W) (bP x W) out)(hd:Sub.Done (wr x W) out out.length):∀t,Sub.Fit (shape W) t->Sub.valid (wr x W) t=true->t∈out:=
 Sub.EX (r9 _ _) h (fun t ht hv=>C5 ht hv) hd
theorem Jz(x:bD)(W:bK):∃l,iD x W l:=by
 have hN:∀out,Sub.Good (wr x W) (shape W) (bP x W) out->out.length<=2 ^ ah.total W:=fun out h=>KF h.nodup h.fit;obtain⟨N,hNN⟩:=nmE (2 ^ ah.total W);rw[<-hNN] at hN;have hg:=Sub.Cv (most:=N) N 0 (sJ x W);have hd:=Sub.Cw (most:=N) hN N 0 (sJ x W) (Sub.Di _ _) (Nat.zero_le _) (by omega);generalize Sub.DE (wr x W) N N 0 [bP x W]=out at*
 have hd2:Sub.Done (wr x W) out out.length:=by
  rcases hd with h|h
  ·exact absurd h (by have:=hN out hg;omega)
  ·exact h
 obtain⟨m,h1,h2⟩:=Sub.rR out hg.fit;exact⟨m,h1,fun t=>⟨fun ht=>⟨hg.fit t ((h2 t).1 ht),hg.valid t ((h2 t).1 ht)⟩,fun ht=>(h2 t).2 (KI hg hd2 t ht.1 ht.2)⟩⟩
theorem iD.Um{x:bD}{W:bK}{l out ys:List Sub.S}(hl:iD x W l)(h:Sub.Good (wr x W) (shape W) (bP x W) out)(hd:Sub.Done (wr x W) out out.length)(hp:ys.Perm out)(hs:ys.Pairwise fun a b=>Sub.less (shape W) b a=false):ys=l:=by
 refine Sub.Cx ys l (Sub.MI (hp.nodup_iff.2 h.nodup) (fun s hs=>h.fit s (hp.mem_iff.1 hs)) hs) hl.sorted fun t=>?_;rw[hl.mem,hp.mem_iff];exact⟨fun ht=>⟨h.fit t ht,h.valid t ht⟩,fun ht=>KI h hd t ht.1 ht.2⟩
theorem iD.yP{x:bD}{W:bK}{l out:List Sub.S}(hl:iD x W l)(h:Sub.Good (wr x W) (shape W) (bP x W) out):out.length<=l.length:=h.sub fun t h1 h2=>(hl.mem t).2 ⟨h1,h2⟩
theorem sK{W:bK}{s:Sub.S}(h:Sub.Fit (shape W) s):s.flatten.length=ah.total W:=by
 have h1:=ja h;unfold ah.total;rw[List.length_flatten,h1];rfl
end aF
def BN(s:Sub.S):List UInt8:=s.flatten.map BK
theorem QM{W:ah.bK}{out:List Sub.S}(hf:∀s∈out,Sub.Fit (aF.shape W) s){t:Sub.S}(ht:Sub.Fit (aF.shape W) t):decide (BN t∈out.map BN)=decide (t∈out):=by
 rw[decide_eq_decide,List.mem_map];constructor
 ·rintro ⟨s,hs,e⟩
  have:s=t:=QE (hf s hs) ht (by unfold yw;exact congrArg (fun l:List UInt8=>(⟨l.toArray⟩:ByteArray)) e);rw[<-this];exact hs
 ·exact fun h=>⟨t,h,rfl⟩
theorem FZ{W:ah.bK}{s:Sub.S}(h:Sub.Fit (aF.shape W) s):(BN s).length=ah.total W:=by unfold BN;rw[zLm,aF.sK h]
end Go.Proofs.YtobgljfnfpolkaaGreatDoor
namespace Go.Proofs.YtobgljfnfpolkaaGreatDoor
open Go.RowKit
structure JA(x:ah.bD)(W:ah.bK)(B0 bm:Nat)(out:List Sub.S)(v:Value)(w X:World):Prop where
 good:Sub.Good (aF.wr x W) (aF.shape W) (aF.bP x W) out
 row:cW B0 (fun b=>B0<=b/\b≠bm) X v out
 set:sI X bm out.length (out.map BN)
 ne:v.ownBlock≠some bm
 below:Below B0 w X
theorem JA.next{x:ah.bD}{W:ah.bK}{B0 bm:Nat}{out:List Sub.S}{v:Value}{w X Y:World}(h:JA x W B0 bm out v w X)(hB:B0<=X.heap.size)(hb:BL X Y):JA x W B0 bm out v w Y:=
 ⟨h.good,h.row.next hb,h.set.keep (hb.block _ h.set.lt),h.ne,h.below.trans (hb.mono hB)⟩
theorem cW.down{B B':Nat}{E:Nat->Prop}{w:World}{v:Value}{xs:List Sub.S}(h:cW B E w v xs)(hB:B'<=B):cW B' E w v xs:=by
 obtain⟨us,⟨g1,g2⟩,h2,h3⟩:=h;refine⟨us,⟨g1,?_⟩,h2,h3⟩;rcases g2 with g2|⟨g,cap,cur,e,hb,r⟩
 ·exact .inl g2
 ·exact .inr ⟨g,cap,cur,e,Nat.le_trans hB hb,r⟩
abbrev yA(B:Nat):=cG 2 KV (fun _=>False) B 87
theorem yA.of{B:Nat}{w:World}{v:Value}{zs:List (Int×Int)}(h:G7 B w v zs):yA B w v zs:=by
 obtain⟨jS,h1,h2,h3,h4⟩:=h;exact⟨jS,h1,h2,h3,fun j g1 g2=>h4 j g1 g2⟩
theorem yA.kept{B:Nat}{w w':World}{v:Value}{zs:List (Int×Int)}(h:yA B w v zs)(hk:∀b,v.ownBlock=some b->b<w.heap.size->w'.heap[b]?=w.heap[b]?):yA B w' v zs:=
 h.keep dx (fun b hb hl=>hb.elim False.elim (fun e=>hk b e hl))
theorem yA.cells{B:Nat}{w:World}{a:Option Addr}{n c:Nat}{zs:List (Int×Int)}(h:yA B w (.slice a n c) zs){j:Nat}(hj:j<zs.length):
  w.cell? ⟨aY a,bC a+j*2,none⟩=some (.int .i64 zs[j].1)/\w.cell? ⟨aY a,bC a+j*2+1,none⟩=some (.int .i64 zs[j].2):=by
 obtain⟨-,us,h1,h2,h3⟩:=dA.at (cG.sl dx (T:=fun _=>True) h (fun _ _ _=>trivial) (fun _ _=>trivial)) hj;obtain rfl:us=_:=h3;exact⟨h2 0 _ rfl,h2 1 _ rfl⟩
theorem AF(x:ah.bD)(W:ah.bK)(l:List Sub.S)(hl:aF.iD x W l)(hok:ah.okB x=true)(hfit:aF.dF x W=true)(pq:W.length<=1000/\∀r∈W,r.length<=1000000)(htot:ah.total W<=100000)(hll:l.length<=100000)(most:Nat)(hmost:most<=1000)
  (v u:Value)(tb B:Nat)(w:World)(ha:l6 tb x W v u B w):
  Calls Tryz.prog 50 #[v,u,.int .i64 (most:Int)] w fun e w'=>BL w w'/\((l.length<=most/\∃a c,e=.returned (.tuple #[.slice a l.length c,.int .i64 0])/\cW w.heap.size (w.heap.size<=·) w' (.slice a l.length c) l)\/(most<l.length/\e=.returned (.tuple #[.slice none 0 0,.int .i64 4]))):=by
 have Ej:=hid pq;have YW:=hid (aF.jZ x W);have qu:=hid (gy (f9 hok hfit (aF.iX W))).1;obtain⟨ak,ck,al,cl,ar,cr,rfl, -⟩:=ha.vY.form;obtain⟨w1,hw1⟩:=nmE (bE w x.af6 (.slice ak x.af3.length ck) (.slice al x.af7.length cl) (.slice ar x.af8.length cr));have aW:=afX hw1;have HX:=afY hw1;unfold bE at hw1;have HW1:=hid hw1;have R5:Hid (w.heap.size<w1.heap.size):=hid (by rw[hw1];simp);clear hw1;have YX:=hid (fun(X:World) (hX:BL w X)=>(ha.next hX).sG);obtain⟨aw,cw,rfl, -, -, -⟩:=ha.sG.form;obtain⟨K,hK⟩:=nmE W.length;have KJ:=hid (fun(X:World) (hX:BL w X)=>nM W Ej.out.1 Ej.out.2 _ _ X (YX.out X hX));have sU:=hid (fun(X:World) t U (hX:BL w X) (hs:aP U X t (iC W))=>iZ x W (iC W) (f9 hok hfit (aF.iX W)) _ _ t U tb B X (ha.next hX) hs);have XS:=hid (fun(X:World) (s:Sub.S) (k i:Nat) t U (hX:BL w X) (hf:Sub.Fit (aF.shape W) s) (hk:Sub.keeps s k i=true) (hs:aP U X t s)=>uK x W s (f9 hok hfit hf) k i hk _ _ t U tb B X (ha.next hX) hs);have Fq:=hid hl;have ud:=hid htot;have HLx:=hid hll;rw[<-hK] at KJ sU XS ⊢;have HK:=hid hK;clear hK ha hl hok hfit pq htot hll;have hmm:= @run_makeMap Tryz.prog;have hmo:(most:Int)<=1000:=by omega
 go_enter Tryz.func50,Tryz.ntmps50;go_upto_region 1 with fail;rw[<-HW1.out];obtain⟨vV,sD,sE,vW⟩:=M9 HX.out;refine bF 9 (.quiet 0 (.quiet 1 (.quiet 2 (.one 3 (.one 4 (.quiet 5 (.quiet 6 (.quiet 7 (.quiet 8 .done))))))))) (BL w1) mxT (by kernel_rfl) (af5 aj 1) ?_;have cU:Hid (BL w1 (w1.drewN 1)):=hid (af5 aj 1);have bB:Hid (BL w (w1.drewN 1)):=hid (af5 aW.out 1);generalize w1.drewN 1=w2 at*
 iterate 3
  refine ai rfl ?_
  intro hne
  go_big_quiet_step (fail)
  refine zWq ?_
  clear hne
 refine aH rfl ?_;go_wp2_with fail;refine(KJ.out w2 bB.out).mono ?_;rintro e w3 ⟨gf,rfl,hsf,hb3⟩;have dD:=bq cU hb3;have bG:=bq bB hb3;have F2:=hid (sU.out w3 _ _ bG.out hsf.sl);clear hsf hb3 cU bB;go_wp2_with fail;refine aC (BL w1) (fun _ h=>h) dD.out ?_;refine aH rfl ?_;go_wp2_with fail;refine F2.out.mono ?_;rintro e w4 ⟨g,rfl,hsf,hb4⟩;have iQ:=bq dD hb4;have dO:=bq bG hb4;have MJ:Hid (gN (w1.heap.size<=·) w4 (.slice (some ⟨g,0,none⟩) K K) (aF.bP x W)):=hid (bN.mono (S':=(w1.heap.size<=·)) hsf (fun b _ hb=>Nat.le_trans dD.out.size hb));clear hsf hb4 dD bG F2;go_wp2_with fail;refine aC (BL w1) (fun _ h=>h) iQ.out ?_
 iterate 4
  refine ai rfl ?_
  intro hne
  go_big_quiet_step (fail)
  refine zWq ?_
  clear hne
 refine aL ?_;try simp only[zDs,zDz]
 clear vV sD sE vW;have Na:=dO.out.size;have Gb:Hid (aP (w1.heap.size<=·) w4 (.slice (some ⟨g,0,none⟩) K K) (aF.bP x W)):=hid MJ.out.sl;obtain⟨w5,jO⟩:=nmE (w4.alloc (.map #[] 0));have gL:BL w4 w5:=by rw[jO];exact aj.alloc aB _
 have V5:Hid (sI w5 w4.heap.size 0 []):=hid (by rw[jO];exact sI.made w4);have fS:=bq iQ gL;have dP:=bq dO gL;have qY:Hid (aP (fun b=>w1.heap.size<=b/\b<w4.heap.size) w5 (.slice (some ⟨g,0,none⟩) K K) (aF.bP x W)):=hid (aP.keep (aP.mono (S':=fun b=>w1.heap.size<=b/\b<w4.heap.size) Gb.out (fun b hb h=>⟨h,hb⟩)) (aA.aM gL (fun b h=>h.2)));have acE:=hid (KH (aF.bP x W) (by rw[aF.sK YW.out];exact ud.out) _ _ w5 qY.out);have yI:=hid jO;clear jO gL Gb MJ;go_upto_region 4 with fail;have Nb:w4.heap.size<w5.heap.size:=by rw[yI.out];simp
 go_wp2_with fail;rw[<-yI.out];refine acE.out.mono ?_;rintro e w6 ⟨rfl,lN⟩;have qJ:=bq fS lN;have jC:=bq dP lN;have hz6:=lN.size;have V6:=hid (V5.out.keep (lN.block _ Nb));have HS6:=hid (aP.keep qY.out (aA.aM lN (fun b h=>Nat.lt_trans h.2 Nb)));obtain⟨w7,hrun,Wd,qX⟩:=V6.out.put (by omega) (t:=BN (aF.bP x W)) (by rw[FZ YW.out];have:=ud.out;omega);have QO:(Instr.mapUpdate 168 (.map (some w4.heap.size)) (.string (yw (aF.bP x W))) (.bool true)).run Tryz.prog w6=.ok () w7:=hrun;have QR:=hid Wd;have QT:=qX.below (B:=w4.heap.size) (by omega) (fun b e=>Nat.le_of_eq e.symm);have zW:Hid (BL w1 w7):=hid (qJ.out.trans (QT.mono iQ.out.size));have kN:Hid (BL w w7):=hid (jC.out.trans (QT.mono dO.out.size));have HS7:=hid (aP.keep HS6.out (aA.aM QT (fun b h=>h.2)));have hz7:=QT.size;clear hrun Wd qX lN QT V6 V5 qY HS6 acE;generalize yw (aF.bP x W)=kb at*;go_wp2;obtain⟨w8,hw8⟩:=nmE (w7.alloc (.cells #[.slice (some ⟨g,0,none⟩) K K] 45));have mK:BL w7 w8:=by rw[hw8];exact aj.alloc aB _
 have HI8:Hid (JA x W w1.heap.size w4.heap.size [aF.bP x W] (.slice (some ⟨w7.heap.size,0,none⟩) 1 1) w1 w8):=hid
  ⟨aF.sJ x W,by rw[hw8];exact cW.one zW.out.size (aP.mono HS7.out (fun b _ h=>⟨h.1,Nat.ne_of_lt h.2⟩)) rfl,QR.out.keep (mK.block _ QR.out.lt),fun e=>by have h8:w7.heap.size=w4.heap.size:=zSi e;omega,tnB zW.out mK⟩
 have xE:=bq zW mK;have hz8:=mK.size;have U2:=hid hw8;clear hw8 mK HS7 QR zW kN QO qJ jC fS dP yI;rw[<-U2.out];clear U2;obtain⟨bm,hbm⟩:=nmE w4.heap.size;have HZm:Hid (w1.heap.size<=bm):=hid (by rw[hbm];exact iQ.out.size);have Oo:Hid (bm<w8.heap.size):=hid (by rw[hbm];omega);rw[<-hbm] at HI8 ⊢;clear hbm Na Nb hz6 hz7 hz8 iQ dO;go_loopw [12,11] (fun ii vv wr=>∃(i n:Nat) (out:List Sub.S) (oa:Option Addr) (oc:Nat),i<=n/\ii=.int .i64 (i:Int)/\vv=.slice oa n oc/\Hid (out.length=n)/\Hid (Sub.Done (aF.wr x W) out i)/\Hid (JA x W w1.heap.size bm out (.slice oa n oc) w1 wr)) (fun ii _ _=>100001-(intOf ii).toNat);case atStart=>exact⟨0,1,_,_,_,Nat.zero_le _,rfl,rfl,hid rfl,hid (Sub.Di _ _),HI8⟩
 case round=>
  obtain⟨i,n,out,oa,oc,hin,rfl,rfl,H9,HDn,HI⟩:=hrel;have iO:=hid HI.out.below
  obtain⟨hso,hoc,hom⟩:dG oa n/\n<=oc/\oc<=9223372036854775807:=by
   obtain⟨_,_,e,h1,h2,h3⟩:=HI.out.row.form;cases e;rw[H9.out] at h1 h2;exact⟨h1,h2,h3⟩
  have hn5:n<=100000:=by
   have h1:=Fq.out.yP HI.out.good;have h2:=HLx.out;rw[H9.out] at h1;omega
  by_cases hlt:i<n
  ·have hi0:(0:Int)<=(i:Int):=by omega
   have hi1:(i:Int)<(n:Int):=by omega
   by_cases hnm:n<=most
   ·have YZ:(n:Int)<=(most:Int):=by omega
    have Y0:¬(most:Int)<(n:Int):=by omega
    have hio:i<out.length:=by rw[H9.out];exact hlt
    have Kx:=hid (HI.out.good.fit _ (zGm hio));obtain⟨u,hu1,kL⟩:=HI.out.row.sl.lW hio;obtain⟨s,hs⟩:=nmE (out[i]);rw[<-hs] at Kx hu1;have hsl:s.length=K:=by rw[HK.out,Kx.out.1];exact zLm _
    obtain⟨ga,gc,rfl,hga, -, -⟩:=hu1.form;rw[hsl] at hga kL;have x0:=kL wr (fun _ _ _=>rfl);have Y8:=hid (fun(X:World) (hX:BL wr X)=>Dg s (by have:=iE Kx.out;have:=ud.out;omega) _ _ X (hu1.keep (aA.below hX)));rw[hsl] at Y8;have Y9:=hid (Y8.out wr aj);have HSi:=hid hs;have Ji:=hid hsl;obtain⟨m,hm⟩:=nmE ((Sub.kept s).length);rw[<-hm] at Y9;have HM:=hid hm
    have Ga:m<=100000:=by
     have h1:=iE Kx.out;have h2:=ud.out;unfold Sub.size at h1;omega
    clear hu1 kL hs hsl hm Y8;go_wp2_with fail;refine Y9.out.mono ?_;rintro e wk ⟨ka,kc,rfl,JB,hbk⟩;have HIk:=hid (HI.out.next HI.out.below.size hbk);have HAk:=hid (yA.of JB);have L0:=bq iO hbk
    have hok:dG ka m:=by
     obtain⟨_,_,e,h1, -⟩:=JB.form;cases e;rw[jl,<-HM.out] at h1;exact h1
    have HNk:Hid (∀b,(Value.slice oa n oc).ownBlock=some b->(Value.slice ka m kc).ownBlock≠some b):=hid (fun b h1 h2=>by
     have h3:=(HI.out.row.lt b h1).2;have h4:=(HAk.out.lt b h2).1;omega)
    have Z5:Hid ((Value.slice ka m kc).ownBlock≠some bm):=hid (fun h2=>by
     have h3:=HI.out.set.lt;have h4:=(HAk.out.lt bm h2).1;omega)
    have HOs:Hid (∃ms,out=out++ms):=hid ⟨[],by simp⟩;have yJ:Hid (out=Sub.gV (aF.wr x W) s ((Sub.kept s).take 0) out):=hid rfl;clear JB hbk x0 Y9;go_wp2;generalize LY:wr=Wb at*;go_loopw [53,11] (fun jj vv wr=>∃(j n2:Nat) (mr:List Sub.S) (oa:Option Addr) (oc:Nat),j<=m/\jj=.int .i64 (j:Int)/\vv=.slice oa n2 oc/\Hid (mr.length=n2)/\Hid (mr=Sub.gV (aF.wr x W) s ((Sub.kept s).take j) out)/\Hid (JA x W w1.heap.size bm mr (.slice oa n2 oc) w1 wr)/\Hid (yA Wb.heap.size wr (.slice ka m kc) (l7 (Sub.kept s)))/\Hid (∀b,(Value.slice oa n2 oc).ownBlock=some b->(Value.slice ka m kc).ownBlock≠some b)) (fun jj _ _=>m-(intOf jj).toNat);case atStart=>exact⟨0,n,out,oa,oc,Nat.zero_le _,rfl,rfl,H9,yJ,HIk,HAk,HNk⟩
    case round=>
     obtain⟨j,n2,mr,Wf,Za,hj,rfl,rfl,BO,BG,HI2,A7,CK⟩:=hrel;have cU:=hid HI2.out.below;by_cases hjt:j<m
     ·have hj0:(0:Int)<=(j:Int):=by omega
      have hj1:(j:Int)<(m:Int):=by omega
      obtain⟨hso2,hoc2,hom2⟩:dG Wf n2/\n2<=Za/\Za<=9223372036854775807:=by
       obtain⟨_,_,e,h1,h2,h3⟩:=HI2.out.row.form;cases e;rw[BO.out] at h1 h2;exact⟨h1,h2,h3⟩
      have hn25:n2<=100000:=by
       have h1:=Fq.out.yP HI2.out.good;have h2:=HLx.out;rw[BO.out] at h1;omega
      obtain⟨O2,Zb⟩:i<n2/\mr[i]?=some s:=by
       obtain⟨ms,hms⟩:=Sub.jU (W:=aF.wr x W) (s:=s) ((Sub.kept s).take j) out;rw[<-BG.out] at hms;refine⟨by rw[<-BO.out,hms,zLa];omega,?_⟩;rw[hms,List.getElem?_append_left hio,zEg hio,HSi.out]
      have hin3:(i:Int)<(n2:Int):=by omega
      have acF:i<mr.length:=by rw[BO.out];exact O2
      obtain⟨u,hu1,kL⟩:=HI2.out.row.sl.lW acF;rw[zEg acF] at Zb;rw[zSi Zb] at hu1;obtain⟨ga,gc,rfl,hga, -, -⟩:=hu1.form;rw[Ji.out] at hga kL;have Z0:=hid hu1;rw[Ji.out] at Z0;have LB:=hid kL;have hjk:j<(Sub.kept s).length:=by rw[<-HM.out];exact hjt
      obtain⟨c0,c1⟩:=A7.out.cells (j:=j) (by rw[jl];exact hjk);have hkm:(Sub.kept s)[j]∈Sub.kept s:=zGm hjk;have Wg:(l7 (Sub.kept s))[j]'(by rw[jl];exact hjk)=(((Sub.kept s)[j].1:Int),((Sub.kept s)[j].2:Int)):=by simp[l7]
      rw[Wg] at c0 c1;have Gt:Hid ((Sub.kept s).take (j+1)=(Sub.kept s).take j++[(Sub.kept s)[j]]):=hid (zTs hjk);generalize (Sub.kept s)[j]=q at*;obtain⟨k,i'⟩:=q;simp only at c0 c1;have Aj:Hid (Sub.keeps s k i'=true):=hid (Sub.cO.1 hkm);have YF:Hid (Sub.gV (aF.wr x W) s ((Sub.kept s).take (j+1)) out=if Sub.without (aF.wr x W) s k i'∈mr then mr else mr++[Sub.without (aF.wr x W) s k i']):=hid (by rw[Gt.out,Sub.AB,<-BG.out]);obtain⟨w9,Im⟩:=nmE (wr.alloc (.cells #[.int .i64 (k:Int),.int .i64 (i':Int)] 87));have Ce:BL wr w9:=by rw[Im];exact aj.alloc aB _
      have JC:Hid (w9.heap[wr.heap.size]?=some (.cells #[.int .i64 (k:Int),.int .i64 (i':Int)] 87 (0,0))):=hid (by rw[Im];exact aD _ _ rfl);have HI9:=hid (HI2.out.next HI2.out.below.size Ce);have HA9:=hid (A7.out.kept (fun b _ hl=>Ce.block b hl));have uo:=bq cU Ce;have uV:Hid (BL wr w9):=hid Ce;have VA:=hid Im;clear Im Ce hu1 kL Wg hkm Zb;go_upto_region 12 with fail;rw[<-VA.out];clear c0 c1;have vV:=hqC w9 ⟨w.heap.size,0,none⟩ (.int .i64 x.af6) fun xh=>(aO (HX.out xh.1 (tnB uo.out xh.2))).1.1;have sD:=hqC w9 ⟨w.heap.size,1,none⟩ (.slice ak x.af3.length ck) fun xh=>(aO (HX.out xh.1 (tnB uo.out xh.2))).1.2.1;have sE:=hqC w9 ⟨w.heap.size,2,none⟩ (.slice al x.af7.length cl) fun xh=>(aO (HX.out xh.1 (tnB uo.out xh.2))).1.2.2.1;have vW:=hqC w9 ⟨w.heap.size,3,none⟩ (.slice ar x.af8.length cr) fun xh=>(aO (HX.out xh.1 (tnB uo.out xh.2))).1.2.2.2;have Ak:=hqC w9 ⟨wr.heap.size,0,none⟩ (.int .i64 (k:Int)) fun xh=>(nN ((xh.2.block _ (ay JC.out)).trans JC.out)).1.1;have Al:=hqC w9 ⟨wr.heap.size,1,none⟩ (.int .i64 (i':Int)) fun xh=>(nN ((xh.2.block _ (ay JC.out)).trans JC.out)).1.2;have hqr:=hqC w9 ⟨aY Wf,bC Wf+i,none⟩ (.slice ga K gc) fun xh=>LB.out xh.1 (aA.below (tnB uV.out xh.2));refine agf w9 12 (.quiet 0 (.quiet 1 (.quiet 2 (.quiet 3 (.quiet 4 (.quiet 5 (.quiet 6 (.one 7 (.quiet 8 (.quiet 9 (.quiet 10 (.quiet 11 .done)))))))))))) mxT (by kernel_rfl) fun gX zP=>?_;have tX:Hid (BL w gX):=hid (tnB aW.out (tnB uo.out zP.out));have VU:=hid (XS.out gX s k i' _ _ tX.out Kx.out Aj.out (aP.keep Z0.out (aA.below (tnB uV.out zP.out))))
      iterate 7
       refine ai rfl ?_
       intro hne
       go_big_quiet_step (fail)
       refine zWq ?_
       clear hne
      refine aH rfl ?_;go_wp2_with fail;refine VU.out.mono ?_;rintro e qF ⟨g2,rfl,hsf,sq⟩;have Io:=bq zP sq;have HSf:Hid (aP (fun b=>gX.heap.size<=b/\b<qF.heap.size) qF (.slice (some ⟨g2,0,none⟩) K K) (Sub.without (aF.wr x W) s k i')):=hid (aP.mono hsf.sl (fun b hb h=>⟨h,hb⟩));have hz10:=zP.out.size;have hz11:=sq.size;clear hsf sq VU;go_wp2_with fail;refine aC (BL w9) (fun _ h=>h) Io.out ?_
      iterate 4
       refine ai rfl ?_
       intro hne
       go_big_quiet_step (fail)
       refine zWq ?_
       clear hne
      refine aL ?_;try simp only[zDs,zDz]
      clear vV sD sE vW Ak Al hqr;have Ps:Hid (Sub.Fit (aF.shape W) (Sub.without (aF.wr x W) s k i')):=hid (Sub.nD (Sub.iU Kx.out k i'));have HVt:Hid (Sub.valid (aF.wr x W) (Sub.without (aF.wr x W) s k i')=true):=hid (Sub.kF (Sub.iU Kx.out k i'));generalize Sub.without (aF.wr x W) s k i'=t at*;have Np:=hid (KH t (by rw[aF.sK Ps.out];exact ud.out) _ _ qF HSf.out);have Zc:=hid (HI9.out.next HI9.out.below.size Io.out);have acG:=hid (HA9.out.kept (fun b _ hl=>Io.out.block b hl));have QU:=bq uo Io.out;have acH:Hid (bm<gX.heap.size):=hid (by have h1:=HI9.out.set.lt;omega);have HOl:Hid (∀b,(Value.slice Wf n2 Za).ownBlock=some b->b<gX.heap.size):=hid (fun b hb=>by have h1:=(HI9.out.row.lt b hb).2;omega);have vH:Hid (w1.heap.size<=gX.heap.size):=hid (by have h1:=uo.out.size;omega);clear Io zP tX uo HA9 HI9 cU A7 HI2 uV JC;go_wp2_with fail;refine Np.out.mono ?_;rintro e D2 ⟨rfl,qq⟩;have BP:=hid (Zc.out.next Zc.out.below.size qq);have acI:=hid (acG.out.kept (fun b _ hl=>qq.block b hl));have Un:=bq QU qq;have Zd:=hid (aP.keep HSf.out (aA.aM qq (fun b h=>h.2)));have abI:=qq.size;clear qq Np Zc acG QU HSf;have Kk:(BN t).length<=1000000:=by rw[FZ Ps.out];have:=ud.out;omega
      have hlk:(Instr.lookup 168 (.map (some bm)) (.string (yw t)) false).run Tryz.prog D2=.ok (.bool (decide (BN t∈mr.map BN))) D2:=BP.out.set.look Kk;rw[QM BP.out.good.fit Ps.out] at hlk;by_cases hmem:t∈mr
      ·rw[decide_eq_true hmem] at hlk
       have Ze:Hid (mr=Sub.gV (aF.wr x W) s ((Sub.kept s).take (j+1)) out):=hid (by rw[YF.out,if_pos hmem]);generalize yw t=kt at*;clear hmem;go_wp2;go_roundw;case rel=>exact⟨j+1,n2,mr,Wf,Za,by omega,by go_num,rfl,BO,Ze,BP,acI,CK⟩
       simp[intOf];omega
      ·rw[decide_eq_false hmem] at hlk
       have Ze:Hid (mr++[t]=Sub.gV (aF.wr x W) s ((Sub.kept s).take (j+1)) out):=hid (by rw[YF.out,if_neg hmem]);have HG2:Hid (Sub.Good (aF.wr x W) (aF.shape W) (aF.bP x W) (mr++[t])):=hid (BP.out.good.snoc Ps.out HVt.out hmem);obtain⟨w13,hrun,QV,Uo⟩:=BP.out.set.put (by rw[BO.out];omega) (t:=BN t) Kk;have QO:(Instr.mapUpdate 168 (.map (some bm)) (.string (yw t)) (.bool true)).run Tryz.prog D2=.ok () w13:=hrun;have JD:=hid QV;have KL:∀b,b<D2.heap.size->b≠bm->w13.heap[b]?=D2.heap[b]?:=fun b hb hne=>Uo.block b hne hb;have JE:Hid (cW w1.heap.size (fun b=>w1.heap.size<=b/\b≠bm) w13 (.slice Wf n2 Za) mr):=hid (BP.out.row.kept (fun b hb h=>KL b hb (h.elim (fun h e=>BP.out.ne (by rw[<-e];exact h)) (fun h=>h.2))));have acJ:Hid (BL w1 w13):=hid (Un.out.trans (Uo.below Un.out.size (fun b e=>by rw[e];exact HZm.out)));have acK:=hid (acI.out.kept (fun b hb hl=>KL b hl (fun e=>Z5.out (by rw[<-e];exact hb))));have hbs:=BP.out.set.lt;have hbn:=BP.out.ne;have HS13:=hid (aP.keep Zd.out (fun b h hl=>KL b hl (fun e=>by have h1:=h.1;have h2:=acH.out;omega)));have hz13:=Uo.size;have hown:=BP.out.row.lt;clear hrun QV Uo KL hmem;generalize yw t=kt at*;have acL:Hid (aP (fun b=>(w1.heap.size<=b/\b≠bm)/\(Value.slice Wf n2 Za).ownBlock≠some b) w13 (.slice (some ⟨g2,0,none⟩) K K) t):=hid (aP.mono HS13.out (fun b _ h=>⟨⟨Nat.le_trans vH.out h.1,fun e=>by have h1:=h.1;have h2:=acH.out;omega⟩,fun e=>by have h1:=h.1;have h2:=HOl.out b e;omega⟩));have acM:mr.length+1<=1000000000:=by rw[BO.out];omega
       have Wh:Hid ((mr++[t]).length=n2+1):=hid (by rw[zLa,BO.out];rfl);have acN:w1.heap.size<=w13.heap.size:=acJ.out.size;go_wp2_with (at_builtin;go_must (refine AA rfl _ _ rfl Tryz.D1 rfl JE.out rfl t acL.out rfl acM acN ?_));intro v' w14 hrow Uq hnb;obtain⟨fa,fc,hv, -⟩:=hrow.form;rw[Wh.out] at hv;subst hv
       have HI14:Hid (JA x W w1.heap.size bm (mr++[t]) (.slice fa (n2+1) fc) w1 w14):=hid ⟨HG2.out,hrow,by
         have h1:=JD.out.keep (Uq.block bm hbn JD.out.lt)
         rw[zLa,List.map_append]
         exact h1,fun e=>(hnb bm e).elim hbn (fun h=>by have:=JD.out.lt;omega),acJ.out.trans (Uq.below acN (fun b hb=>(JE.out.lt b hb).1))⟩
       have HA14:=hid (acK.out.kept (fun b hb hl=>Uq.block b (fun e=>CK.out b e hb) hl));have HN14:Hid (∀b,(Value.slice fa (n2+1) fc).ownBlock=some b->(Value.slice ka m kc).ownBlock≠some b):=hid (fun b h1 h2=>(hnb b h1).elim (fun h=>CK.out b h h2) (fun h=>by have:=(acK.out.lt b h2).2;omega));clear hrow Uq hnb JE acL QO hlk;go_wp2;go_roundw;case rel=>exact⟨j+1,n2+1,mr++[t],fa,fc,by omega,by go_num,rfl,Wh,Ze,HI14,HA14,HN14⟩
       simp[intOf];omega
     ·obtain rfl:m=j:=by omega
      have HDn2:Hid (Sub.Done (aF.wr x W) mr (i+1)):=hid (by
       rw[BG.out,HM.out,List.take_length,HSi.out]
       exact Sub.Cu HDn.out hio)
      have O2:i<n2:=by
       obtain⟨ms,hms⟩:=Sub.jU (W:=aF.wr x W) (s:=s) ((Sub.kept s).take m) out;rw[<-BG.out] at hms;rw[<-BO.out,hms,zLa];omega
      go_wp2;go_roundw;case rel=>exact⟨i+1,n2,mr,Wf,Za,by omega,by go_num,rfl,BO,HDn2,HI2⟩
      simp[intOf];omega
   ·have YZ:¬(n:Int)<=(most:Int):=by omega
    have Y0:(most:Int)<(n:Int):=by omega
    have Yw:Hid (most<l.length):=hid (by have:=Fq.out.yP HI.out.good;rw[H9.out] at this;omega);have FL:=bq aW iO.out;go_wp2;go_ret2;exact⟨FL.out,.inr ⟨Yw.out,rfl⟩⟩
  ·obtain rfl:n=i:=by omega
   by_cases hnm:n<=most
   ·have YZ:(n:Int)<=(most:Int):=by omega
    have Y0:¬(most:Int)<(n:Int):=by omega
    have Rq:=hid (QL (aF.shape W) (by rw[show (aF.shape W).length=W.length from zLm _];have:=Ej.out.1;omega) w1.heap.size _ wr oa n oc out HI.out.row (fun s hs=>⟨HI.out.good.fit s hs,by have h1:=iE (HI.out.good.fit s hs);have h2:=ud.out;omega⟩) (by rw[H9.out];omega));go_wp2_with fail;refine Rq.out.mono ?_;rintro e w9 ⟨rfl,ys,hp,hpw,hrow,vm⟩;have hyl:=Fq.out.Um HI.out.good (by rw[H9.out];exact HDn.out) hp hpw;have hln:n=l.length:=by rw[<-hyl,hp.length_eq,H9.out]
    rw[hyl] at hrow;have HRw:Hid (cW w.heap.size (w.heap.size<=·) w9 (.slice oa n oc) l):=hid ((hrow.down aW.out.size).mono (fun b _ h=>Nat.le_trans aW.out.size h.1));have FL:Hid (BL w w9):=hid (aW.out.trans ((iO.out.trans (vm.below iO.out.size (fun b hb=>(HI.out.row.lt b hb).1))).mono aW.out.size));have kZ:=hid hln;clear hyl hln hp hpw hrow vm Rq;go_wp2;go_ret2;exact⟨FL.out,.inl ⟨by rw[<-kZ.out];exact hnm,oa,oc,by rw[<-kZ.out];rfl,by rw[<-kZ.out];exact HRw.out⟩⟩
   ·have YZ:¬(n:Int)<=(most:Int):=by omega
    have Y0:(most:Int)<(n:Int):=by omega
    have Yw:Hid (most<l.length):=hid (by have:=Fq.out.yP HI.out.good;rw[H9.out] at this;omega);have FL:=bq aW iO.out;go_wp2;go_ret2;exact⟨FL.out,.inr ⟨Yw.out,rfl⟩⟩
theorem F3(x:ah.bD)(W:ah.bK)(l:List Sub.S)(hl:aF.iD x W l)(hok:ah.okB x=true)(hfit:aF.dF x W=true)(pq:W.length<=1000/\∀r∈W,r.length<=1000000)(htot:ah.total W<=100000)(hll:l.length<=100000)(most:Int)
  (v u:Value)(tb B:Nat)(w:World)(ha:l6 tb x W v u B w):
  Calls Tryz.prog 14 #[v,u,.int .i64 most] w fun e w'=>BL w w'/\((most<0\/400<most)/\e=.returned (.tuple #[.slice none 0 0,.int .i64 5])\/
   (0<=most/\most<=400/\((l.length<=most/\∃a c,e=.returned (.tuple #[.slice a l.length c,.int .i64 0])/\cW w.heap.size (w.heap.size<=·) w' (.slice a l.length c) l)\/(most<l.length/\e=.returned (.tuple #[.slice none 0 0,.int .i64 4]))))):=by
 have Ej:=hid pq;have YW:=hid (aF.jZ x W);have qu:=hid (gy (f9 hok hfit (aF.iX W))).1;obtain⟨ak,ck,al,cl,ar,cr,rfl, -⟩:=ha.vY.form;obtain⟨w1,hw1⟩:=nmE (bE w x.af6 (.slice ak x.af3.length ck) (.slice al x.af7.length cl) (.slice ar x.af8.length cr));have aW:=afX hw1;have HX:=afY hw1;unfold bE at hw1;have HW1:=hid hw1;have R5:Hid (w.heap.size<w1.heap.size):=hid (by rw[hw1];simp);clear hw1;have YX:=hid (fun(X:World) (hX:BL w X)=>(ha.next hX).sG);obtain⟨aw,cw,rfl, -, -, -⟩:=ha.sG.form;obtain⟨K,hK⟩:=nmE W.length;have KJ:=hid (fun(X:World) (hX:BL w X)=>nM W Ej.out.1 Ej.out.2 _ _ X (YX.out X hX));have sU:=hid (fun(X:World) t U (hX:BL w X) (hs:aP U X t (iC W))=>iZ x W (iC W) (f9 hok hfit (aF.iX W)) _ _ t U tb B X (ha.next hX) hs);have Ei:=hid (fun(X:World) (mn:Nat) (hmn:mn<=1000) (hX:BL w X)=>AF x W l hl hok hfit pq htot hll mn hmn _ _ tb B X (ha.next hX));rw[<-hK] at KJ sU Ei ⊢;have HK:=hid hK;clear hK ha hl hok hfit pq htot hll;go_enter Tryz.func14,Tryz.ntmps14;go_upto_region 1 with fail;rw[<-HW1.out];obtain⟨vV,sD,sE,vW⟩:=M9 HX.out;refine bF 9 (.quiet 0 (.quiet 1 (.quiet 2 (.one 3 (.one 4 (.quiet 5 (.quiet 6 (.quiet 7 (.quiet 8 .done))))))))) (BL w1) mxT (by kernel_rfl) (af5 aj 1) ?_;have cU:Hid (BL w1 (w1.drewN 1)):=hid (af5 aj 1);have bB:Hid (BL w (w1.drewN 1)):=hid (af5 aW.out 1);generalize w1.drewN 1=w2 at*
 iterate 3
  refine ai rfl ?_
  intro hne
  go_big_quiet_step (fail)
  refine zWq ?_
  clear hne
 refine aH rfl ?_;go_wp2_with fail;refine(KJ.out w2 bB.out).mono ?_;rintro e w3 ⟨gf,rfl,hsf,hb3⟩;have dD:=bq cU hb3;have bG:=bq bB hb3;have F2:=hid (sU.out w3 _ _ bG.out hsf.sl);clear hsf hb3 cU bB;go_wp2_with fail;refine aC (BL w1) (fun _ h=>h) dD.out ?_;refine aH rfl ?_;go_wp2_with fail;refine F2.out.mono ?_;rintro e w4 ⟨g,rfl,hsf,hb4⟩;have iQ:=bq dD hb4;have dO:=bq bG hb4;have MJ:Hid (gN (w1.heap.size<=·) w4 (.slice (some ⟨g,0,none⟩) K K) (aF.bP x W)):=hid (bN.mono (S':=(w1.heap.size<=·)) hsf (fun b _ hb=>Nat.le_trans dD.out.size hb));clear hsf hb4 dD bG F2;go_wp2_with fail;refine aC (BL w1) (fun _ h=>h) iQ.out ?_
 iterate 4
  refine ai rfl ?_
  intro hne
  go_big_quiet_step (fail)
  refine zWq ?_
  clear hne
 refine aL ?_;try simp only[zDs,zDz]
 clear vV sD sE vW;clear MJ;by_cases hneg:most<0
 ·have hn1:(most<0)=True:=eq_true hneg
  go_wp2;go_ret2;exact⟨dO.out,.inl ⟨.inl hneg,rfl⟩⟩
 ·have hp0:0<=most:=by omega
  by_cases h4:400<most
  ·go_wp2
   go_ret2;exact⟨dO.out,by first|exact .inl ⟨.inr h4,rfl⟩|exact .inl rfl⟩
  ·have M4:most<=400:=by omega
   obtain⟨mn,rfl⟩:∃mn:Nat,most=(mn:Int):=⟨most.toNat,by omega⟩;have HA4:=hid (Ei.out w4 mn (by omega) dO.out);obtain⟨⟨y0,y1,y2,y3⟩, -⟩:=aO (HX.out w4 iQ.out);have Na:=dO.out.size;go_wp2_with fail;refine HA4.out.mono ?_;rintro e w5 ⟨gL,hres⟩;have dP:Hid (BL w w5):=hid (dO.out.trans (gL.mono Na));rcases hres with⟨D3,a,c,rfl,hrow⟩|⟨D3,rfl⟩
   ·have HR:=hid ((hrow.down Na).mono (fun b _ h=>Nat.le_trans Na h) (E':=(w.heap.size<=·)))
    have Wi:=hid D3;clear hrow D3 gL y0 y1 y2 y3;go_wp2;go_ret2;exact⟨dP.out,.inr ⟨hp0,M4,.inl ⟨by have:=Wi.out;omega,a,c,rfl,HR.out⟩⟩⟩
   ·have Wi:=hid D3
    clear D3 gL y0 y1 y2 y3;go_wp2;go_ret2;exact⟨dP.out,.inr ⟨hp0,M4,.inr ⟨by have:=Wi.out;omega,rfl⟩⟩⟩
namespace aF
def l8(x:ah.bD)(W:ah.bK)(p:List Vm.Ins)(n:Int):Int:=
 if Vm.dr p≠0 then Vm.dr p else if (Vm.jK x W [] n).2.2≠0 then (Vm.jK x W [] n).2.2
 else if (Vm.jK x W p (min n 1)).2.2≠0/\(Vm.jK x W p (min n 1)).2.2≠23 then (Vm.jK x W p (min n 1)).2.2 else 0
end aF
theorem MK{x:ah.bD}{W:ah.bK}{s:Sub.S}(hc:aF.jD x W s=0):ah.okB x=true:=by
 unfold aF.jD at hc;by_cases h1:ah.okB x=true
 ·exact h1
 ·rw[if_neg h1] at hc;omega
structure D4(tb:Nat)(x:ah.bD)(W:ah.bK)(p:List Vm.Ins)(n:Int)(B b:Nat)(w:World):Prop where
 box0:∃ak ck al cl ar cr u pv,l6 tb x W (.agg #[.int .i64 x.af6,.slice ak x.af3.length ck,.slice al x.af7.length cl,.slice ar x.af8.length cr]) u B w/\nG (·<B) w pv p/\
  w.heap[b]?=some (.cells #[.int .i64 x.af6,.slice ak x.af3.length ck,.slice al x.af7.length cl,.slice ar x.af8.length cr] 27 (0,0))/\w.heap[b+1]?=some (.cells #[u] 30 (0,0))/\w.heap[b+2]?=some (.cells #[pv] 57 (0,0))/\w.heap[b+3]?=some (.cells #[.int .i64 n] 3 (0,0))
 le:B<=b
theorem D4.keep{tb:Nat}{x:ah.bD}{W:ah.bK}{p:List Vm.Ins}{n:Int}{B b:Nat}{w w':World}(h:D4 tb x W p n B b w)(hb:BL w w'):D4 tb x W p n B b w':=by
 obtain⟨⟨ak,ck,al,cl,ar,cr,u,pv,h1,h2,h3,h4,h5,h6⟩,hl⟩:=h;have e:∀{k o},w.heap[k]?=some o->w'.heap[k]?=some o:=fun h=>(hb.block _ (Array.getElem?_eq_some_iff.1 h).1).trans h;exact⟨⟨ak,ck,al,cl,ar,cr,u,pv,h1.next hb,h2.keep (aA.below hb),e h3,e h4,e h5,e h6⟩,hl⟩
def Ur(b:Nat):Value:=.func (.func 93) #[] #[.pointer (some ⟨b,0,none⟩),.pointer (some ⟨b+1,0,none⟩),.pointer (some ⟨b+2,0,none⟩),.pointer (some ⟨b+3,0,none⟩)]
def sM(n:Int):Prop:= -9223372036854775808<=n/\n<=9223372036854775807
def QW(x:ah.bD)(W:ah.bK):Prop:=∀k i j:Nat,(ah.fd x k j).kind=7-> -1000<=aF.mq W k i j/\aF.mq W k i j<=1000
theorem sN(x:ah.bD)(W:ah.bK)(p:List Vm.Ins)(n:Int)(hn:sM n)(s:Sub.S)(hc:aF.jD x W s=0)(hval:Sub.valid (aF.wr x W) s=true)(jM:QW x W)
  (t:Value)(U:Nat->Prop)(tb B b:Nat)(w:World)(hg:D4 tb x W p n B b w)(hs:aP U w t s):
  Calls Tryz.prog 93 #[t,.pointer (some ⟨b,0,none⟩),.pointer (some ⟨b+1,0,none⟩),.pointer (some ⟨b+2,0,none⟩),.pointer (some ⟨b+3,0,none⟩)] w fun e w'=>e=.returned (.int .i64 (aF.jI x W p n s))/\BL w w':=by
 have HFp:=hid (aF.Pc (x:=x) (W:=aF.iW x W s) (MK hc) (aF.Me (gy hc).1 hval));obtain⟨⟨ak,ck,al,cl,ar,cr,u,pv,h1,h2,h3,h4,h5,h6⟩,hl⟩:=hg;have HWd:=hid (Ju x W s hc hval jM _ u t U tb B w h1 hs);have HRn:=hid (fun(X:World) (r:Value) (S:Nat->Prop) (hX:BL w X) (hr:dc S X r (aF.iW x W s))=>DK x (aF.iW x W s) p n hn.1 hn.2 HFp.out.len HFp.out.jc 180 _ _ r _ pv _ _ X (h1.next hX).vY (h2.keep (aA.below hX)) (qh (aF.iW x W s) r S X hr));have Gp:Hid (aF.jI x W p n s=if (Vm.jK x (aF.iW x W s) p n).2.2=0 then (Vm.jK x (aF.iW x W s) p n).1 else -1):=hid rfl;obtain⟨at',ct,rfl, -, -, -⟩:=hs.form;have A5:=ay h3;have HZ:Hid (b+3<w.heap.size):=hid (ay h6);have HX:Hid (∀X,BL w X->X.heap[b]?=some (.cells #[.int .i64 x.af6,.slice ak x.af3.length ck,.slice al x.af7.length cl,.slice ar x.af8.length cr] 27 (0,0))/\X.heap[b+1]?=some (.cells #[u] 30 (0,0))/\X.heap[b+2]?=some (.cells #[pv] 57 (0,0))/\X.heap[b+3]?=some (.cells #[.int .i64 n] 3 (0,0))):=hid (fun X hX=>⟨(hX.block _ (ay h3)).trans h3,(hX.block _ (ay h4)).trans h4,(hX.block _ (ay h5)).trans h5,(hX.block _ (ay h6)).trans h6⟩);obtain⟨aw,cw,rfl, -, -, -⟩:=h1.sG.form;obtain⟨ap,cp,rfl, -, -, -⟩:=h2.form;generalize aF.jI x W p n s=cd at*;generalize Vm.jK x (aF.iW x W s) p n=rr at*;obtain⟨r1,r2,r3⟩:=rr;simp only at Gp;generalize aF.iW x W s=W2 at*;clear hs h1 h2 h3 h4 h5 h6 hl A5 hc hval jM hn;obtain⟨g0,g1,g2,g3⟩:=HX.out w aj;obtain⟨⟨y0,y1,y2,y3⟩, -⟩:=aO g0;have y4:=(one_cell g1).1;clear g0 g1 g2 g3;go_enter Tryz.func93,Tryz.ntmps93;go_wp2_with fail;refine HWd.out.mono ?_;rintro e w2 ⟨r,rfl,hwf,hb2⟩;have bB:=hid hb2;have Cy:=hid (HRn.out w2 r _ bB.out hwf.sl);obtain⟨a2,l2,c2,rfl⟩:∃a l c,r=.slice a l c:=by obtain⟨a,c,e, -⟩:=hwf.sl.form;exact⟨_,_,_,e⟩
 clear hwf hb2 y0 y1 y2 y3 y4;obtain⟨g0,g1,g2,g3⟩:=HX.out w2 bB.out;obtain⟨⟨y0,y1,y2,y3⟩, -⟩:=aO g0;have y5:=(one_cell g2).1;have y6:=(one_cell g3).1;clear g0 g1 g2 g3;go_wp2_with fail;refine Cy.out.mono ?_;rintro e w3 ⟨rfl,hb3⟩;have bG:=bq bB hb3;clear hb3 y0 y1 y2 y3 y5 y6;by_cases h0:r3=0
 ·subst h0
  have Nj:Hid (cd=r1):=hid (by rw[Gp.out,if_pos rfl]);go_wp2;go_ret;exact⟨by rw[Nj.out];rfl,bG.out.trans (aj.alloc (bG.out.size) _)⟩
 ·have Nj:Hid (cd= -1):=hid (by rw[Gp.out,if_neg h0])
  go_wp2;go_ret;exact⟨by rw[Nj.out];rfl,bG.out.trans (aj.alloc (bG.out.size) _)⟩
theorem sO(x:ah.bD)(W:ah.bK)(p:List Vm.Ins)(n:Int)(hn:sM n)(hok:ah.okB x=true)(hfit:aF.dF x W=true)(pq:W.length<=1000/\∀r∈W,r.length<=1000000)
  (v u pv:Value)(tb B:Nat)(w:World)(ha:l6 tb x W v u B w)(hp:nG (·<B) w pv p):
  Calls Tryz.prog 55 #[v,u,pv,.int .i64 n] w fun e w'=>BL w w'/\((aF.l8 x W p n=0/\e=.returned (.tuple #[Ur w.heap.size,.int .i64 0])/\D4 tb x W p n B w.heap.size w')\/(aF.l8 x W p n≠0/\e=.returned (.tuple #[.nilFunc,.int .i64 (aF.l8 x W p n)]))):=by
 have Ej:=hid pq;have qu:=hid (gy (f9 hok hfit (aF.iX W))).1;obtain⟨ak,ck,al,cl,ar,cr,rfl, -⟩:=ha.vY.form;have YX:=hid (fun(X:World) (hX:BL w X)=>(ha.next hX).sG);obtain⟨aw,cw,rfl, -, -, -⟩:=ha.sG.form;obtain⟨ap,cp,rfl, -, -, -⟩:=hp.form;obtain⟨w1,hw1⟩:=nmE ((((bE w x.af6 (.slice ak x.af3.length ck) (.slice al x.af7.length cl) (.slice ar x.af8.length cr)).alloc (.cells #[.slice aw W.length cw] 30)).alloc (.cells #[.slice ap p.length cp] 57)).alloc (.cells #[.int .i64 n] 3));have aW:Hid (Below w.heap.size w w1):=hid (by rw[hw1];exact(((aQ ..).alloc (by simp[bE]) _).alloc (by simp[bE];omega) _).alloc (by simp[bE];omega) _)
 have mO:Hid (∀X,BL w1 X->X.heap[w.heap.size]?=some (.cells #[.int .i64 x.af6,.slice ak x.af3.length ck,.slice al x.af7.length cl,.slice ar x.af8.length cr] 27 (0,0))/\X.heap[w.heap.size+1]?=some (.cells #[.slice aw W.length cw] 30 (0,0))/\X.heap[w.heap.size+2]?=some (.cells #[.slice ap p.length cp] 57 (0,0))/\X.heap[w.heap.size+3]?=some (.cells #[.int .i64 n] 3 (0,0))):=hid (fun X hX=>by
  have e:∀{k o},w1.heap[k]?=some o->X.heap[k]?=some o:=fun h=>(hX.block _ (Array.getElem?_eq_some_iff.1 h).1).trans h;refine⟨e ?_,e ?_,e ?_,e ?_⟩
  ·rw[hw1];exact aG _ (aG _ (aG _ (bf ..)))
  ·rw[hw1];exact aG _ (aG _ (aD _ _ (by simp[bE])))
  ·rw[hw1];exact aG _ (aD _ _ (by simp[bE]))
  ·rw[hw1];exact aD _ _ (by simp[bE]))
 have HX:Hid (∀X,BL w1 X->X.heap[w.heap.size]?=some (.cells #[.int .i64 x.af6,.slice ak x.af3.length ck,.slice al x.af7.length cl,.slice ar x.af8.length cr] 27 (0,0))):=hid (fun X hX=>(mO.out X hX).1);unfold bE at hw1;have HW1:=hid hw1;clear hw1;have KJ:=hid (fun(X:World) (hX:BL w X)=>nM W Ej.out.1 Ej.out.2 _ _ X (YX.out X hX));have sU:=hid (fun(X:World) t U (hX:BL w X) (hs:aP U X t (iC W))=>iZ x W (iC W) (f9 hok hfit (aF.iX W)) _ _ t U tb B X (ha.next hX) hs);have Ef:=hid (fun(X:World) (hX:BL w X)=>CH p _ _ X (hp.keep (aA.below hX)));have Nc:=hid (fun(X:World) (hX:BL w X)=>DK x W [] n hn.1 hn.2 qu.out.len qu.out.jc 180 _ _ _ _ (.slice none 0 0) _ (·<B) X (ha.next hX).vY (dA.nil _ _ _ X) (qh W _ _ X (ha.next hX).sG));have Ks:=hid (fun(X:World) (hX:BL w X)=>DK x W p (min n 1) (by have:=hn.1;omega) (by have:=hn.2;omega) qu.out.len qu.out.jc 180 _ _ _ _ _ _ _ X (ha.next hX).vY (hp.keep (aA.below hX)) (qh W _ _ X (ha.next hX).sG));have HGi:Hid (∀X,BL w1 X->D4 tb x W p n B w.heap.size X):=hid (fun X hX=>⟨⟨ak,ck,al,cl,ar,cr,_,_,ha.next (tnB aW.out hX),hp.keep (aA.below (tnB aW.out hX)),(mO.out X hX).1,(mO.out X hX).2.1,(mO.out X hX).2.2.1,(mO.out X hX).2.2.2⟩,ha.le⟩);have HE:Hid (aF.l8 x W p n=if Vm.dr p≠0 then Vm.dr p else if (Vm.jK x W [] n).2.2≠0 then (Vm.jK x W [] n).2.2 else if (Vm.jK x W p (min n 1)).2.2≠0/\(Vm.jK x W p (min n 1)).2.2≠23 then (Vm.jK x W p (min n 1)).2.2 else 0):=hid rfl;generalize aF.l8 x W p n=ge at*;generalize Vm.dr p=e0 at*;generalize Vm.jK x W [] n=rr at*;obtain⟨r1,r2,e1⟩:=rr;generalize Vm.jK x W p (min n 1)=rr at*;obtain⟨q1,q2,e2⟩:=rr;simp only at HE;obtain⟨K,hK⟩:=nmE W.length;obtain⟨np,hnp⟩:=nmE p.length;rw[<-hK] at KJ sU mO Nc Ks HW1 ⊢;rw[<-hnp] at Ef mO Ks HW1 ⊢;have HK:=hid (And.intro hK hnp);have hqy4:=hqC w1 ⟨w.heap.size+1,0,none⟩ (.slice aw K cw) fun xh=>(one_cell (mO.out xh.1 xh.2).2.1).1;clear hK hnp ha hp hok hfit pq hn;go_enter Tryz.func55,Tryz.ntmps55;go_upto_region 1 with fail;rw[<-HW1.out];obtain⟨vV,sD,sE,vW⟩:=M9 HX.out;refine bF 9 (.quiet 0 (.quiet 1 (.quiet 2 (.one 3 (.one 4 (.quiet 5 (.quiet 6 (.quiet 7 (.quiet 8 .done))))))))) (BL w1) mxT (by kernel_rfl) (af5 aj 1) ?_;have cU:Hid (BL w1 (w1.drewN 1)):=hid (af5 aj 1);have bB:Hid (BL w (w1.drewN 1)):=hid (af5 aW.out 1);generalize w1.drewN 1=w2 at*
 iterate 3
  refine ai rfl ?_
  intro hne
  go_big_quiet_step (fail)
  refine zWq ?_
  clear hne
 refine aH rfl ?_;go_wp2_with fail;refine(KJ.out w2 bB.out).mono ?_;rintro e w3 ⟨gf,rfl,hsf,hb3⟩;have dD:=bq cU hb3;have bG:=bq bB hb3;have F2:=hid (sU.out w3 _ _ bG.out hsf.sl);clear hsf hb3 cU bB;go_wp2_with fail;refine aC (BL w1) (fun _ h=>h) dD.out ?_;refine aH rfl ?_;go_wp2_with fail;refine F2.out.mono ?_;rintro e w4 ⟨g,rfl,hsf,hb4⟩;have iQ:=bq dD hb4;have dO:=bq bG hb4;have MJ:Hid (gN (w1.heap.size<=·) w4 (.slice (some ⟨g,0,none⟩) K K) (aF.bP x W)):=hid (bN.mono (S':=(w1.heap.size<=·)) hsf (fun b _ hb=>Nat.le_trans dD.out.size hb));clear hsf hb4 dD bG F2;go_wp2_with fail;refine aC (BL w1) (fun _ h=>h) iQ.out ?_
 iterate 4
  refine ai rfl ?_
  intro hne
  go_big_quiet_step (fail)
  refine zWq ?_
  clear hne
 refine aL ?_;try simp only[zDs,zDz]
 clear hqy4 vV sD sE vW;clear MJ;have y7:=(one_cell (mO.out w4 iQ.out).2.2.1).1;go_wp2_with fail;refine(Ef.out w4 dO.out).mono ?_;rintro e w5 ⟨rfl,gL⟩;have fS:=bq iQ gL;have dP:=bq dO gL;clear gL y7 iQ dO;by_cases he0:e0=0;rotate_left
 ·have HE2:Hid (ge=e0/\ge≠0):=hid (by rw[HE.out,if_pos he0];exact⟨rfl,he0⟩)
  go_wp2;go_ret2;exact⟨dP.out,.inr ⟨HE2.out.2,by rw[HE2.out.1];rfl⟩⟩
 ·subst he0
  obtain⟨⟨y0,y1,y2,y3⟩, -⟩:=aO (HX.out w5 fS.out);have y4:=(one_cell (mO.out w5 fS.out).2.1).1;have y8:=(one_cell (mO.out w5 fS.out).2.2.2).1;go_wp2_with fail;refine(Nc.out w5 dP.out).mono ?_;rintro e w6 ⟨rfl,lN⟩;have qJ:Hid (BL w1 (w6.alloc (.cells #[.int .i64 r1,.int .i64 r2] 137))):=hid ((tnB fS.out lN).alloc (Nat.le_trans fS.out.size lN.size) _);have jC:Hid (BL w (w6.alloc (.cells #[.int .i64 r1,.int .i64 r2] 137))):=hid ((tnB dP.out lN).alloc (Nat.le_trans dP.out.size lN.size) _);clear lN y0 y1 y2 y3 y4 y8 fS dP;by_cases he1:e1=0;rotate_left
  ·have HE2:Hid (ge=e1/\ge≠0):=hid (by rw[HE.out,if_neg (by simp),if_pos he1];exact⟨rfl,he1⟩)
   go_wp2;go_ret2;exact⟨jC.out,.inr ⟨HE2.out.2,by rw[HE2.out.1];rfl⟩⟩
  ·subst he1
   go_upto_region 10 with fail;generalize w6.alloc (.cells #[.int .i64 r1,.int .i64 r2] 137)=w7 at*;obtain⟨⟨y0,y1,y2,y3⟩, -⟩:=aO (HX.out w7 qJ.out);have y4:=(one_cell (mO.out w7 qJ.out).2.1).1;have y7:=(one_cell (mO.out w7 qJ.out).2.2.1).1;have y8:=(one_cell (mO.out w7 qJ.out).2.2.2).1;go_wp2_with fail;refine(Ks.out w7 jC.out).mono ?_;rintro e w8 ⟨rfl,mK⟩;have xE:Hid (BL w1 (w8.alloc (.cells #[.int .i64 q1,.int .i64 q2] 137))):=hid ((tnB qJ.out mK).alloc (Nat.le_trans qJ.out.size mK.size) _);have lP:Hid (BL w (w8.alloc (.cells #[.int .i64 q1,.int .i64 q2] 137))):=hid ((tnB jC.out mK).alloc (Nat.le_trans jC.out.size mK.size) _);clear mK y0 y1 y2 y3 y4 y7 y8;by_cases he2:e2=0
   ·subst he2
    have HE2:Hid (ge=0):=hid (by rw[HE.out,if_neg (by simp),if_neg (by simp),if_neg (by simp)]);go_wp2;go_ret2;exact⟨lP.out,.inl ⟨HE2.out,rfl,HGi.out _ xE.out⟩⟩
   ·by_cases he3:e2=23
    ·subst he3
     have HE2:Hid (ge=0):=hid (by rw[HE.out,if_neg (by simp),if_neg (by simp),if_neg (by simp)]);go_wp2;go_ret2;exact⟨lP.out,.inl ⟨HE2.out,rfl,HGi.out _ xE.out⟩⟩
    ·have HE2:Hid (ge=e2/\ge≠0):=hid (by rw[HE.out,if_neg (by simp),if_neg (by simp),if_pos ⟨he2,he3⟩];exact⟨rfl,he2⟩)
     go_wp2
     ·go_ret2
      exact⟨lP.out,.inr ⟨HE2.out.2,by rw[HE2.out.1];rfl⟩⟩
     ·rename_i hbad
      simp[he2,he3] at hbad
end Go.Proofs.YtobgljfnfpolkaaGreatDoor
