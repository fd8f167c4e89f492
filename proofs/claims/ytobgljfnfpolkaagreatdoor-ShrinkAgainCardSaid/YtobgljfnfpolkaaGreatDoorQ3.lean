/- Part 3 of the walks and plain laws that the proof needs (packed). -/
import Derived.Deep.DeepCutAuto
import Derived.Deep.LoopGhost
import Derived.Test.YtobgljfnfpolkaaGreatDoorQ2
set_option linter.all false
set_option maxRecDepth 100000
set_option maxHeartbeats 8000000
namespace Go.Proofs.YtobgljfnfpolkaaGreatDoor
open Go.RowKit
theorem Tryz.jB:jt Tryz.prog 100 117 8 120:=gA (z:=.agg #[.string ⟨#[]⟩,.string ⟨#[]⟩,.string ⟨#[]⟩,.int .i64 0,.int .i64 0,.int .i64 0,.slice none 0 0,.slice none 0 0]) (by kernel_rfl) (by kernel_rfl) rfl (by omega) (by omega)
def SG(b:Nat)(S:Nat->Prop)(w0:World)(G:Option Nat):Nat->Prop:=fun x=>b<x/\((S x/\x<w0.heap.size)\/G=some x)
theorem SG.lt{b:Nat}{S:Nat->Prop}{w0:World}{x:Nat}(h:SG b S w0 none x):b<x/\x<w0.heap.size:=⟨h.1,h.2.elim (·.2) (fun e=>by cases e)⟩
structure KS(S:Nat->Prop)(b N B:Nat)(w0:World)(G:Option Nat)(vK:Value)(ks:List ah.dZ)(K:Nat)(nm:ah.Nm)(lo hi:Int)(fs:List ah.cA)(W:World):Prop where
 mJ:gj W b N
 own:cG 4 Be (SG b S w0 G) B 102 W vK ks
 res:W.heap[w0.heap.size]?=some (.cells #[.string ah.nil,.int .i64 0,.int .i64 0,.slice none 0 0] 102 (0,0))
 box:∃a n c,n=fs.length/\W.heap[K]?=some (.cells #[.string nm,.int .i64 lo,.int .i64 hi,.slice a n c] 102 (0,0))/\cG 8 jm (fun x=>K<x) (K+1) 117 W (.slice a n c) fs/\
  ∀x,G=some x->K<x/\x<W.heap.size/\(Value.slice a n c).ownBlock≠some x
 turn:Turns (fun x=>x=b\/vK.ownBlock=some x) w0 W
 ge:w0.heap.size<K
 lb:b<w0.heap.size
 kb:∀x,vK.ownBlock=some x->b<x/\x<w0.heap.size
theorem cG.Wz{α:Type}{n:Nat}{RR:(Nat->Prop)->World->List Value->α->Prop}{S:Nat->Prop}{B:Nat}{e:TypeId}{w:World}{a:Option Addr}{m c:Nat}{xs:List α}(h:cG n RR S B e w (.slice a m c) xs):m=xs.length:=by
 obtain⟨a',c',e',_⟩:=h.form;injection e'
theorem _root_.Go.Proofs.YtobgljfnfpolkaaGreatDoor.ah.dI.len{l:List ah.cA}(h:ah.dI l):l.length<=2:=by cases h<;>simp
theorem _root_.Go.Proofs.YtobgljfnfpolkaaGreatDoor.ah.oh.len{ks ks':List ah.dZ}{nm:ah.Nm}{l:List ah.cA}(h:ah.oh ks nm ks' l):l.length<=4:=by
 obtain⟨a,_,_,⟨_,_,rfl⟩|⟨tt,_,lo,hi,s,p,_,_,_,_,hs,hp,rfl⟩⟩:=h
 ·simp
 ·have h1:s.length<=1:=by
   rcases hs with rfl|⟨c,h,_,rfl⟩
   ·simp
   ·simp
  have h2:p.length<=1:=by
   rcases hp with⟨rfl,_⟩|⟨_,_,_,_,_,rfl,_⟩
   ·simp
   ·simp
  simp;omega
theorem _root_.Go.Proofs.YtobgljfnfpolkaaGreatDoor.ah.oe.len{k:ah.dZ}{l:List ah.cA}(h:ah.oe k l):l.length<=1:=by
 rcases h with rfl|⟨c,h,_,rfl⟩
 ·simp
 ·simp
theorem RM{f:ah.cA}(h:ah.rD f=true):ah.tv f:=by
 simp only[ah.rD,zBa,zDt] at h;exact⟨h.1.1.1,h.1.1.2,h.1.2,h.2⟩
def aan(S:Nat->Prop)(b N B:Nat)(w:World)(vK:Value)(ks:List ah.dZ)(e:Ending)(w':World):Prop:=
 ∃ks' k uf,e=.returned (.agg (kC k uf).toArray)/\ah.pJ ks ks' k/\dh (w.heap.size<=·) w' uf k.af4/\cG 4 Be (fun x=>S x\/w.heap.size<=x) B 102 w' vK ks'/\gj w' b (N+100)/\Turns (fun x=>x=b\/vK.ownBlock=some x) w w'
theorem KS.grow{S:Nat->Prop}{b N N' B K:Nat}{w W W':World}{G:Option Nat}{vK:Value}{ks:List ah.dZ}{nm:ah.Nm}{lo hi:Int}{fs:List ah.cA}(h:KS S b N B w G vK ks K nm lo hi fs W)(ht:Turns (·=b) W W')(hm:gj W' b N'):
  KS S b N' B w G vK ks K nm lo hi fs W':=by
 have hge:=h.ge;have hlb:=h.lb;obtain⟨a,n,c,h1,h2,h3,h4⟩:=h.box;refine⟨hm,h.own.keep bY (fun x hx hlt=>ht.block x (fun e=>?_) hlt),?_,⟨a,n,c,h1,?_,h3.keep aT (fun x hx hlt=>ht.block x (fun e=>?_) hlt),fun x hx=>?_⟩,h.turn.trans (ht.mono fun x _ e=>.inl e),hge,hlb,h.kb⟩
 ·rcases hx with hx|hx
  ·have:=hx.1;omega
  ·have:=(h.kb x hx).1;omega
 ·rw[ht.block _ (by omega) (ay h.res)];exact h.res
 ·rw[ht.block _ (by omega) (ay h2)];exact h2
 ·rcases hx with hx|hx
  ·have:K<x:=hx;omega
  ·have:=(h3.lt x hx).1;omega
 ·obtain⟨g1,g2,g3⟩:=h4 x hx
  have:=ht.size;exact⟨g1,by omega,g3⟩
theorem KS.more{S:Nat->Prop}{b N N' B K:Nat}{w W:World}{G:Option Nat}{vK:Value}{ks:List ah.dZ}{nm:ah.Nm}{lo hi:Int}{fs:List ah.cA}(h:KS S b N B w G vK ks K nm lo hi fs W)(hN:N<=N'):KS S b N' B w G vK ks K nm lo hi fs W:=
 h.grow (Turns.refl _ _) (h.mJ.mono hN)
theorem KS.put{S:Nat->Prop}{b N N' B K:Nat}{w W W':World}{g n c:Nat}{ks:List ah.dZ}{nm:ah.Nm}{lo hi:Int}{fs fs':List ah.cA}(h:KS S b N B w none (.slice (some ⟨g,0,none⟩) n c) ks K nm lo hi fs W)(ht:Turns (·=b) W W')(hm:gj W' b N'){m:Nat}(hmn:m<ks.length)
  {g2 n2 c2:Nat}(ho:cG 8 jm (fun x=>SG b S w none x/\x≠g) W.heap.size 117 W' (.slice (some ⟨g2,0,none⟩) n2 c2) fs'){kd':ah.dZ}(hkd:kd'={ks[m] with af4:=fs'}):
  KS S b N' B w (some g2) (.slice (some ⟨g,0,none⟩) n c) (ks.set m kd') K nm lo hi fs (W'.setCell ⟨g,m*4+3,none⟩ (.slice (some ⟨g2,0,none⟩) n2 c2)):=by
 subst hkd;have hg:=h.kb g rfl;have hge:=h.ge;have hlb:=h.lb;have hg2:=ho.lt g2 rfl;have pq:=h.turn.size;have h1:=h.grow ht hm;obtain⟨a,n0,c0,q1,q2,q3,q4⟩:=h1.box;have RN:∀x,x≠g->(W'.setCell ⟨g,m*4+3,none⟩ (.slice (some ⟨g2,0,none⟩) n2 c2)).heap[x]?=W'.heap[x]?:=fun x hx=>zBh _ _ _ _ hx;obtain⟨a',n0',c0',q1',q2',q3', -⟩:=h.box;have hKl:=ay q2'
 have heq:a=a'/\n0=n0'/\c0=c0':=by
  rw[ht.block K (by omega) hKl,q2'] at q2;simp at q2;exact⟨q2.1.symm,q2.2.1.symm,q2.2.2.symm⟩
 refine⟨h1.mJ.keep (fun x hx _=>RN x (by omega)),?_,(RN _ (by omega)).trans h1.res,⟨a,n0,c0,q1,(RN _ (by omega)).trans q2,q3.keep aT (fun x hx _=>RN x ?_),fun x hx=>?_⟩,?_,hge,hlb,h.kb⟩
 ·refine cG.put (i:=3) bY (h1.own.JQ bY (S':=SG b S w (some g2)) (fun x _ hx=>⟨hx.1,hx.2.elim .inl (fun e=>by cases e)⟩)) h1.own.Wz hmn (by omega) _ _ (fun us pE=>?_)
  obtain⟨uf,rfl,hf⟩:=pE;refine⟨.slice (some ⟨g2,0,none⟩) n2 c2,rfl,ho.sl aT (fun x _ hx=>⟨⟨hx.1.1,hx.1.2.elim .inl (fun e=>by cases e)⟩,hx.2⟩) (fun x hx=>?_)⟩;obtain rfl:g2=x:=zSi hx;exact⟨⟨by omega,.inr rfl⟩,by omega⟩
 ·rcases hx with hx|hx
  ·have:K<x:=hx;omega
  ·have:=(q3.lt x hx).1;omega
 ·obtain rfl:g2=x:=zSi hx
  refine⟨by omega,by simp only[World.size_setCell];exact hg2.2,fun e=>?_⟩;obtain⟨e1,e2,e3⟩:=heq;rw[e1,e2,e3] at e;have:=(q3'.lt _ e).2;omega
 ·exact h1.turn.trans (((Turns.refl (·=g) W').setCell ⟨g,m*4+3,none⟩ _ rfl).mono fun x _ e=>.inr (by rw[e];rfl))
theorem KS.NH{S:Nat->Prop}{b N B K:Nat}{w W:World}{G:Option Nat}{vK:Value}{ks:List ah.dZ}{nm:ah.Nm}{lo hi:Int}{fs:List ah.cA}(h:KS S b N B w G vK ks K nm lo hi fs W):fV (fun x=>b<x) W vK ks:=
 h.own.sl bY (fun _ _ hx=>hx.1) (fun x hx=>(h.kb x hx).1)
theorem aA.dM{S T:Nat->Prop}{w w':World}(h:Turns T w w')(hS:∀x,S x->¬T x):aA S w w':=fun b hb hlt=>h.block b (hS b hb) hlt
theorem qD{f:ah.cA}:∀u∈bX f (.slice none 0 0) (.slice none 0 0),u.oneCell'=true:=by
 intro u hu;simp only[bX,zMc,zNn,or_false] at hu;rcases hu with rfl|rfl|rfl|rfl|rfl|rfl|rfl|rfl<;>rfl
def pO(l:List Int):Array Value:=(l.map (Value.int .i64)).toArray
theorem pP(l:List Int)(i:Int)(h0:0<=i)(h1:i<l.length):∃x,x∈l/\(pO l)[i.toNat]?=some (.int .i64 x):=
 ⟨l[i.toNat]'(by omega),zGm _,by simp[pO]⟩
theorem NI(W:World)(l:List Int)(t:TypeId)(i:Int)(h0:0<=i)(h1:i<l.length):∃x,x∈l/\(W.alloc (.cells (pO l) t)).cell? ⟨W.heap.size,i.toNat,none⟩=some (.int .i64 x):=
 ⟨l[i.toNat]'(by omega),zGm _,by
  have:=jb W (pO l) t i.toNat (.int .i64 (l[i.toNat]'(by omega))) (by simp[pO])
  rwa [Nat.zero_add] at this⟩
theorem KS.ZF{S:Nat->Prop}{b N B K:Nat}{w w1 V V':World}{a:Option Addr}{c:Nat}{ks:List ah.dZ}{nm:ah.Nm}{lo hi:Int}(hb:b<w.heap.size)(hR:w1.heap[w.heap.size]?=some (.cells #[.string ah.nil,.int .i64 0,.int .i64 0,.slice none 0 0] 102 (0,0)))
  (hs:w1.heap.size=w.heap.size+2)(ht:Turns (·=b) w w1)(UG:∀x,S x->b<x)(ho:cG 4 Be S B 102 w (.slice a ks.length c) ks)(WA:b<B)(hg:Turns (·=b) w1 V)(hm:gj V b N)(hge:w1.heap.size<=K)
  (hb4:V'.heap[K]?=some (.cells #[.string nm,.int .i64 lo,.int .i64 hi,.slice none 0 0] 102 (0,0)))(AX:Turns (·=K) V V'):KS S b N B w none (.slice a ks.length c) ks K nm lo hi [] V' where
 mJ:=hm.keep (AX.keep (fun x hx e=>by omega))
 own:=by
  refine(ho.JQ bY (S':=SG b S w none) (fun x hlt hx=>⟨UG x hx,.inl ⟨hx,hlt⟩⟩)).keep bY (fun x hx hlt=>?_)
  have M5:b<x:=by
   rcases hx with hx|hx
   ·exact hx.1
   ·have:=(ho.lt x hx).1;omega
  have h1:=ht.block x (by omega) hlt;have h2:=hg.block x (by omega) (by omega);have h3:=AX.block x (by omega) (by have:=hg.size;omega);rw[h3,h2,h1]
 res:=by
  have h2:=hg.block w.heap.size (by omega) (by omega);have h3:=AX.block w.heap.size (by omega) (by have:=hg.size;omega);rw[h3,h2,hR]
 box:=⟨none,0,0,rfl,hb4,cG.nil _ _ _ _ _ _,fun _ h=>by cases h⟩
 turn:=((ht.trans hg).mono (fun x _ h=>.inl h)).into AX (fun x hx e=>by omega)
 ge:=by omega
 lb:=hb
 kb:=fun x hx=>⟨by have:=(ho.lt x hx).1;omega,(ho.lt x hx).2⟩
theorem KS.app{S:Nat->Prop}{b N N' B K:Nat}{w W V V':World}{G:Option Nat}{vK:Value}{ks:List ah.dZ}{nm:ah.Nm}{lo hi:Int}{fs gs:List ah.cA}{a a':Option Addr}{n n' c c':Nat}(h:KS S b N B w G vK ks K nm lo hi fs W)
  (hbx:W.heap[K]?=some (.cells #[.string nm,.int .i64 lo,.int .i64 hi,.slice a n c] 102 (0,0)))(Ce:∀x,(Value.slice a n c).ownBlock=some x->K<x)(hV:Turns (·=b) W V)(hm:gj V b N')
  (hG:∀x,G=some x->K<x/\x<W.heap.size/\(Value.slice a n c).ownBlock≠some x)
  (how:cG 8 jm (fun x=>K<x) (K+1) 117 V' (.slice a' n' c') (fs++gs))(hn:n'=(fs++gs).length)(ht:Turns (fun x=>some x=(Value.slice a n c).ownBlock) V V')
  (hnew:(Value.slice a' n' c').ownBlock=(Value.slice a n c).ownBlock\/∃x,(Value.slice a' n' c').ownBlock=some x/\V.heap.size<=x):
  KS S b N' B w G vK ks K nm lo hi (fs++gs) (V'.setCell ⟨K,3,none⟩ (.slice a' n' c')):=by
 have hge:=h.ge;have hlb:=h.lb;have hKl:=ay hbx;have hs1:=hV.size;have hs2:=ht.size
 have hX:Turns (fun x=>x=b\/(K<=x/\(x=K\/(Value.slice a n c).ownBlock=some x))) W (V'.setCell ⟨K,3,none⟩ (.slice a' n' c')):=
  (((hV.mono fun x _ h=>.inl h).trans (ht.mono fun x _ h=>.inr (by have:=Ce x h.symm;exact⟨by omega,.inr h.symm⟩)))).trans (((Turns.refl (·=K) V').setCell ⟨K,3,none⟩ _ rfl).mono fun x _ h=>.inr ⟨by omega,.inl h⟩)
 have hK:V'.heap[K]?=some (.cells #[.string nm,.int .i64 lo,.int .i64 hi,.slice a n c] 102 (0,0)):=by
  rw[ht.block K (fun e=>by have:=Ce K e.symm;omega) (by omega),hV.block K (by omega) hKl,hbx]
 refine⟨?_,?_,?_,⟨a',n',c',hn,heap_setCell_same _ K 3 _ _ _ hK,?_,fun x hx=>?_⟩,?_,hge,hlb,h.kb⟩
 ·exact(hm.keep (ht.keep (fun x hx e=>by have:=Ce x e.symm;omega))).keep (fun x hx _=>zBh _ _ _ _ (show x≠K by omega))
 ·refine h.own.keep bY (fun x hx hlt=>hX.block x (fun e=>?_) hlt)
  have hxx:b<x/\(x<w.heap.size\/G=some x):=by
   rcases hx with hx|hx
   ·exact⟨hx.1,hx.2.elim (fun h=>.inl h.2) .inr⟩
   ·exact⟨(h.kb x hx).1,.inl (h.kb x hx).2⟩
  rcases e with e|⟨e1,e⟩
  ·omega
  ·rcases hxx.2 with h1|h1
   ·omega
   ·have:=hG x h1
    rcases e with e|e
    ·omega
    ·exact this.2.2 e
 ·rw[hX.block _ (by omega) (ay h.res)];exact h.res
 ·exact how.keep aT (fun x hx _=>zBh _ _ _ _ (by
   rcases hx with hx|hx
   ·have:K<x:=hx;show x≠K;omega
   ·have:=(how.lt x hx).1;show x≠K;omega))
 ·obtain⟨g1,g2,g3⟩:=hG x hx
  refine⟨g1,by simp only[World.size_setCell];omega,fun e=>?_⟩;rcases hnew with h1|⟨y,h1,h2⟩
  ·rw[h1] at e;exact g3 e
  ·rw[h1] at e;have:=zSi e;omega
 ·exact h.turn.into hX (fun x hx e=>by
   rcases e with e|e
   ·exact .inl e
   ·omega)
theorem KY{w:World}{g:Nat}{x y z u:Value}{tmps:Array Value}(h:w.heap[g]?=some (.cells #[x,y,z,u] 102 (0,0)))(hp:tmps[4]?=some (.pointer (some ⟨g,0,none⟩))):
  (results Tryz.f46 tmps).run Tryz.prog w=.ok (.agg #[x,y,z,u]) w:=by
 obtain⟨⟨h0,h1,h2,h3⟩, -⟩:=aO h;simp[results,Tryz.results46,go_sem,hp,h0,h1,h2,h3]
theorem NJ(b N B:Nat)(hN:N<=80000)(w:World)(hm:gj w b N)(a:Option Addr)(c:Nat)(ks:List ah.dZ)(hk2:ks.length<=2)(hkf:∀k∈ks,k.af4.length<=1000000)(S:Nat->Prop)(UG:∀x,S x->b<x)(hown:cG 4 Be S B 102 w (.slice a ks.length c) ks)(WA:b<B):
    Calls Tryz.prog 46 #[.pointer (some ⟨b,0,none⟩),.slice a ks.length c] w (aan S b N B w (.slice a ks.length c) ks):=by
  have HM:=hid hm
  have HO:=hid hown
  have HKF:=hid hkf
  clear hkf
  clear hm hown
  go_enter Tryz.func46,Tryz.ntmps46
  go_wp2_with fail
  refine(aV 6 (by omega) (by omega) b N (by omega) _ (HM.out.keep (aA.below ((aj.alloc aB _).alloc (by simp) _)))).mono ?_
  rintro e w1 ⟨t,rfl,h0,h6,hm1,ht1,hs1⟩
  obtain⟨lo,hlo,hcell⟩:=NI (w.alloc (.cells #[.string ah.nil,.int .i64 0,.int .i64 0,.slice none 0 0] 102)) [0,1,2,4,1,2] 3 t h0 (by simpa using h6)
  have hc1:w1.cell? ⟨w.heap.size+1,t.toNat,none⟩=some (.int .i64 lo):=by
    rw[World.cell?_of_block (ht1.block (w.heap.size+1) (show ¬_=b by have:=HM.out.lt;omega) (by simp))]
    rw[World.size_alloc] at hcell
    exact hcell
  have aao:0<=lo/\lo<=4:=by
    simp only[zMc,zNn,or_false] at hlo
    omega
  obtain⟨hlo0,aao⟩:=aao
  have HR:Hid (w1.heap[w.heap.size]?=some (.cells #[.string ah.nil,.int .i64 0,.int .i64 0,.slice none 0 0] 102 (0,0))):=hid (by
    rw[ht1.block w.heap.size (show ¬_=b by have:=HM.out.lt;omega) (by simp;omega)]
    exact aG _ (aD w _ rfl))
  have wJ:Hid (w1.heap.size=w.heap.size+2):=hid (by rw[hs1];simp)
  have wI:Hid (Turns (·=b) w w1):=hid ((((Turns.refl _ w).alloc _).alloc _).trans ht1)
  have Bf:=hid hm1
  have hsk:dG (some ⟨w.heap.size+1,0,none⟩) 6:=fun _=>⟨_,_,rfl⟩
  clear hm1 ht1 hs1 hlo hcell
  go_upto_region 3 with fail
  clear hc1 hsk
  obtain⟨WB,HlenK⟩:Hid (b<w.heap.size)/\((ks.length:Int)<3/\(0:Int)<=ks.length):=⟨hid HM.out.lt,by omega,by omega⟩
  go_cut [7] from 7 to 30 (fun k wx=>∃K,∃hi:Int,k=.pointer (some ⟨K,0,none⟩)/\Hid (lo<=hi/\hi<=lo+4)/\Hid (KS S b (N+2) B w none (.slice a ks.length c) ks K (ah.aU ks.length) lo hi [] wx))
  case first=>
    have mW:Hid (b<w1.heap.size):=hid (by have:=WB.out;have:=wJ.out;omega)
    have M6:Hid ((#[.string {data:=#[112,101,114,115,111,110]},.string {data:=#[111,114,100,101,114]},.string {data:=#[105,116,101,109]}]:Array Value)[ks.length]?=some (.string (ah.aU ks.length))):=hid (by
      have:ks.length=0\/ks.length=1\/ks.length=2:=by omega
      rcases this with h|h|h<;>rw[h]<;>rfl)
    have di:=hid (RG.start b w1)
    have eB:=hid (Bf.out.keep (aA.below (af5 aj 1)))
    obtain⟨V0,rF⟩:=nmE (w1.drewN 1)
    refine bU 11 (.quiet 1 (.quiet 4 (.quiet 5 (.quiet 6 (.three 0 7 10 (.quiet 2 (.quiet 3 (.two 7 10 (.quiet 8 (.quiet 9 (.one 10 .done))) (.one 7 (.quiet 8 (.quiet 9 .done)))))) (.quiet 8 (.two 0 10 (.quiet 2 (.quiet 3 (.quiet 9 (.one 10 .done)))) (.one 0 (.quiet 2 (.quiet 3 (.quiet 9 .done)))))) (.two 0 7 (.quiet 2 (.quiet 3 (.one 7 (.quiet 8 (.quiet 9 .done))))) (.quiet 8 (.one 0 (.quiet 2 (.quiet 3 (.quiet 9 .done))))))))))) (RG b w1 []) mxT (by kernel_rfl) di.out ?_
    rw[<-rF] at di eB ⊢
    clear rF
    iterate 4
      refine ai rfl ?_
      intro hne
      go_big_quiet_step (fail)
      refine zWq ?_
      clear hne
    refine wK rfl rfl rfl ?p1 ?p2 ?p3
    case p1=>
      go_wp2
      obtain⟨V4,hV4⟩:=nmE (V0.alloc (.cells #[.string {data:=#[112,101,114,115,111,110]},.string {data:=#[111,114,100,101,114]},.string {data:=#[105,116,101,109]}] 9))
      have NK:=hid (di.out.alloc #[.string {data:=#[112,101,114,115,111,110]},.string {data:=#[111,114,100,101,114]},.string {data:=#[105,116,101,109]}] 9)
      have NM:=hid (eB.out.keep (aA.below (aj.alloc aB (.cells #[.string {data:=#[112,101,114,115,111,110]},.string {data:=#[111,114,100,101,114]},.string {data:=#[105,116,101,109]}] 9))))
      rw[<-hV4] at NK NM ⊢
      refine aC (RG b w1 [(V0.heap.size,#[.string {data:=#[112,101,114,115,111,110]},.string {data:=#[111,114,100,101,114]},.string {data:=#[105,116,101,109]}],9)]) (fun _ h=>h.tail) NK.out ?_
      clear hV4 eB
      refine ai rfl ?_
      intro hne
      have hq:dG (some ⟨V0.heap.size,0,none⟩) 3:=fun _=>⟨_,_,rfl⟩
      go_big_quiet_step (fail)
      refine zWq ?_
      clear hne hq
      refine ai rfl ?_
      intro hne
      have hq:∀x:Held (RG b w1 [(V0.heap.size,#[.string {data:=#[112,101,114,115,111,110]},.string {data:=#[111,114,100,101,114]},.string {data:=#[105,116,101,109]}],9)]),x.1.cell? ⟨V0.heap.size,ks.length,none⟩=some (.string (ah.aU ks.length)):=fun x=>RG.cell x V0.heap.size #[.string {data:=#[112,101,114,115,111,110]},.string {data:=#[111,114,100,101,114]},.string {data:=#[105,116,101,109]}] 9 (by simp) M6.out
      go_big_quiet_step (fail)
      refine zWq ?_
      clear hne hq
      refine dU rfl rfl ?p5 ?p6
      case p5=>
        go_wp2_with fail
        refine(aV 5 (by omega) (by omega) b (N+1) (by omega) _ NM.out).mono ?_
        rintro e V7 ⟨t',rfl,iy,iz,hm',ht', -⟩
        have aap:=hid (NK.out.take mW.out ht')
        have aaq:=hid hm'
        clear hm' ht' NK NM
        go_wp2
        refine aC (RG b w1 [(V0.heap.size,#[.string {data:=#[112,101,114,115,111,110]},.string {data:=#[111,114,100,101,114]},.string {data:=#[105,116,101,109]}],9)]) (fun _ h=>h) aap.out ?_
        refine ai rfl ?_
        intro hne
        have hq:IntKind.i64.wrap (lo+t')=lo+t':=IntWalk.i64_in _ (by omega)
        go_big_quiet_step (fail)
        refine zWq ?_
        clear hne hq
        refine ai rfl ?_
        intro hne
        go_big_quiet_step (fail)
        refine zWq ?_
        clear hne
        refine aH rfl ?_
        go_wp2
        obtain⟨V8,hV8⟩:=nmE (V7.alloc (.cells #[.string {data:=#[]},.int .i64 0,.int .i64 0,.slice none 0 0] 102))
        have GI:=hid (aap.out.alloc #[.string {data:=#[]},.int .i64 0,.int .i64 0,.slice none 0 0] 102)
        have WC:=hid (aaq.out.keep (aA.below (aj.alloc aB (.cells #[.string {data:=#[]},.int .i64 0,.int .i64 0,.slice none 0 0] 102))))
        rw[<-hV8] at GI WC ⊢
        refine aC (RG b w1 [(V7.heap.size,#[.string {data:=#[]},.int .i64 0,.int .i64 0,.slice none 0 0],102),(V0.heap.size,#[.string {data:=#[112,101,114,115,111,110]},.string {data:=#[111,114,100,101,114]},.string {data:=#[105,116,101,109]}],9)]) (fun _ h=>h.tail) GI.out ?_
        clear hV8 aaq
        refine aL ?_
        try simp only[zDs,zDz]
        obtain⟨hb4,AX⟩:=Ba (GI.out.blocks (V7.heap.size,#[.string {data:=#[]},.int .i64 0,.int .i64 0,.slice none 0 0],102) (by simp)).2 (.string (ah.aU ks.length)) (.int .i64 lo) (.int .i64 (lo+t')) (.slice none 0 0)
        have hge:=(GI.out.blocks (V7.heap.size,#[.string {data:=#[]},.int .i64 0,.int .i64 0,.slice none 0 0],102) (by simp)).1
        have tB:=aO (GI.out.blocks (V7.heap.size,#[.string {data:=#[]},.int .i64 0,.int .i64 0,.slice none 0 0],102) (by simp)).2
        obtain⟨⟨b0,b1,b2,b3⟩,bz⟩:=tB
        have oo:=hid (KS.ZF WB.out HR.out wJ.out wI.out UG HO.out WA GI.out.turn WC.out hge hb4 AX)
        clear hb4 AX hge GI WC
        go_wp2
        go_meet
        case rel=>exact⟨_,_,rfl,hid (by omega),oo⟩
      case p6=>
        go_wp2
        obtain⟨V9,hV9⟩:=nmE (V4.alloc (.cells #[.string {data:=#[]},.int .i64 0,.int .i64 0,.slice none 0 0] 102))
        have RO:=hid (NK.out.alloc #[.string {data:=#[]},.int .i64 0,.int .i64 0,.slice none 0 0] 102)
        have WD:=hid (NM.out.keep (aA.below (aj.alloc aB (.cells #[.string {data:=#[]},.int .i64 0,.int .i64 0,.slice none 0 0] 102))))
        rw[<-hV9] at RO WD ⊢
        refine aC (RG b w1 [(V4.heap.size,#[.string {data:=#[]},.int .i64 0,.int .i64 0,.slice none 0 0],102),(V0.heap.size,#[.string {data:=#[112,101,114,115,111,110]},.string {data:=#[111,114,100,101,114]},.string {data:=#[105,116,101,109]}],9)]) (fun _ h=>h.tail) RO.out ?_
        clear hV9 NM
        refine aH rfl ?_
        go_wp2_with fail
        refine(aV 5 (by omega) (by omega) b (N+1) (by omega) _ WD.out).mono ?_
        rintro e V10 ⟨t',rfl,iy,iz,hm',ht', -⟩
        have Cf:=hid (RO.out.take mW.out ht')
        have UH:=hid hm'
        clear hm' ht' RO WD
        go_wp2
        refine aC (RG b w1 [(V4.heap.size,#[.string {data:=#[]},.int .i64 0,.int .i64 0,.slice none 0 0],102),(V0.heap.size,#[.string {data:=#[112,101,114,115,111,110]},.string {data:=#[111,114,100,101,114]},.string {data:=#[105,116,101,109]}],9)]) (fun _ h=>h) Cf.out ?_
        refine ai rfl ?_
        intro hne
        have hq:IntKind.i64.wrap (lo+t')=lo+t':=IntWalk.i64_in _ (by omega)
        go_big_quiet_step (fail)
        refine zWq ?_
        clear hne hq
        refine ai rfl ?_
        intro hne
        go_big_quiet_step (fail)
        refine zWq ?_
        clear hne
        refine aL ?_
        try simp only[zDs,zDz]
        obtain⟨hb4,AX⟩:=Ba (Cf.out.blocks (V4.heap.size,#[.string {data:=#[]},.int .i64 0,.int .i64 0,.slice none 0 0],102) (by simp)).2 (.string (ah.aU ks.length)) (.int .i64 lo) (.int .i64 (lo+t')) (.slice none 0 0)
        have hge:=(Cf.out.blocks (V4.heap.size,#[.string {data:=#[]},.int .i64 0,.int .i64 0,.slice none 0 0],102) (by simp)).1
        have tB:=aO (Cf.out.blocks (V4.heap.size,#[.string {data:=#[]},.int .i64 0,.int .i64 0,.slice none 0 0],102) (by simp)).2
        obtain⟨⟨b0,b1,b2,b3⟩,bz⟩:=tB
        have oo:=hid (KS.ZF WB.out HR.out wJ.out wI.out UG HO.out WA Cf.out.turn UH.out hge hb4 AX)
        clear hb4 AX hge Cf UH
        go_wp2
        go_meet
        case rel=>exact⟨_,_,rfl,hid (by omega),oo⟩
    case p2=>
      go_wp2_with fail
      refine(aV 5 (by omega) (by omega) b (N+1) (by omega) _ eB.out).mono ?_
      rintro e JY ⟨t',rfl,iy,iz,hm',ht', -⟩
      have NP:=hid (di.out.take mW.out ht')
      have JZ:=hid hm'
      clear hm' ht' di eB
      go_wp2
      refine aC (RG b w1 []) (fun _ h=>h) NP.out ?_
      refine ai rfl ?_
      intro hne
      have hq:IntKind.i64.wrap (lo+t')=lo+t':=IntWalk.i64_in _ (by omega)
      go_big_quiet_step (fail)
      refine zWq ?_
      clear hne hq
      refine dU rfl rfl ?p12 ?p13
      case p12=>
        go_wp2
        obtain⟨V14,aar⟩:=nmE (JY.alloc (.cells #[.string {data:=#[112,101,114,115,111,110]},.string {data:=#[111,114,100,101,114]},.string {data:=#[105,116,101,109]}] 9))
        have NQ:=hid (NP.out.alloc #[.string {data:=#[112,101,114,115,111,110]},.string {data:=#[111,114,100,101,114]},.string {data:=#[105,116,101,109]}] 9)
        have NR:=hid (JZ.out.keep (aA.below (aj.alloc aB (.cells #[.string {data:=#[112,101,114,115,111,110]},.string {data:=#[111,114,100,101,114]},.string {data:=#[105,116,101,109]}] 9))))
        rw[<-aar] at NQ NR ⊢
        refine aC (RG b w1 [(JY.heap.size,#[.string {data:=#[112,101,114,115,111,110]},.string {data:=#[111,114,100,101,114]},.string {data:=#[105,116,101,109]}],9)]) (fun _ h=>h.tail) NQ.out ?_
        clear aar JZ
        refine ai rfl ?_
        intro hne
        have hq:dG (some ⟨JY.heap.size,0,none⟩) 3:=fun _=>⟨_,_,rfl⟩
        go_big_quiet_step (fail)
        refine zWq ?_
        clear hne hq
        refine ai rfl ?_
        intro hne
        have hq:∀x:Held (RG b w1 [(JY.heap.size,#[.string {data:=#[112,101,114,115,111,110]},.string {data:=#[111,114,100,101,114]},.string {data:=#[105,116,101,109]}],9)]),x.1.cell? ⟨JY.heap.size,ks.length,none⟩=some (.string (ah.aU ks.length)):=fun x=>RG.cell x JY.heap.size #[.string {data:=#[112,101,114,115,111,110]},.string {data:=#[111,114,100,101,114]},.string {data:=#[105,116,101,109]}] 9 (by simp) M6.out
        go_big_quiet_step (fail)
        refine zWq ?_
        clear hne hq
        refine ai rfl ?_
        intro hne
        go_big_quiet_step (fail)
        refine zWq ?_
        clear hne
        refine aH rfl ?_
        go_wp2
        obtain⟨V15,aas⟩:=nmE (V14.alloc (.cells #[.string {data:=#[]},.int .i64 0,.int .i64 0,.slice none 0 0] 102))
        have zi:=hid (NQ.out.alloc #[.string {data:=#[]},.int .i64 0,.int .i64 0,.slice none 0 0] 102)
        have NS:=hid (NR.out.keep (aA.below (aj.alloc aB (.cells #[.string {data:=#[]},.int .i64 0,.int .i64 0,.slice none 0 0] 102))))
        rw[<-aas] at zi NS ⊢
        refine aC (RG b w1 [(V14.heap.size,#[.string {data:=#[]},.int .i64 0,.int .i64 0,.slice none 0 0],102),(JY.heap.size,#[.string {data:=#[112,101,114,115,111,110]},.string {data:=#[111,114,100,101,114]},.string {data:=#[105,116,101,109]}],9)]) (fun _ h=>h.tail) zi.out ?_
        clear aas NR
        refine aL ?_
        try simp only[zDs,zDz]
        obtain⟨hb4,AX⟩:=Ba (zi.out.blocks (V14.heap.size,#[.string {data:=#[]},.int .i64 0,.int .i64 0,.slice none 0 0],102) (by simp)).2 (.string (ah.aU ks.length)) (.int .i64 lo) (.int .i64 (lo+t')) (.slice none 0 0)
        have hge:=(zi.out.blocks (V14.heap.size,#[.string {data:=#[]},.int .i64 0,.int .i64 0,.slice none 0 0],102) (by simp)).1
        have tB:=aO (zi.out.blocks (V14.heap.size,#[.string {data:=#[]},.int .i64 0,.int .i64 0,.slice none 0 0],102) (by simp)).2
        obtain⟨⟨b0,b1,b2,b3⟩,bz⟩:=tB
        have oo:=hid (KS.ZF WB.out HR.out wJ.out wI.out UG HO.out WA zi.out.turn NS.out hge hb4 AX)
        clear hb4 AX hge zi NS
        go_wp2
        go_meet
        case rel=>exact⟨_,_,rfl,hid (by omega),oo⟩
      case p13=>
        go_wp2
        obtain⟨ZG,aat⟩:=nmE (JY.alloc (.cells #[.string {data:=#[]},.int .i64 0,.int .i64 0,.slice none 0 0] 102))
        have NT:=hid (NP.out.alloc #[.string {data:=#[]},.int .i64 0,.int .i64 0,.slice none 0 0] 102)
        have NU:=hid (JZ.out.keep (aA.below (aj.alloc aB (.cells #[.string {data:=#[]},.int .i64 0,.int .i64 0,.slice none 0 0] 102))))
        rw[<-aat] at NT NU ⊢
        refine aC (RG b w1 [(JY.heap.size,#[.string {data:=#[]},.int .i64 0,.int .i64 0,.slice none 0 0],102)]) (fun _ h=>h.tail) NT.out ?_
        clear aat JZ
        refine aH rfl ?_
        go_wp2
        obtain⟨V17,aau⟩:=nmE (ZG.alloc (.cells #[.string {data:=#[112,101,114,115,111,110]},.string {data:=#[111,114,100,101,114]},.string {data:=#[105,116,101,109]}] 9))
        have zj:=hid (NT.out.alloc #[.string {data:=#[112,101,114,115,111,110]},.string {data:=#[111,114,100,101,114]},.string {data:=#[105,116,101,109]}] 9)
        have NV:=hid (NU.out.keep (aA.below (aj.alloc aB (.cells #[.string {data:=#[112,101,114,115,111,110]},.string {data:=#[111,114,100,101,114]},.string {data:=#[105,116,101,109]}] 9))))
        rw[<-aau] at zj NV ⊢
        refine aC (RG b w1 [(ZG.heap.size,#[.string {data:=#[112,101,114,115,111,110]},.string {data:=#[111,114,100,101,114]},.string {data:=#[105,116,101,109]}],9),(JY.heap.size,#[.string {data:=#[]},.int .i64 0,.int .i64 0,.slice none 0 0],102)]) (fun _ h=>h.tail) zj.out ?_
        clear aau NU
        refine ai rfl ?_
        intro hne
        have hq:dG (some ⟨ZG.heap.size,0,none⟩) 3:=fun _=>⟨_,_,rfl⟩
        go_big_quiet_step (fail)
        refine zWq ?_
        clear hne hq
        refine ai rfl ?_
        intro hne
        have hq:∀x:Held (RG b w1 [(ZG.heap.size,#[.string {data:=#[112,101,114,115,111,110]},.string {data:=#[111,114,100,101,114]},.string {data:=#[105,116,101,109]}],9),(JY.heap.size,#[.string {data:=#[]},.int .i64 0,.int .i64 0,.slice none 0 0],102)]),x.1.cell? ⟨ZG.heap.size,ks.length,none⟩=some (.string (ah.aU ks.length)):=fun x=>RG.cell x ZG.heap.size #[.string {data:=#[112,101,114,115,111,110]},.string {data:=#[111,114,100,101,114]},.string {data:=#[105,116,101,109]}] 9 (by simp) M6.out
        go_big_quiet_step (fail)
        refine zWq ?_
        clear hne hq
        refine ai rfl ?_
        intro hne
        go_big_quiet_step (fail)
        refine zWq ?_
        clear hne
        refine aL ?_
        try simp only[zDs,zDz]
        obtain⟨hb4,AX⟩:=Ba (zj.out.blocks (JY.heap.size,#[.string {data:=#[]},.int .i64 0,.int .i64 0,.slice none 0 0],102) (by simp)).2 (.string (ah.aU ks.length)) (.int .i64 lo) (.int .i64 (lo+t')) (.slice none 0 0)
        have hge:=(zj.out.blocks (JY.heap.size,#[.string {data:=#[]},.int .i64 0,.int .i64 0,.slice none 0 0],102) (by simp)).1
        have tB:=aO (zj.out.blocks (JY.heap.size,#[.string {data:=#[]},.int .i64 0,.int .i64 0,.slice none 0 0],102) (by simp)).2
        obtain⟨⟨b0,b1,b2,b3⟩,bz⟩:=tB
        have oo:=hid (KS.ZF WB.out HR.out wJ.out wI.out UG HO.out WA zj.out.turn NV.out hge hb4 AX)
        clear hb4 AX hge zj NV
        go_wp2
        go_meet
        case rel=>exact⟨_,_,rfl,hid (by omega),oo⟩
    case p3=>
      go_wp2
      obtain⟨WE,aav⟩:=nmE (V0.alloc (.cells #[.string {data:=#[]},.int .i64 0,.int .i64 0,.slice none 0 0] 102))
      have Ew:=hid (di.out.alloc #[.string {data:=#[]},.int .i64 0,.int .i64 0,.slice none 0 0] 102)
      have Ey:=hid (eB.out.keep (aA.below (aj.alloc aB (.cells #[.string {data:=#[]},.int .i64 0,.int .i64 0,.slice none 0 0] 102))))
      rw[<-aav] at Ew Ey ⊢
      refine aC (RG b w1 [(V0.heap.size,#[.string {data:=#[]},.int .i64 0,.int .i64 0,.slice none 0 0],102)]) (fun _ h=>h.tail) Ew.out ?_
      clear aav eB
      refine dU rfl rfl ?p19 ?p20
      case p19=>
        go_wp2
        obtain⟨V21,aaw⟩:=nmE (WE.alloc (.cells #[.string {data:=#[112,101,114,115,111,110]},.string {data:=#[111,114,100,101,114]},.string {data:=#[105,116,101,109]}] 9))
        have J2:=hid (Ew.out.alloc #[.string {data:=#[112,101,114,115,111,110]},.string {data:=#[111,114,100,101,114]},.string {data:=#[105,116,101,109]}] 9)
        have NW:=hid (Ey.out.keep (aA.below (aj.alloc aB (.cells #[.string {data:=#[112,101,114,115,111,110]},.string {data:=#[111,114,100,101,114]},.string {data:=#[105,116,101,109]}] 9))))
        rw[<-aaw] at J2 NW ⊢
        refine aC (RG b w1 [(WE.heap.size,#[.string {data:=#[112,101,114,115,111,110]},.string {data:=#[111,114,100,101,114]},.string {data:=#[105,116,101,109]}],9),(V0.heap.size,#[.string {data:=#[]},.int .i64 0,.int .i64 0,.slice none 0 0],102)]) (fun _ h=>h.tail) J2.out ?_
        clear aaw Ey
        refine ai rfl ?_
        intro hne
        have hq:dG (some ⟨WE.heap.size,0,none⟩) 3:=fun _=>⟨_,_,rfl⟩
        go_big_quiet_step (fail)
        refine zWq ?_
        clear hne hq
        refine ai rfl ?_
        intro hne
        have hq:∀x:Held (RG b w1 [(WE.heap.size,#[.string {data:=#[112,101,114,115,111,110]},.string {data:=#[111,114,100,101,114]},.string {data:=#[105,116,101,109]}],9),(V0.heap.size,#[.string {data:=#[]},.int .i64 0,.int .i64 0,.slice none 0 0],102)]),x.1.cell? ⟨WE.heap.size,ks.length,none⟩=some (.string (ah.aU ks.length)):=fun x=>RG.cell x WE.heap.size #[.string {data:=#[112,101,114,115,111,110]},.string {data:=#[111,114,100,101,114]},.string {data:=#[105,116,101,109]}] 9 (by simp) M6.out
        go_big_quiet_step (fail)
        refine zWq ?_
        clear hne hq
        refine aH rfl ?_
        go_wp2_with fail
        refine(aV 5 (by omega) (by omega) b (N+1) (by omega) _ NW.out).mono ?_
        rintro e V22 ⟨t',rfl,iy,iz,hm',ht', -⟩
        have Cg:=hid (J2.out.take mW.out ht')
        have UI:=hid hm'
        clear hm' ht' J2 NW
        go_wp2
        refine aC (RG b w1 [(WE.heap.size,#[.string {data:=#[112,101,114,115,111,110]},.string {data:=#[111,114,100,101,114]},.string {data:=#[105,116,101,109]}],9),(V0.heap.size,#[.string {data:=#[]},.int .i64 0,.int .i64 0,.slice none 0 0],102)]) (fun _ h=>h) Cg.out ?_
        refine ai rfl ?_
        intro hne
        have hq:IntKind.i64.wrap (lo+t')=lo+t':=IntWalk.i64_in _ (by omega)
        go_big_quiet_step (fail)
        refine zWq ?_
        clear hne hq
        refine ai rfl ?_
        intro hne
        go_big_quiet_step (fail)
        refine zWq ?_
        clear hne
        refine aL ?_
        try simp only[zDs,zDz]
        obtain⟨hb4,AX⟩:=Ba (Cg.out.blocks (V0.heap.size,#[.string {data:=#[]},.int .i64 0,.int .i64 0,.slice none 0 0],102) (by simp)).2 (.string (ah.aU ks.length)) (.int .i64 lo) (.int .i64 (lo+t')) (.slice none 0 0)
        have hge:=(Cg.out.blocks (V0.heap.size,#[.string {data:=#[]},.int .i64 0,.int .i64 0,.slice none 0 0],102) (by simp)).1
        have tB:=aO (Cg.out.blocks (V0.heap.size,#[.string {data:=#[]},.int .i64 0,.int .i64 0,.slice none 0 0],102) (by simp)).2
        obtain⟨⟨b0,b1,b2,b3⟩,bz⟩:=tB
        have oo:=hid (KS.ZF WB.out HR.out wJ.out wI.out UG HO.out WA Cg.out.turn UI.out hge hb4 AX)
        clear hb4 AX hge Cg UI
        go_wp2
        go_meet
        case rel=>exact⟨_,_,rfl,hid (by omega),oo⟩
      case p20=>
        go_wp2_with fail
        refine(aV 5 (by omega) (by omega) b (N+1) (by omega) _ Ey.out).mono ?_
        rintro e ZH ⟨t',rfl,iy,iz,hm',ht', -⟩
        have UJ:=hid (Ew.out.take mW.out ht')
        have UK:=hid hm'
        clear hm' ht' Ew Ey
        go_wp2
        refine aC (RG b w1 [(V0.heap.size,#[.string {data:=#[]},.int .i64 0,.int .i64 0,.slice none 0 0],102)]) (fun _ h=>h) UJ.out ?_
        refine ai rfl ?_
        intro hne
        have hq:IntKind.i64.wrap (lo+t')=lo+t':=IntWalk.i64_in _ (by omega)
        go_big_quiet_step (fail)
        refine zWq ?_
        clear hne hq
        refine aH rfl ?_
        go_wp2
        obtain⟨V24,aax⟩:=nmE (ZH.alloc (.cells #[.string {data:=#[112,101,114,115,111,110]},.string {data:=#[111,114,100,101,114]},.string {data:=#[105,116,101,109]}] 9))
        have zk:=hid (UJ.out.alloc #[.string {data:=#[112,101,114,115,111,110]},.string {data:=#[111,114,100,101,114]},.string {data:=#[105,116,101,109]}] 9)
        have NX:=hid (UK.out.keep (aA.below (aj.alloc aB (.cells #[.string {data:=#[112,101,114,115,111,110]},.string {data:=#[111,114,100,101,114]},.string {data:=#[105,116,101,109]}] 9))))
        rw[<-aax] at zk NX ⊢
        refine aC (RG b w1 [(ZH.heap.size,#[.string {data:=#[112,101,114,115,111,110]},.string {data:=#[111,114,100,101,114]},.string {data:=#[105,116,101,109]}],9),(V0.heap.size,#[.string {data:=#[]},.int .i64 0,.int .i64 0,.slice none 0 0],102)]) (fun _ h=>h.tail) zk.out ?_
        clear aax UK
        refine ai rfl ?_
        intro hne
        have hq:dG (some ⟨ZH.heap.size,0,none⟩) 3:=fun _=>⟨_,_,rfl⟩
        go_big_quiet_step (fail)
        refine zWq ?_
        clear hne hq
        refine ai rfl ?_
        intro hne
        have hq:∀x:Held (RG b w1 [(ZH.heap.size,#[.string {data:=#[112,101,114,115,111,110]},.string {data:=#[111,114,100,101,114]},.string {data:=#[105,116,101,109]}],9),(V0.heap.size,#[.string {data:=#[]},.int .i64 0,.int .i64 0,.slice none 0 0],102)]),x.1.cell? ⟨ZH.heap.size,ks.length,none⟩=some (.string (ah.aU ks.length)):=fun x=>RG.cell x ZH.heap.size #[.string {data:=#[112,101,114,115,111,110]},.string {data:=#[111,114,100,101,114]},.string {data:=#[105,116,101,109]}] 9 (by simp) M6.out
        go_big_quiet_step (fail)
        refine zWq ?_
        clear hne hq
        refine ai rfl ?_
        intro hne
        go_big_quiet_step (fail)
        refine zWq ?_
        clear hne
        refine aL ?_
        try simp only[zDs,zDz]
        obtain⟨hb4,AX⟩:=Ba (zk.out.blocks (V0.heap.size,#[.string {data:=#[]},.int .i64 0,.int .i64 0,.slice none 0 0],102) (by simp)).2 (.string (ah.aU ks.length)) (.int .i64 lo) (.int .i64 (lo+t')) (.slice none 0 0)
        have hge:=(zk.out.blocks (V0.heap.size,#[.string {data:=#[]},.int .i64 0,.int .i64 0,.slice none 0 0],102) (by simp)).1
        have tB:=aO (zk.out.blocks (V0.heap.size,#[.string {data:=#[]},.int .i64 0,.int .i64 0,.slice none 0 0],102) (by simp)).2
        obtain⟨⟨b0,b1,b2,b3⟩,bz⟩:=tB
        have oo:=hid (KS.ZF WB.out HR.out wJ.out wI.out UG HO.out WA zk.out.turn NX.out hge hb4 AX)
        clear hb4 AX hge zk NX
        go_wp2
        go_meet
        case rel=>exact⟨_,_,rfl,hid (by omega),oo⟩
  case rest=>
    obtain⟨K,hi,rfl,HI,HK⟩:=hcut
    clear Bf wI wJ HR HM HO h0 h6
    obtain⟨av,nv,cv,hn0,hbx,vh,hG⟩:=HK.out.box
    have hn1:nv=0:=hn0
    subst hn1
    have jq:=hid hbx
    have HOW:=hid vh
    have HG:=hid hG
    obtain⟨⟨-, -, -,b3⟩, -⟩:=aO hbx
    have mW:Hid (b<wc.heap.size):=hid (by have:=HK.out.lb;have:=HK.out.turn.size;omega)
    have hKb:K≠b:=by have:=HK.out.lb;have:=HK.out.ge;omega
    clear hn0 hbx vh hG
    go_upto_region 4 with fail
    go_cut [] from 31 to 42 (fun wx=>∃x:Int,Hid (-3<=x/\x<=100)/\Hid (KS S b (N+3) B w none (.slice a ks.length c) ks K (ah.aU ks.length) lo hi [ah.uT x] wx))
    case first=>
      have di:=hid (RG.start b wc)
      have eB:=hid (HK.out.mJ.keep (aA.below (af5 aj 1)))
      obtain⟨V0,rF⟩:=nmE (wc.drewN 1)
      refine bU 9 (.quiet 0 (.quiet 1 (.quiet 3 (.two 2 4 (.one 4 (.quiet 5 (.quiet 6 (.quiet 7 (.one 8 .done))))) (.one 2 (.quiet 5 (.quiet 6 (.quiet 7 (.one 8 .done))))))))) (RG b wc []) mxT (by kernel_rfl) di.out ?_
      rw[<-rF] at di eB ⊢
      clear rF
      refine ai rfl ?_
      intro hne
      go_big_quiet_step (fail)
      refine zWq ?_
      clear hne
      refine ai rfl ?_
      intro hne
      have hq:∀x:Held (RG b wc []),x.1.cell? ⟨K,3,none⟩=some (.slice av 0 cv):=fun x=>RG.old x hKb b3
      go_big_quiet_step (fail)
      refine zWq ?_
      clear hne hq
      refine ai rfl ?_
      intro hne
      go_big_quiet_step (fail)
      refine zWq ?_
      clear hne
      refine dU rfl rfl ?p25 ?p26
      case p25=>
        go_wp2
        obtain⟨V27,aay⟩:=nmE (V0.alloc (.cells #[.int .i64 0,.int .i64 1,.int .i64 100,.int .i64 (-3)] 3))
        have J3:=hid (di.out.alloc #[.int .i64 0,.int .i64 1,.int .i64 100,.int .i64 (-3)] 3)
        have NY:=hid (eB.out.keep (aA.below (aj.alloc aB (.cells #[.int .i64 0,.int .i64 1,.int .i64 100,.int .i64 (-3)] 3))))
        rw[<-aay] at J3 NY ⊢
        refine aC (RG b wc [(V0.heap.size,#[.int .i64 0,.int .i64 1,.int .i64 100,.int .i64 (-3)],3)]) (fun _ h=>h.tail) J3.out ?_
        clear aay eB
        refine aH rfl ?_
        go_wp2_with fail
        refine(aV 4 (by omega) (by omega) b (N+2) (by omega) _ NY.out).mono ?_
        rintro e V28 ⟨t',rfl,iy,iz,hm',ht', -⟩
        have wM:=hid (J3.out.take mW.out ht')
        have UL:=hid hm'
        clear hm' ht' J3 NY
        go_wp2
        refine aC (RG b wc [(V0.heap.size,#[.int .i64 0,.int .i64 1,.int .i64 100,.int .i64 (-3)],3)]) (fun _ h=>h) wM.out ?_
        refine ai rfl ?_
        intro hne
        have hq:dG (some ⟨V0.heap.size,0,none⟩) 4:=fun _=>⟨_,_,rfl⟩
        go_big_quiet_step (fail)
        refine zWq ?_
        clear hne hq
        refine ai rfl ?_
        intro hne
        obtain⟨x,hx,hxc⟩:=pP [0,1,100, -3] t' iy (by simpa using iz)
        have hx2: -3<=x/\x<=100:=by simp only[zMc,zNn,or_false] at hx;omega
        obtain⟨hx3,tB⟩:=hx2
        have Dx:=hid hxc
        clear hx hxc
        have hq:∀x1:Held (RG b wc [(V0.heap.size,#[.int .i64 0,.int .i64 1,.int .i64 100,.int .i64 (-3)],3)]),x1.1.cell? ⟨V0.heap.size,t'.toNat,none⟩=some (.int .i64 x):=fun x1=>RG.cell x1 V0.heap.size #[.int .i64 0,.int .i64 1,.int .i64 100,.int .i64 (-3)] 3 (by simp) Dx.out
        go_big_quiet_step (fail)
        refine zWq ?_
        clear hne hq
        refine ai rfl ?_
        intro hne
        go_big_quiet_step (fail)
        refine zWq ?_
        clear hne
        refine aH rfl ?_
        go_wp2
        refine aC (RG b wc [(V0.heap.size,#[.int .i64 0,.int .i64 1,.int .i64 100,.int .i64 (-3)],3)]) (fun _ h=>h) (wM.out.alloc _ _).tail ?_
        refine aL ?_
        try simp only[zDs,zDz]
        have Ez:=hid (HOW.out.keep aT (aA.dM wM.out.turn (fun x hx e=>by
          have hge:=HK.out.ge
          have hlb:=HK.out.lb
          rcases hx with hx|hx
          · have:K<x:=hx;omega
          · have:=(HOW.out.lt x hx).1;omega)))
        go_wp2_with (at_builtin;go_must (refine cD aT rfl _ _ rfl Tryz.jB rfl Ez.out (us:=bX (ah.uT x) (.slice none 0 0) (.slice none 0 0)) rfl rfl rfl (ah.uT x) (iH (f:=ah.uT x) rfl rfl) (qD (f:=ah.uT x)) (by simp) (by have:=(wM.out.turn).size;have:=ay jq.out;omega) ?_))
        intro v' w' how' ht' hn'
        obtain⟨a',c',hv', -⟩:=how'.form
        simp only[List.nil_append,List.length_cons,List.length_nil,Nat.zero_add] at hv'
        subst hv'
        have oo:=hid (KS.app (HK.out) jq.out (fun x hx=>by have:=(HOW.out.lt x hx).1;omega) wM.out.turn UL.out HG.out how' rfl ht' hn')
        have zl:=(ht'.block K (fun e=>by have:=(HOW.out.lt K e.symm).1;omega) (ay (wM.out.block hKb jq.out))).trans (wM.out.block hKb jq.out)
        obtain⟨⟨-, -, -,d3⟩,dz⟩:=aO zl
        have NZ:=dz 3
        clear how' ht' hn' Ez zl dz wM UL
        go_wp2
        go_meet
        case rel=>exact⟨x,hid ⟨hx3,tB⟩,oo⟩
      case p26=>
        go_wp2_with fail
        refine(aV 4 (by omega) (by omega) b (N+2) (by omega) _ eB.out).mono ?_
        rintro e WG ⟨t',rfl,iy,iz,hm',ht', -⟩
        have UM:=hid (di.out.take mW.out ht')
        have UN:=hid hm'
        clear hm' ht' di eB
        go_wp2
        refine aC (RG b wc []) (fun _ h=>h) UM.out ?_
        refine aH rfl ?_
        go_wp2
        obtain⟨V30,aaz⟩:=nmE (WG.alloc (.cells #[.int .i64 0,.int .i64 1,.int .i64 100,.int .i64 (-3)] 3))
        have tD:=hid (UM.out.alloc #[.int .i64 0,.int .i64 1,.int .i64 100,.int .i64 (-3)] 3)
        have N7:=hid (UN.out.keep (aA.below (aj.alloc aB (.cells #[.int .i64 0,.int .i64 1,.int .i64 100,.int .i64 (-3)] 3))))
        rw[<-aaz] at tD N7 ⊢
        refine aC (RG b wc [(WG.heap.size,#[.int .i64 0,.int .i64 1,.int .i64 100,.int .i64 (-3)],3)]) (fun _ h=>h.tail) tD.out ?_
        clear aaz UN
        refine ai rfl ?_
        intro hne
        have hq:dG (some ⟨WG.heap.size,0,none⟩) 4:=fun _=>⟨_,_,rfl⟩
        go_big_quiet_step (fail)
        refine zWq ?_
        clear hne hq
        refine ai rfl ?_
        intro hne
        obtain⟨x,hx,hxc⟩:=pP [0,1,100, -3] t' iy (by simpa using iz)
        have hx2: -3<=x/\x<=100:=by simp only[zMc,zNn,or_false] at hx;omega
        obtain⟨hx3,tB⟩:=hx2
        have Dx:=hid hxc
        clear hx hxc
        have hq:∀x1:Held (RG b wc [(WG.heap.size,#[.int .i64 0,.int .i64 1,.int .i64 100,.int .i64 (-3)],3)]),x1.1.cell? ⟨WG.heap.size,t'.toNat,none⟩=some (.int .i64 x):=fun x1=>RG.cell x1 WG.heap.size #[.int .i64 0,.int .i64 1,.int .i64 100,.int .i64 (-3)] 3 (by simp) Dx.out
        go_big_quiet_step (fail)
        refine zWq ?_
        clear hne hq
        refine ai rfl ?_
        intro hne
        go_big_quiet_step (fail)
        refine zWq ?_
        clear hne
        refine aH rfl ?_
        go_wp2
        refine aC (RG b wc [(WG.heap.size,#[.int .i64 0,.int .i64 1,.int .i64 100,.int .i64 (-3)],3)]) (fun _ h=>h) (tD.out.alloc _ _).tail ?_
        refine aL ?_
        try simp only[zDs,zDz]
        have Ez:=hid (HOW.out.keep aT (aA.dM tD.out.turn (fun x hx e=>by
          have hge:=HK.out.ge
          have hlb:=HK.out.lb
          rcases hx with hx|hx
          · have:K<x:=hx;omega
          · have:=(HOW.out.lt x hx).1;omega)))
        go_wp2_with (at_builtin;go_must (refine cD aT rfl _ _ rfl Tryz.jB rfl Ez.out (us:=bX (ah.uT x) (.slice none 0 0) (.slice none 0 0)) rfl rfl rfl (ah.uT x) (iH (f:=ah.uT x) rfl rfl) (qD (f:=ah.uT x)) (by simp) (by have:=(tD.out.turn).size;have:=ay jq.out;omega) ?_))
        intro v' w' how' ht' hn'
        obtain⟨a',c',hv', -⟩:=how'.form
        simp only[List.nil_append,List.length_cons,List.length_nil,Nat.zero_add] at hv'
        subst hv'
        have oo:=hid (KS.app (HK.out) jq.out (fun x hx=>by have:=(HOW.out.lt x hx).1;omega) tD.out.turn N7.out HG.out how' rfl ht' hn')
        have zl:=(ht'.block K (fun e=>by have:=(HOW.out.lt K e.symm).1;omega) (ay (tD.out.block hKb jq.out))).trans (tD.out.block hKb jq.out)
        obtain⟨⟨-, -, -,d3⟩,dz⟩:=aO zl
        have NZ:=dz 3
        clear how' ht' hn' Ez zl dz tD N7
        go_wp2
        go_meet
        case rel=>exact⟨x,hid ⟨hx3,tB⟩,oo⟩
    case rest=>
      obtain⟨x,HX,ZI⟩:=hcut
      clear HK jq HOW HG mW b3
      go_upto_if 43 with fail
      go_cut [] from 8 to 135 (fun wx=>∃G ks' hs,Hid (ks'.length=ks.length)/\Hid (ah.oh ks (ah.aU ks.length) ks' hs)/\Hid (KS S b (N+20) B w G (.slice a ks.length c) ks' K (ah.aU ks.length) lo hi hs wx))
      case first=>
        by_cases hn:ks.length=0
        · have hn1:¬(0:Int)<ks.length:=by omega
          have HE:=hid hn
          clear hn
          go_wp2
          go_meet
          case rel=>exact⟨none,ks,[ah.uT x],hid rfl,hid ⟨x,HX.out.1,HX.out.2,.inl ⟨List.eq_nil_of_length_eq_zero HE.out,rfl,rfl⟩⟩,hid (ZI.out.more (by omega))⟩
        · have hn1:(0:Int)<ks.length:=by omega
          have hn2:0<ks.length:=by omega
          clear hn
          obtain⟨g,hag, -,hBg, -, -⟩:=ZI.out.own.sW hn2
          subst hag
          go_wp2_with fail
          refine(aV ks.length (by omega) (by omega) b (N+3) (by omega) _ ZI.out.mJ).mono ?_
          rintro e W2 ⟨t,rfl,EA,EB,hm2,ht2, -⟩
          obtain⟨m,rfl⟩:∃m:Nat,t=(m:Int):=⟨t.toNat,by omega⟩
          have hmn:m<ks.length:=by omega
          have oV:=hid (ZI.out.grow ht2 hm2)
          clear hm2 ht2 ZI
          obtain⟨av,nv,cv,hn0,hbx,vh, -⟩:=oV.out.box
          have WH:nv=1:=hn0
          subst WH
          have jq:=hid hbx
          have HOW:=hid vh
          have mW:Hid (b<W2.heap.size):=hid (by have:=oV.out.lb;have:=oV.out.turn.size;omega)
          have hgb:g≠b:=by omega
          obtain⟨-, -,c0, -, -, -⟩:=oV.out.NH.at hmn
          simp only[fC,fD,Nat.zero_add] at c0
          have hsk:dG (some ⟨g,0,none⟩) ks.length:=fun _=>⟨_,_,rfl⟩
          obtain⟨kd,hkd⟩:=nmE (ks[m])
          rw[<-hkd] at c0
          have KZ:=hid hkd
          have UO:Hid (kd=ah.iT ks m):=hid (by rw[hkd,ah.iT,zGd,zEg hmn];rfl)
          clear hn0 hbx vh hkd
          go_upto_region 7 with fail
          go_cut [9] from 9 to 57 (fun f wx=>∃F,∃h':Int,f=.pointer (some ⟨F,0,none⟩)/\Hid (2<=h'/\h'<=8)/\Hid (RG b W2 [(F,(bX (ah.AQ kd.name 0 h') (.slice none 0 0) (.slice none 0 0)).toArray,117)] wx)/\Hid (gj wx b (N+5)))
          case first=>
            have di:=hid (RG.start b W2)
            have eB:=hid (oV.out.mJ.keep (aA.below (af5 aj 1)))
            obtain⟨V0,rF⟩:=nmE (W2.drewN 1)
            refine bU 12 (.quiet 0 (.quiet 1 (.quiet 2 (.quiet 3 (.quiet 4 (.quiet 6 (.three 5 7 11 (.two 7 11 (.quiet 8 (.quiet 9 (.quiet 10 (.one 11 .done)))) (.one 7 (.quiet 8 (.quiet 9 (.quiet 10 .done))))) (.two 5 11 (.quiet 8 (.quiet 9 (.quiet 10 (.one 11 .done)))) (.one 5 (.quiet 8 (.quiet 9 (.quiet 10 .done))))) (.two 5 7 (.one 7 (.quiet 8 (.quiet 9 (.quiet 10 .done)))) (.one 5 (.quiet 8 (.quiet 9 (.quiet 10 .done)))))))))))) (RG b W2 []) mxT (by kernel_rfl) di.out ?_
            rw[<-rF] at di eB ⊢
            clear rF
            iterate 4
              refine ai rfl ?_
              intro hne
              go_big_quiet_step (fail)
              refine zWq ?_
              clear hne
            refine ai rfl ?_
            intro hne
            have hq:∀x:Held (RG b W2 []),x.1.cell? ⟨g,m*4,none⟩=some (.string kd.name):=fun x=>RG.old x hgb c0
            go_big_quiet_step (fail)
            refine zWq ?_
            clear hne hq
            refine ai rfl ?_
            intro hne
            go_big_quiet_step (fail)
            refine zWq ?_
            clear hne
            refine wK rfl rfl rfl ?p31 ?p32 ?p33
            case p31=>
              go_wp2
              obtain⟨GJ,aaA⟩:=nmE (V0.alloc (.cells #[.int .i64 4,.int .i64 3,.int .i64 8,.int .i64 2] 3))
              have EC:=hid (di.out.alloc #[.int .i64 4,.int .i64 3,.int .i64 8,.int .i64 2] 3)
              have ED:=hid (eB.out.keep (aA.below (aj.alloc aB (.cells #[.int .i64 4,.int .i64 3,.int .i64 8,.int .i64 2] 3))))
              rw[<-aaA] at EC ED ⊢
              refine aC (RG b W2 [(V0.heap.size,#[.int .i64 4,.int .i64 3,.int .i64 8,.int .i64 2],3)]) (fun _ h=>h.tail) EC.out ?_
              clear aaA eB
              refine dU rfl rfl ?p35 ?p36
              case p35=>
                go_wp2_with fail
                refine(aV 4 (by omega) (by omega) b (N+4) (by omega) _ ED.out).mono ?_
                rintro e K0 ⟨t',rfl,iy,iz,hm',ht', -⟩
                have UQ:=hid (EC.out.take mW.out ht')
                have UR:=hid hm'
                clear hm' ht' EC ED
                go_wp2
                refine aC (RG b W2 [(V0.heap.size,#[.int .i64 4,.int .i64 3,.int .i64 8,.int .i64 2],3)]) (fun _ h=>h) UQ.out ?_
                refine ai rfl ?_
                intro hne
                have hq:dG (some ⟨V0.heap.size,0,none⟩) 4:=fun _=>⟨_,_,rfl⟩
                go_big_quiet_step (fail)
                refine zWq ?_
                clear hne hq
                refine ai rfl ?_
                intro hne
                obtain⟨h',hx,hxc⟩:=pP [4,3,8,2] t' iy (by simpa using iz)
                have hx2:2<=h'/\h'<=8:=by simp only[zMc,zNn,or_false] at hx;omega
                obtain⟨hx3,tB⟩:=hx2
                have Dx:=hid hxc
                clear hx hxc
                have hq:∀x1:Held (RG b W2 [(V0.heap.size,#[.int .i64 4,.int .i64 3,.int .i64 8,.int .i64 2],3)]),x1.1.cell? ⟨V0.heap.size,t'.toNat,none⟩=some (.int .i64 h'):=fun x1=>RG.cell x1 V0.heap.size #[.int .i64 4,.int .i64 3,.int .i64 8,.int .i64 2] 3 (by simp) Dx.out
                go_big_quiet_step (fail)
                refine zWq ?_
                clear hne hq
                refine ai rfl ?_
                intro hne
                go_big_quiet_step (fail)
                refine zWq ?_
                clear hne
                refine aH rfl ?_
                go_wp2
                obtain⟨V38,aaB⟩:=nmE (K0.alloc (.cells #[.string {data:=#[]},.string {data:=#[]},.string {data:=#[]},.int .i64 0,.int .i64 0,.int .i64 0,.slice none 0 0,.slice none 0 0] 117))
                have EF:=hid (UQ.out.alloc #[.string {data:=#[]},.string {data:=#[]},.string {data:=#[]},.int .i64 0,.int .i64 0,.int .i64 0,.slice none 0 0,.slice none 0 0] 117)
                have N8:=hid (UR.out.keep (aA.below (aj.alloc aB (.cells #[.string {data:=#[]},.string {data:=#[]},.string {data:=#[]},.int .i64 0,.int .i64 0,.int .i64 0,.slice none 0 0,.slice none 0 0] 117))))
                rw[<-aaB] at EF N8 ⊢
                refine aC (RG b W2 [(K0.heap.size,#[.string {data:=#[]},.string {data:=#[]},.string {data:=#[]},.int .i64 0,.int .i64 0,.int .i64 0,.slice none 0 0,.slice none 0 0],117),(V0.heap.size,#[.int .i64 4,.int .i64 3,.int .i64 8,.int .i64 2],3)]) (fun _ h=>h.tail) EF.out ?_
                clear aaB UR
                refine aL ?_
                try simp only[zDs,zDz]
                have hbl:=EF.out.blocks (K0.heap.size,#[.string {data:=#[]},.string {data:=#[]},.string {data:=#[]},.int .i64 0,.int .i64 0,.int .i64 0,.slice none 0 0,.slice none 0 0],117) (by simp)
                have EG:RG b W2 [(K0.heap.size,#[.string {data:=#[]},.string {data:=#[]},.string {data:=#[]},.int .i64 0,.int .i64 0,.int .i64 0,.slice none 0 0,.slice none 0 0],117)] V38:=EF.out.sub (fun y hy=>by obtain rfl:=zMs.1 hy;simp)
                have N9:=hid (EG.vg (.string ah.tu) (.string kd.name) (.string ah.nil) (.int .i64 1) (.int .i64 0) (.int .i64 h') (.slice none 0 0) (.slice none 0 0))
                have Oa:=hid (N8.out.keep (w':=(((((((V38.setCell ⟨K0.heap.size,0,none⟩ (.string ah.tu)).setCell ⟨K0.heap.size,1,none⟩ (.string kd.name)).setCell ⟨K0.heap.size,2,none⟩ (.string ah.nil)).setCell ⟨K0.heap.size,3,none⟩ (.int .i64 1)).setCell ⟨K0.heap.size,4,none⟩ (.int .i64 0)).setCell ⟨K0.heap.size,5,none⟩ (.int .i64 h')).setCell ⟨K0.heap.size,6,none⟩ (.slice none 0 0)).setCell ⟨K0.heap.size,7,none⟩ (.slice none 0 0)) (fun y hy _=>mR () (show y≠K0.heap.size by have:=mW.out;have:=hbl.1;omega) _ _ _ _ _ _ _ _))
                obtain⟨⟨y0,y1,y2,y3,y4,y5,y6,y7⟩,yz⟩:=dn hbl.2
                clear hbl EG EF N8
                go_wp2
                go_meet
                case rel=>exact⟨_,h',rfl,hid ⟨hx3,tB⟩,N9,Oa⟩
              case p36=>
                go_wp2
                obtain⟨V39,aaC⟩:=nmE (GJ.alloc (.cells #[.string {data:=#[]},.string {data:=#[]},.string {data:=#[]},.int .i64 0,.int .i64 0,.int .i64 0,.slice none 0 0,.slice none 0 0] 117))
                have J4:=hid (EC.out.alloc #[.string {data:=#[]},.string {data:=#[]},.string {data:=#[]},.int .i64 0,.int .i64 0,.int .i64 0,.slice none 0 0,.slice none 0 0] 117)
                have Ob:=hid (ED.out.keep (aA.below (aj.alloc aB (.cells #[.string {data:=#[]},.string {data:=#[]},.string {data:=#[]},.int .i64 0,.int .i64 0,.int .i64 0,.slice none 0 0,.slice none 0 0] 117))))
                rw[<-aaC] at J4 Ob ⊢
                refine aC (RG b W2 [(GJ.heap.size,#[.string {data:=#[]},.string {data:=#[]},.string {data:=#[]},.int .i64 0,.int .i64 0,.int .i64 0,.slice none 0 0,.slice none 0 0],117),(V0.heap.size,#[.int .i64 4,.int .i64 3,.int .i64 8,.int .i64 2],3)]) (fun _ h=>h.tail) J4.out ?_
                clear aaC ED
                refine aH rfl ?_
                go_wp2_with fail
                refine(aV 4 (by omega) (by omega) b (N+4) (by omega) _ Ob.out).mono ?_
                rintro e V40 ⟨t',rfl,iy,iz,hm',ht', -⟩
                have J5:=hid (J4.out.take mW.out ht')
                have UU:=hid hm'
                clear hm' ht' J4 Ob
                go_wp2
                refine aC (RG b W2 [(GJ.heap.size,#[.string {data:=#[]},.string {data:=#[]},.string {data:=#[]},.int .i64 0,.int .i64 0,.int .i64 0,.slice none 0 0,.slice none 0 0],117),(V0.heap.size,#[.int .i64 4,.int .i64 3,.int .i64 8,.int .i64 2],3)]) (fun _ h=>h) J5.out ?_
                refine ai rfl ?_
                intro hne
                have hq:dG (some ⟨V0.heap.size,0,none⟩) 4:=fun _=>⟨_,_,rfl⟩
                go_big_quiet_step (fail)
                refine zWq ?_
                clear hne hq
                refine ai rfl ?_
                intro hne
                obtain⟨h',hx,hxc⟩:=pP [4,3,8,2] t' iy (by simpa using iz)
                have hx2:2<=h'/\h'<=8:=by simp only[zMc,zNn,or_false] at hx;omega
                obtain⟨hx3,tB⟩:=hx2
                have Dx:=hid hxc
                clear hx hxc
                have hq:∀x1:Held (RG b W2 [(GJ.heap.size,#[.string {data:=#[]},.string {data:=#[]},.string {data:=#[]},.int .i64 0,.int .i64 0,.int .i64 0,.slice none 0 0,.slice none 0 0],117),(V0.heap.size,#[.int .i64 4,.int .i64 3,.int .i64 8,.int .i64 2],3)]),x1.1.cell? ⟨V0.heap.size,t'.toNat,none⟩=some (.int .i64 h'):=fun x1=>RG.cell x1 V0.heap.size #[.int .i64 4,.int .i64 3,.int .i64 8,.int .i64 2] 3 (by simp) Dx.out
                go_big_quiet_step (fail)
                refine zWq ?_
                clear hne hq
                refine ai rfl ?_
                intro hne
                go_big_quiet_step (fail)
                refine zWq ?_
                clear hne
                refine aL ?_
                try simp only[zDs,zDz]
                have hbl:=J5.out.blocks (GJ.heap.size,#[.string {data:=#[]},.string {data:=#[]},.string {data:=#[]},.int .i64 0,.int .i64 0,.int .i64 0,.slice none 0 0,.slice none 0 0],117) (by simp)
                have EG:RG b W2 [(GJ.heap.size,#[.string {data:=#[]},.string {data:=#[]},.string {data:=#[]},.int .i64 0,.int .i64 0,.int .i64 0,.slice none 0 0,.slice none 0 0],117)] V40:=J5.out.sub (fun y hy=>by obtain rfl:=zMs.1 hy;simp)
                have N9:=hid (EG.vg (.string ah.tu) (.string kd.name) (.string ah.nil) (.int .i64 1) (.int .i64 0) (.int .i64 h') (.slice none 0 0) (.slice none 0 0))
                have Oa:=hid (UU.out.keep (w':=(((((((V40.setCell ⟨GJ.heap.size,0,none⟩ (.string ah.tu)).setCell ⟨GJ.heap.size,1,none⟩ (.string kd.name)).setCell ⟨GJ.heap.size,2,none⟩ (.string ah.nil)).setCell ⟨GJ.heap.size,3,none⟩ (.int .i64 1)).setCell ⟨GJ.heap.size,4,none⟩ (.int .i64 0)).setCell ⟨GJ.heap.size,5,none⟩ (.int .i64 h')).setCell ⟨GJ.heap.size,6,none⟩ (.slice none 0 0)).setCell ⟨GJ.heap.size,7,none⟩ (.slice none 0 0)) (fun y hy _=>mR () (show y≠GJ.heap.size by have:=mW.out;have:=hbl.1;omega) _ _ _ _ _ _ _ _))
                obtain⟨⟨y0,y1,y2,y3,y4,y5,y6,y7⟩,yz⟩:=dn hbl.2
                clear hbl EG J5 UU
                go_wp2
                go_meet
                case rel=>exact⟨_,h',rfl,hid ⟨hx3,tB⟩,N9,Oa⟩
            case p32=>
              go_wp2_with fail
              refine(aV 4 (by omega) (by omega) b (N+4) (by omega) _ eB.out).mono ?_
              rintro e AY ⟨t',rfl,iy,iz,hm',ht', -⟩
              have Oc:=hid (di.out.take mW.out ht')
              have J6:=hid hm'
              clear hm' ht' di eB
              go_wp2
              refine aC (RG b W2 []) (fun _ h=>h) Oc.out ?_
              refine dU rfl rfl ?p42 ?p43
              case p42=>
                go_wp2
                obtain⟨K1,aaD⟩:=nmE (AY.alloc (.cells #[.int .i64 4,.int .i64 3,.int .i64 8,.int .i64 2] 3))
                have Od:=hid (Oc.out.alloc #[.int .i64 4,.int .i64 3,.int .i64 8,.int .i64 2] 3)
                have Oe:=hid (J6.out.keep (aA.below (aj.alloc aB (.cells #[.int .i64 4,.int .i64 3,.int .i64 8,.int .i64 2] 3))))
                rw[<-aaD] at Od Oe ⊢
                refine aC (RG b W2 [(AY.heap.size,#[.int .i64 4,.int .i64 3,.int .i64 8,.int .i64 2],3)]) (fun _ h=>h.tail) Od.out ?_
                clear aaD J6
                refine ai rfl ?_
                intro hne
                have hq:dG (some ⟨AY.heap.size,0,none⟩) 4:=fun _=>⟨_,_,rfl⟩
                go_big_quiet_step (fail)
                refine zWq ?_
                clear hne hq
                refine ai rfl ?_
                intro hne
                obtain⟨h',hx,hxc⟩:=pP [4,3,8,2] t' iy (by simpa using iz)
                have hx2:2<=h'/\h'<=8:=by simp only[zMc,zNn,or_false] at hx;omega
                obtain⟨hx3,tB⟩:=hx2
                have Dx:=hid hxc
                clear hx hxc
                have hq:∀x1:Held (RG b W2 [(AY.heap.size,#[.int .i64 4,.int .i64 3,.int .i64 8,.int .i64 2],3)]),x1.1.cell? ⟨AY.heap.size,t'.toNat,none⟩=some (.int .i64 h'):=fun x1=>RG.cell x1 AY.heap.size #[.int .i64 4,.int .i64 3,.int .i64 8,.int .i64 2] 3 (by simp) Dx.out
                go_big_quiet_step (fail)
                refine zWq ?_
                clear hne hq
                refine ai rfl ?_
                intro hne
                go_big_quiet_step (fail)
                refine zWq ?_
                clear hne
                refine aH rfl ?_
                go_wp2
                obtain⟨V45,aaE⟩:=nmE (K1.alloc (.cells #[.string {data:=#[]},.string {data:=#[]},.string {data:=#[]},.int .i64 0,.int .i64 0,.int .i64 0,.slice none 0 0,.slice none 0 0] 117))
                have EH:=hid (Od.out.alloc #[.string {data:=#[]},.string {data:=#[]},.string {data:=#[]},.int .i64 0,.int .i64 0,.int .i64 0,.slice none 0 0,.slice none 0 0] 117)
                have Og:=hid (Oe.out.keep (aA.below (aj.alloc aB (.cells #[.string {data:=#[]},.string {data:=#[]},.string {data:=#[]},.int .i64 0,.int .i64 0,.int .i64 0,.slice none 0 0,.slice none 0 0] 117))))
                rw[<-aaE] at EH Og ⊢
                refine aC (RG b W2 [(K1.heap.size,#[.string {data:=#[]},.string {data:=#[]},.string {data:=#[]},.int .i64 0,.int .i64 0,.int .i64 0,.slice none 0 0,.slice none 0 0],117),(AY.heap.size,#[.int .i64 4,.int .i64 3,.int .i64 8,.int .i64 2],3)]) (fun _ h=>h.tail) EH.out ?_
                clear aaE Oe
                refine aL ?_
                try simp only[zDs,zDz]
                have hbl:=EH.out.blocks (K1.heap.size,#[.string {data:=#[]},.string {data:=#[]},.string {data:=#[]},.int .i64 0,.int .i64 0,.int .i64 0,.slice none 0 0,.slice none 0 0],117) (by simp)
                have EG:RG b W2 [(K1.heap.size,#[.string {data:=#[]},.string {data:=#[]},.string {data:=#[]},.int .i64 0,.int .i64 0,.int .i64 0,.slice none 0 0,.slice none 0 0],117)] V45:=EH.out.sub (fun y hy=>by obtain rfl:=zMs.1 hy;simp)
                have N9:=hid (EG.vg (.string ah.tu) (.string kd.name) (.string ah.nil) (.int .i64 1) (.int .i64 0) (.int .i64 h') (.slice none 0 0) (.slice none 0 0))
                have Oa:=hid (Og.out.keep (w':=(((((((V45.setCell ⟨K1.heap.size,0,none⟩ (.string ah.tu)).setCell ⟨K1.heap.size,1,none⟩ (.string kd.name)).setCell ⟨K1.heap.size,2,none⟩ (.string ah.nil)).setCell ⟨K1.heap.size,3,none⟩ (.int .i64 1)).setCell ⟨K1.heap.size,4,none⟩ (.int .i64 0)).setCell ⟨K1.heap.size,5,none⟩ (.int .i64 h')).setCell ⟨K1.heap.size,6,none⟩ (.slice none 0 0)).setCell ⟨K1.heap.size,7,none⟩ (.slice none 0 0)) (fun y hy _=>mR () (show y≠K1.heap.size by have:=mW.out;have:=hbl.1;omega) _ _ _ _ _ _ _ _))
                obtain⟨⟨y0,y1,y2,y3,y4,y5,y6,y7⟩,yz⟩:=dn hbl.2
                clear hbl EG EH Og
                go_wp2
                go_meet
                case rel=>exact⟨_,h',rfl,hid ⟨hx3,tB⟩,N9,Oa⟩
              case p43=>
                go_wp2
                obtain⟨ZJ,aaF⟩:=nmE (AY.alloc (.cells #[.string {data:=#[]},.string {data:=#[]},.string {data:=#[]},.int .i64 0,.int .i64 0,.int .i64 0,.slice none 0 0,.slice none 0 0] 117))
                have Oh:=hid (Oc.out.alloc #[.string {data:=#[]},.string {data:=#[]},.string {data:=#[]},.int .i64 0,.int .i64 0,.int .i64 0,.slice none 0 0,.slice none 0 0] 117)
                have Oi:=hid (J6.out.keep (aA.below (aj.alloc aB (.cells #[.string {data:=#[]},.string {data:=#[]},.string {data:=#[]},.int .i64 0,.int .i64 0,.int .i64 0,.slice none 0 0,.slice none 0 0] 117))))
                rw[<-aaF] at Oh Oi ⊢
                refine aC (RG b W2 [(AY.heap.size,#[.string {data:=#[]},.string {data:=#[]},.string {data:=#[]},.int .i64 0,.int .i64 0,.int .i64 0,.slice none 0 0,.slice none 0 0],117)]) (fun _ h=>h.tail) Oh.out ?_
                clear aaF J6
                refine aH rfl ?_
                go_wp2
                obtain⟨V47,aaG⟩:=nmE (ZJ.alloc (.cells #[.int .i64 4,.int .i64 3,.int .i64 8,.int .i64 2] 3))
                have EI:=hid (Oh.out.alloc #[.int .i64 4,.int .i64 3,.int .i64 8,.int .i64 2] 3)
                have Oj:=hid (Oi.out.keep (aA.below (aj.alloc aB (.cells #[.int .i64 4,.int .i64 3,.int .i64 8,.int .i64 2] 3))))
                rw[<-aaG] at EI Oj ⊢
                refine aC (RG b W2 [(ZJ.heap.size,#[.int .i64 4,.int .i64 3,.int .i64 8,.int .i64 2],3),(AY.heap.size,#[.string {data:=#[]},.string {data:=#[]},.string {data:=#[]},.int .i64 0,.int .i64 0,.int .i64 0,.slice none 0 0,.slice none 0 0],117)]) (fun _ h=>h.tail) EI.out ?_
                clear aaG Oi
                refine ai rfl ?_
                intro hne
                have hq:dG (some ⟨ZJ.heap.size,0,none⟩) 4:=fun _=>⟨_,_,rfl⟩
                go_big_quiet_step (fail)
                refine zWq ?_
                clear hne hq
                refine ai rfl ?_
                intro hne
                obtain⟨h',hx,hxc⟩:=pP [4,3,8,2] t' iy (by simpa using iz)
                have hx2:2<=h'/\h'<=8:=by simp only[zMc,zNn,or_false] at hx;omega
                obtain⟨hx3,tB⟩:=hx2
                have Dx:=hid hxc
                clear hx hxc
                have hq:∀x1:Held (RG b W2 [(ZJ.heap.size,#[.int .i64 4,.int .i64 3,.int .i64 8,.int .i64 2],3),(AY.heap.size,#[.string {data:=#[]},.string {data:=#[]},.string {data:=#[]},.int .i64 0,.int .i64 0,.int .i64 0,.slice none 0 0,.slice none 0 0],117)]),x1.1.cell? ⟨ZJ.heap.size,t'.toNat,none⟩=some (.int .i64 h'):=fun x1=>RG.cell x1 ZJ.heap.size #[.int .i64 4,.int .i64 3,.int .i64 8,.int .i64 2] 3 (by simp) Dx.out
                go_big_quiet_step (fail)
                refine zWq ?_
                clear hne hq
                refine ai rfl ?_
                intro hne
                go_big_quiet_step (fail)
                refine zWq ?_
                clear hne
                refine aL ?_
                try simp only[zDs,zDz]
                have hbl:=EI.out.blocks (AY.heap.size,#[.string {data:=#[]},.string {data:=#[]},.string {data:=#[]},.int .i64 0,.int .i64 0,.int .i64 0,.slice none 0 0,.slice none 0 0],117) (by simp)
                have EG:RG b W2 [(AY.heap.size,#[.string {data:=#[]},.string {data:=#[]},.string {data:=#[]},.int .i64 0,.int .i64 0,.int .i64 0,.slice none 0 0,.slice none 0 0],117)] V47:=EI.out.sub (fun y hy=>by obtain rfl:=zMs.1 hy;simp)
                have N9:=hid (EG.vg (.string ah.tu) (.string kd.name) (.string ah.nil) (.int .i64 1) (.int .i64 0) (.int .i64 h') (.slice none 0 0) (.slice none 0 0))
                have Oa:=hid (Oj.out.keep (w':=(((((((V47.setCell ⟨AY.heap.size,0,none⟩ (.string ah.tu)).setCell ⟨AY.heap.size,1,none⟩ (.string kd.name)).setCell ⟨AY.heap.size,2,none⟩ (.string ah.nil)).setCell ⟨AY.heap.size,3,none⟩ (.int .i64 1)).setCell ⟨AY.heap.size,4,none⟩ (.int .i64 0)).setCell ⟨AY.heap.size,5,none⟩ (.int .i64 h')).setCell ⟨AY.heap.size,6,none⟩ (.slice none 0 0)).setCell ⟨AY.heap.size,7,none⟩ (.slice none 0 0)) (fun y hy _=>mR () (show y≠AY.heap.size by have:=mW.out;have:=hbl.1;omega) _ _ _ _ _ _ _ _))
                obtain⟨⟨y0,y1,y2,y3,y4,y5,y6,y7⟩,yz⟩:=dn hbl.2
                clear hbl EG EI Oj
                go_wp2
                go_meet
                case rel=>exact⟨_,h',rfl,hid ⟨hx3,tB⟩,N9,Oa⟩
            case p33=>
              go_wp2
              obtain⟨WI,aaH⟩:=nmE (V0.alloc (.cells #[.string {data:=#[]},.string {data:=#[]},.string {data:=#[]},.int .i64 0,.int .i64 0,.int .i64 0,.slice none 0 0,.slice none 0 0] 117))
              have EJ:=hid (di.out.alloc #[.string {data:=#[]},.string {data:=#[]},.string {data:=#[]},.int .i64 0,.int .i64 0,.int .i64 0,.slice none 0 0,.slice none 0 0] 117)
              have EK:=hid (eB.out.keep (aA.below (aj.alloc aB (.cells #[.string {data:=#[]},.string {data:=#[]},.string {data:=#[]},.int .i64 0,.int .i64 0,.int .i64 0,.slice none 0 0,.slice none 0 0] 117))))
              rw[<-aaH] at EJ EK ⊢
              refine aC (RG b W2 [(V0.heap.size,#[.string {data:=#[]},.string {data:=#[]},.string {data:=#[]},.int .i64 0,.int .i64 0,.int .i64 0,.slice none 0 0,.slice none 0 0],117)]) (fun _ h=>h.tail) EJ.out ?_
              clear aaH eB
              refine dU rfl rfl ?p49 ?p50
              case p49=>
                go_wp2
                obtain⟨V51,aaI⟩:=nmE (WI.alloc (.cells #[.int .i64 4,.int .i64 3,.int .i64 8,.int .i64 2] 3))
                have J7:=hid (EJ.out.alloc #[.int .i64 4,.int .i64 3,.int .i64 8,.int .i64 2] 3)
                have Ol:=hid (EK.out.keep (aA.below (aj.alloc aB (.cells #[.int .i64 4,.int .i64 3,.int .i64 8,.int .i64 2] 3))))
                rw[<-aaI] at J7 Ol ⊢
                refine aC (RG b W2 [(WI.heap.size,#[.int .i64 4,.int .i64 3,.int .i64 8,.int .i64 2],3),(V0.heap.size,#[.string {data:=#[]},.string {data:=#[]},.string {data:=#[]},.int .i64 0,.int .i64 0,.int .i64 0,.slice none 0 0,.slice none 0 0],117)]) (fun _ h=>h.tail) J7.out ?_
                clear aaI EK
                refine aH rfl ?_
                go_wp2_with fail
                refine(aV 4 (by omega) (by omega) b (N+4) (by omega) _ Ol.out).mono ?_
                rintro e V52 ⟨t',rfl,iy,iz,hm',ht', -⟩
                have J8:=hid (J7.out.take mW.out ht')
                have UW:=hid hm'
                clear hm' ht' J7 Ol
                go_wp2
                refine aC (RG b W2 [(WI.heap.size,#[.int .i64 4,.int .i64 3,.int .i64 8,.int .i64 2],3),(V0.heap.size,#[.string {data:=#[]},.string {data:=#[]},.string {data:=#[]},.int .i64 0,.int .i64 0,.int .i64 0,.slice none 0 0,.slice none 0 0],117)]) (fun _ h=>h) J8.out ?_
                refine ai rfl ?_
                intro hne
                have hq:dG (some ⟨WI.heap.size,0,none⟩) 4:=fun _=>⟨_,_,rfl⟩
                go_big_quiet_step (fail)
                refine zWq ?_
                clear hne hq
                refine ai rfl ?_
                intro hne
                obtain⟨h',hx,hxc⟩:=pP [4,3,8,2] t' iy (by simpa using iz)
                have hx2:2<=h'/\h'<=8:=by simp only[zMc,zNn,or_false] at hx;omega
                obtain⟨hx3,tB⟩:=hx2
                have Dx:=hid hxc
                clear hx hxc
                have hq:∀x1:Held (RG b W2 [(WI.heap.size,#[.int .i64 4,.int .i64 3,.int .i64 8,.int .i64 2],3),(V0.heap.size,#[.string {data:=#[]},.string {data:=#[]},.string {data:=#[]},.int .i64 0,.int .i64 0,.int .i64 0,.slice none 0 0,.slice none 0 0],117)]),x1.1.cell? ⟨WI.heap.size,t'.toNat,none⟩=some (.int .i64 h'):=fun x1=>RG.cell x1 WI.heap.size #[.int .i64 4,.int .i64 3,.int .i64 8,.int .i64 2] 3 (by simp) Dx.out
                go_big_quiet_step (fail)
                refine zWq ?_
                clear hne hq
                refine ai rfl ?_
                intro hne
                go_big_quiet_step (fail)
                refine zWq ?_
                clear hne
                refine aL ?_
                try simp only[zDs,zDz]
                have hbl:=J8.out.blocks (V0.heap.size,#[.string {data:=#[]},.string {data:=#[]},.string {data:=#[]},.int .i64 0,.int .i64 0,.int .i64 0,.slice none 0 0,.slice none 0 0],117) (by simp)
                have EG:RG b W2 [(V0.heap.size,#[.string {data:=#[]},.string {data:=#[]},.string {data:=#[]},.int .i64 0,.int .i64 0,.int .i64 0,.slice none 0 0,.slice none 0 0],117)] V52:=J8.out.sub (fun y hy=>by obtain rfl:=zMs.1 hy;simp)
                have N9:=hid (EG.vg (.string ah.tu) (.string kd.name) (.string ah.nil) (.int .i64 1) (.int .i64 0) (.int .i64 h') (.slice none 0 0) (.slice none 0 0))
                have Oa:=hid (UW.out.keep (w':=(((((((V52.setCell ⟨V0.heap.size,0,none⟩ (.string ah.tu)).setCell ⟨V0.heap.size,1,none⟩ (.string kd.name)).setCell ⟨V0.heap.size,2,none⟩ (.string ah.nil)).setCell ⟨V0.heap.size,3,none⟩ (.int .i64 1)).setCell ⟨V0.heap.size,4,none⟩ (.int .i64 0)).setCell ⟨V0.heap.size,5,none⟩ (.int .i64 h')).setCell ⟨V0.heap.size,6,none⟩ (.slice none 0 0)).setCell ⟨V0.heap.size,7,none⟩ (.slice none 0 0)) (fun y hy _=>mR () (show y≠V0.heap.size by have:=mW.out;have:=hbl.1;omega) _ _ _ _ _ _ _ _))
                obtain⟨⟨y0,y1,y2,y3,y4,y5,y6,y7⟩,yz⟩:=dn hbl.2
                clear hbl EG J8 UW
                go_wp2
                go_meet
                case rel=>exact⟨_,h',rfl,hid ⟨hx3,tB⟩,N9,Oa⟩
              case p50=>
                go_wp2_with fail
                refine(aV 4 (by omega) (by omega) b (N+4) (by omega) _ EK.out).mono ?_
                rintro e ZK ⟨t',rfl,iy,iz,hm',ht', -⟩
                have UX:=hid (EJ.out.take mW.out ht')
                have UY:=hid hm'
                clear hm' ht' EJ EK
                go_wp2
                refine aC (RG b W2 [(V0.heap.size,#[.string {data:=#[]},.string {data:=#[]},.string {data:=#[]},.int .i64 0,.int .i64 0,.int .i64 0,.slice none 0 0,.slice none 0 0],117)]) (fun _ h=>h) UX.out ?_
                refine aH rfl ?_
                go_wp2
                obtain⟨V54,aaJ⟩:=nmE (ZK.alloc (.cells #[.int .i64 4,.int .i64 3,.int .i64 8,.int .i64 2] 3))
                have EL:=hid (UX.out.alloc #[.int .i64 4,.int .i64 3,.int .i64 8,.int .i64 2] 3)
                have Om:=hid (UY.out.keep (aA.below (aj.alloc aB (.cells #[.int .i64 4,.int .i64 3,.int .i64 8,.int .i64 2] 3))))
                rw[<-aaJ] at EL Om ⊢
                refine aC (RG b W2 [(ZK.heap.size,#[.int .i64 4,.int .i64 3,.int .i64 8,.int .i64 2],3),(V0.heap.size,#[.string {data:=#[]},.string {data:=#[]},.string {data:=#[]},.int .i64 0,.int .i64 0,.int .i64 0,.slice none 0 0,.slice none 0 0],117)]) (fun _ h=>h.tail) EL.out ?_
                clear aaJ UY
                refine ai rfl ?_
                intro hne
                have hq:dG (some ⟨ZK.heap.size,0,none⟩) 4:=fun _=>⟨_,_,rfl⟩
                go_big_quiet_step (fail)
                refine zWq ?_
                clear hne hq
                refine ai rfl ?_
                intro hne
                obtain⟨h',hx,hxc⟩:=pP [4,3,8,2] t' iy (by simpa using iz)
                have hx2:2<=h'/\h'<=8:=by simp only[zMc,zNn,or_false] at hx;omega
                obtain⟨hx3,tB⟩:=hx2
                have Dx:=hid hxc
                clear hx hxc
                have hq:∀x1:Held (RG b W2 [(ZK.heap.size,#[.int .i64 4,.int .i64 3,.int .i64 8,.int .i64 2],3),(V0.heap.size,#[.string {data:=#[]},.string {data:=#[]},.string {data:=#[]},.int .i64 0,.int .i64 0,.int .i64 0,.slice none 0 0,.slice none 0 0],117)]),x1.1.cell? ⟨ZK.heap.size,t'.toNat,none⟩=some (.int .i64 h'):=fun x1=>RG.cell x1 ZK.heap.size #[.int .i64 4,.int .i64 3,.int .i64 8,.int .i64 2] 3 (by simp) Dx.out
                go_big_quiet_step (fail)
                refine zWq ?_
                clear hne hq
                refine ai rfl ?_
                intro hne
                go_big_quiet_step (fail)
                refine zWq ?_
                clear hne
                refine aL ?_
                try simp only[zDs,zDz]
                have hbl:=EL.out.blocks (V0.heap.size,#[.string {data:=#[]},.string {data:=#[]},.string {data:=#[]},.int .i64 0,.int .i64 0,.int .i64 0,.slice none 0 0,.slice none 0 0],117) (by simp)
                have EG:RG b W2 [(V0.heap.size,#[.string {data:=#[]},.string {data:=#[]},.string {data:=#[]},.int .i64 0,.int .i64 0,.int .i64 0,.slice none 0 0,.slice none 0 0],117)] V54:=EL.out.sub (fun y hy=>by obtain rfl:=zMs.1 hy;simp)
                have N9:=hid (EG.vg (.string ah.tu) (.string kd.name) (.string ah.nil) (.int .i64 1) (.int .i64 0) (.int .i64 h') (.slice none 0 0) (.slice none 0 0))
                have Oa:=hid (Om.out.keep (w':=(((((((V54.setCell ⟨V0.heap.size,0,none⟩ (.string ah.tu)).setCell ⟨V0.heap.size,1,none⟩ (.string kd.name)).setCell ⟨V0.heap.size,2,none⟩ (.string ah.nil)).setCell ⟨V0.heap.size,3,none⟩ (.int .i64 1)).setCell ⟨V0.heap.size,4,none⟩ (.int .i64 0)).setCell ⟨V0.heap.size,5,none⟩ (.int .i64 h')).setCell ⟨V0.heap.size,6,none⟩ (.slice none 0 0)).setCell ⟨V0.heap.size,7,none⟩ (.slice none 0 0)) (fun y hy _=>mR () (show y≠V0.heap.size by have:=mW.out;have:=hbl.1;omega) _ _ _ _ _ _ _ _))
                obtain⟨⟨y0,y1,y2,y3,y4,y5,y6,y7⟩,yz⟩:=dn hbl.2
                clear hbl EG EL Om
                go_wp2
                go_meet
                case rel=>exact⟨_,h',rfl,hid ⟨hx3,tB⟩,N9,Oa⟩
          case rest=>
            obtain⟨F,h',rfl,HH,HR7,ZL⟩:=hcut
            go_wp2_with fail
            refine(aV 5 (by omega) (by omega) b (N+5) (by omega) _ ZL.out).mono ?_
            rintro e W3 ⟨t5,rfl,t5_lo,t5_hi,Ec,ht3, -⟩
            have WJ:=hid (HR7.out.take mW.out ht3)
            have Oo:=hid Ec
            clear Ec ht3 HR7 ZL c0
            go_upto_if 60 with fail
            go_cut [] from 61 to 61 (fun wx=>∃l':Int,Hid (0<=l'/\l'<=1)/\Hid (RG b W2 [(F,(bX (ah.AQ kd.name l' h') (.slice none 0 0) (.slice none 0 0)).toArray,117)] wx)/\Hid (gj wx b (N+6)))
            case first=>
              by_cases ze:t5=0
              · subst ze
                have hF:=WJ.out.blocks (F,(bX (ah.AQ kd.name 0 h') (.slice none 0 0) (.slice none 0 0)).toArray,117) (by simp)
                obtain⟨⟨-, -, -, -,y4, -, -, -⟩,yz⟩:=dn hF.2
                have yz4:=yz 4
                have Dy:=hid (WJ.out.store 4 (.int .i64 1))
                have UZ:=hid (Oo.out.keep (w':=W3.setCell ⟨F,4,none⟩ (.int .i64 1)) (fun x hx _=>zBh _ _ _ _ (show x≠F by have:=mW.out;have:=hF.1;omega)))
                clear hF yz WJ Oo
                go_wp2
                go_meet
                case rel=>exact⟨1,hid ⟨by omega,by omega⟩,Dy,UZ⟩
              · have gL:(t5==0)=false:=Dl ze
                clear ze
                go_wp2
                go_meet
                case rel=>exact⟨0,hid ⟨by omega,by omega⟩,WJ,Oo⟩
            case rest=>
              obtain⟨l',HL,Dy,UZ⟩:=hcut
              clear WJ Oo
              obtain⟨⟨y0,y1,y2,y3,y4,y5,y6,y7⟩, -⟩:=dn (Dy.out.blocks (F,(bX (ah.AQ kd.name l' h') (.slice none 0 0) (.slice none 0 0)).toArray,117) (by simp)).2
              have Ez:=hid (HOW.out.keep aT (aA.dM Dy.out.turn (fun x hx e=>by
                have hge:=oV.out.ge
                have hlb:=oV.out.lb
                rcases hx with hx|hx
                · have:K<x:=hx;omega
                · have:=(HOW.out.lt x hx).1;omega)))
              have hKW:=Dy.out.block hKb jq.out
              obtain⟨⟨-, -, -,e3⟩, -⟩:=aO hKW
              go_wp2_with (at_builtin;go_must (refine cD aT rfl _ _ rfl Tryz.jB rfl Ez.out (us:=bX (ah.AQ kd.name l' h') (.slice none 0 0) (.slice none 0 0)) rfl rfl rfl (ah.AQ kd.name l' h') (iH (f:=ah.AQ kd.name l' h') rfl rfl) (qD (f:=ah.AQ kd.name l' h')) (by simp) (by have:=(Dy.out.turn).size;have:=ay jq.out;omega) ?_))
              intro v' w' how' ht' hn'
              obtain⟨a',c',hv', -⟩:=how'.form
              simp only[zLa,List.length_cons,List.length_nil,Nat.zero_add,Nat.reduceAdd] at hv'
              subst hv'
              have oo:=hid (KS.app (oV.out) jq.out (fun x hx=>by have:=(HOW.out.lt x hx).1;omega) Dy.out.turn UZ.out (fun _ h=>by cases h) how' rfl ht' hn')
              have zl:=(ht'.block K (fun e=>by have:=(HOW.out.lt K e.symm).1;omega) (ay hKW)).trans hKW
              obtain⟨⟨-, -, -,d3⟩,dz⟩:=aO zl
              have NZ:=dz 3
              clear how' ht' hn' Ez zl dz hKW e3
              go_upto_region 11 with fail
              obtain⟨W4,hW4⟩:=nmE (w'.setCell ⟨K,3,none⟩ (.slice a' 2 c'))
              rw[<-hW4] at oo ⊢
              clear hW4 NZ d3
              obtain⟨-, -,d0,d1,d2,uf,d3,hfl⟩:=oo.out.NH.at hmn
              simp only[fC,fD,Nat.zero_add] at d0 d1 d2 d3
              rw[<-KZ.out] at d0 d1 d2 hfl
              have K3:=hid hfl
              clear hfl
              go_wp2_with fail
              refine(GH kd (kC kd uf) (fun x=>b<x) W4 ⟨uf,rfl,K3.out⟩ _ rfl).mono ?_
              rintro e W5 ⟨rfl,gL⟩
              have AZ:=hid (oo.out.grow (Turns.aM gL) (oo.out.mJ.keep (aA.below gL)))
              clear gL oo d0 d1 d2 d3 Dy UZ K3 jq HOW y0 y1 y2 y3 y4 y5 y6 y7
              obtain⟨cI,hcI⟩:=nmE (ah.JT kd.af4)
              rw[<-hcI]
              have HcI:=hid hcI
              clear hcI
              go_upto_region 12 with fail
              go_cut [79] from 73 to 79 (fun s wx=>∃bd:Bool,s=.bool bd/\Hid (bd=true->∃ci,∃h:ci<kd.af4.length,cI=(ci:Int)/\ah.tv kd.af4[ci])/\Hid (KS S b (N+7) B w none (.slice (some ⟨g,0,none⟩) ks.length c) ks K (ah.aU ks.length) lo hi ([ah.uT x]++[ah.AQ kd.name l' h']) wx))
              case first=>
                rcases ah.gE ah.rD kd.af4 with⟨hc1, -⟩|⟨ci,hci,hc1,hc2, -⟩
                · have oq:cI= -1:=HcI.out.trans hc1
                  subst oq
                  clear hc1
                  go_wp2
                  go_meet
                  case rel=>exact⟨false,rfl,hid (fun h=>by cases h),hid (AZ.out.more (by omega))⟩
                · have oq:cI=(ci:Int):=HcI.out.trans hc1
                  subst oq
                  have HCI:Hid (∃cj,∃h:cj<kd.af4.length,(ci:Int)=(cj:Int)/\ah.tv kd.af4[cj]):=hid ⟨ci,hci,rfl,RM hc2⟩
                  clear hc1 hc2
                  have Oq:(0:Int)<=ci:=by omega
                  go_wp2_with fail
                  refine(aV 2 (by omega) (by omega) b (N+6) (by omega) _ AZ.out.mJ).mono ?_
                  rintro e W6 ⟨t6,rfl,Ot,Ou,AV,pM, -⟩
                  have EM:=hid (AZ.out.grow pM AV)
                  clear AV pM AZ
                  go_wp2
                  go_meet
                  case rel=>exact⟨_,rfl,hid (fun _=>HCI.out),EM⟩
              case rest=>
               obtain⟨bd,rfl,WK,EM⟩:=hcut;clear AZ HcI;go_upto_if 79 with fail;go_cut [] from 80 to 94 (fun wx=>∃s,Hid (ah.oe kd s)/\Hid (KS S b (N+7) B w none (.slice (some ⟨g,0,none⟩) ks.length c) ks K (ah.aU ks.length) lo hi ([ah.uT x]++[ah.AQ kd.name l' h']++s) wx))
               case first=>
                  cases bd with
                  |false=>
                    go_wp2
                    go_meet
                    case rel=>exact⟨[],hid (.inl rfl),hid (by rw[List.append_nil];exact EM.out)⟩
                  |true=>
                    obtain⟨ci,hci,hce,hcc⟩:=WK.out rfl
                    subst hce
                    have HSM:Hid (ah.oe kd [ah.oM kd.af4[ci].name]):=hid (.inr ⟨ci,hci,hcc,rfl⟩)
                    clear hcc WK
                    have Oq:(0:Int)<=ci:=by omega
                    obtain⟨av,nv,cv,hn0,hbx,vh, -⟩:=EM.out.box
                    have WH:nv=2:=hn0
                    subst WH
                    have jq:=hid hbx
                    have HOW:=hid vh
                    obtain⟨⟨-, -, -,b3⟩, -⟩:=aO hbx
                    have mW:Hid (b<wc.heap.size):=hid (by have:=EM.out.lb;have:=EM.out.turn.size;omega)
                    obtain⟨-, -, -, -, -,uf,c3,hfl⟩:=EM.out.NH.at hmn
                    simp only[fC,fD,Nat.zero_add] at c3
                    rw[<-KZ.out] at hfl
                    obtain⟨au,cu,rfl,hsk2, -, -⟩:=hfl.form
                    obtain⟨-,hbu,c10, -⟩:=hfl.at hci
                    have hbu2:aY au≠b:=by omega
                    have hci1:(ci:Int)<kd.af4.length:=by omega
                    generalize kd.af4[ci].name=M7 at*
                    clear hn0 hbx vh hfl hbu
                    go_upto_region 13 with fail
                    have di:=hid (RG.start b wc)
                    have eB:=hid (EM.out.mJ.keep (aA.below (af5 aj 1)))
                    obtain⟨V0,rF⟩:=nmE (wc.drewN 1)
                    refine bU 13 (.quiet 0 (.quiet 1 (.quiet 2 (.quiet 3 (.quiet 4 (.quiet 5 (.quiet 6 (.quiet 7 (.quiet 8 (.quiet 9 (.quiet 10 (.quiet 11 (.one 12 .done))))))))))))) (RG b wc []) mxT (by kernel_rfl) di.out ?_
                    rw[<-rF] at di eB ⊢
                    clear rF
                    refine ai rfl ?_
                    intro hne
                    go_big_quiet_step (fail)
                    refine zWq ?_
                    clear hne
                    refine ai rfl ?_
                    intro hne
                    have hq:∀xh:Held (RG b wc []),xh.1.cell? ⟨K,3,none⟩=some (.slice av 2 cv):=fun xh=>RG.old xh hKb b3
                    go_big_quiet_step (fail)
                    refine zWq ?_
                    clear hne hq
                    iterate 4
                      refine ai rfl ?_
                      intro hne
                      go_big_quiet_step (fail)
                      refine zWq ?_
                      clear hne
                    refine ai rfl ?_
                    intro hne
                    have hq:∀xh:Held (RG b wc []),xh.1.cell? ⟨g,m*4+3,none⟩=some (.slice au kd.af4.length cu):=fun xh=>RG.old xh hgb c3
                    go_big_quiet_step (fail)
                    refine zWq ?_
                    clear hne hq
                    iterate 3
                      refine ai rfl ?_
                      intro hne
                      go_big_quiet_step (fail)
                      refine zWq ?_
                      clear hne
                    refine ai rfl ?_
                    intro hne
                    have hq:∀xh:Held (RG b wc []),xh.1.cell? ⟨aY au,bC au+ci*8,none⟩=some (.string M7):=fun xh=>RG.old xh hbu2 c10
                    go_big_quiet_step (fail)
                    refine zWq ?_
                    clear hne hq
                    refine ai rfl ?_
                    intro hne
                    go_big_quiet_step (fail)
                    refine zWq ?_
                    clear hne
                    refine aH rfl ?_
                    go_wp2
                    refine aC (RG b wc []) (fun _ h=>h) (di.out.alloc _ _).tail ?_
                    refine aL ?_
                    try simp only[zDs,zDz]
                    have Ez:=hid (HOW.out.keep aT (aA.dM di.out.turn (fun x hx e=>by
                      have hge:=EM.out.ge
                      have hlb:=EM.out.lb
                      rcases hx with hx|hx
                      · have:K<x:=hx;omega
                      · have:=(HOW.out.lt x hx).1;omega)))
                    go_wp2_with (at_builtin;go_must (refine cD aT rfl _ _ rfl Tryz.jB rfl Ez.out (us:=bX (ah.oM M7) (.slice none 0 0) (.slice none 0 0)) rfl rfl rfl (ah.oM M7) (iH (f:=ah.oM M7) rfl rfl) (qD (f:=ah.oM M7)) (by simp) (by have:=(di.out.turn).size;have:=ay jq.out;omega) ?_))
                    intro v' w' how' ht' hn'
                    obtain⟨a',c',hv', -⟩:=how'.form
                    simp only[zLa,List.length_cons,List.length_nil,Nat.zero_add,Nat.reduceAdd] at hv'
                    subst hv'
                    have oo:=hid (KS.app (EM.out) jq.out (fun x hx=>by have:=(HOW.out.lt x hx).1;omega) di.out.turn eB.out (fun _ h=>by cases h) how' rfl ht' hn')
                    have zl:=(ht'.block K (fun e=>by have:=(HOW.out.lt K e.symm).1;omega) (ay (di.out.block hKb jq.out))).trans (di.out.block hKb jq.out)
                    obtain⟨⟨-, -, -,d3⟩,dz⟩:=aO zl
                    have NZ:=dz 3
                    clear how' ht' hn' Ez zl dz di eB
                    go_wp2
                    go_meet
                    case rel=>exact⟨_,HSM,oo⟩
               case rest=>
                 obtain⟨s,tE,yD⟩:=hcut
                 clear EM
                 obtain⟨-, -, -, -, -,uf,d3,hfl⟩:=yD.out.NH.at hmn
                 simp only[fC,fD,Nat.zero_add] at d3
                 rw[<-KZ.out] at hfl
                 have K3:=hid hfl
                 clear hfl
                 go_upto_region 14 with fail
                 go_cut [106] from 95 to 106 (fun q wx=>∃bd:Bool,q=.bool bd/\Hid (bd=true->∀f∈kd.af4,f.name≠ah.eA)/\Hid (KS S b (N+8) B w none (.slice (some ⟨g,0,none⟩) ks.length c) ks K (ah.aU ks.length) lo hi ([ah.uT x]++[ah.AQ kd.name l' h']++s) wx))
                 case first=>
                   go_wp2_with fail
                   refine(yC kd.af4 ah.eA uf (fun x=>b<x) wc K3.out).mono ?_
                   rintro e w' ⟨rfl,rfl⟩
                   obtain⟨hI,RP⟩:=nmE (ah.Bd kd.af4 ah.eA)
                   rw[<-RP]
                   rcases ah.gE (fun f:ah.cA=>decide (f.name=ah.eA)) kd.af4 with⟨hc1,hc2⟩|⟨ci,hci,hc1,hc2, -⟩
                   · have oq:hI= -1:=RP.trans hc1
                     subst oq
                     have U0:Hid (∀f∈kd.af4,f.name≠ah.eA):=hid (fun f hf=>by
                       obtain⟨j,hj,rfl⟩:=List.getElem_of_mem hf
                       simpa using hc2 j hj)
                     clear hc1 hc2 RP
                     go_wp2_with fail
                     refine(aV 3 (by omega) (by omega) b (N+7) (by omega) _ yD.out.mJ).mono ?_
                     rintro e W6 ⟨t6,rfl,Ot,Ou,AV,pM, -⟩
                     have Dz:=hid (yD.out.grow pM AV)
                     clear AV pM yD K3 d3
                     go_wp2
                     go_meet
                     case rel=>exact⟨_,rfl,hid (fun _=>U0.out),Dz⟩
                   · have oq:hI=(ci:Int):=RP.trans hc1
                     subst oq
                     clear hc1 hc2 RP
                     have Oq:¬(ci:Int)<0:=by omega
                     go_wp2
                     go_meet
                     case rel=>exact⟨false,rfl,hid (fun h=>by cases h),hid (yD.out.more (by omega))⟩
                 case rest=>
                  obtain⟨bd,rfl,U0,Dz⟩:=hcut;clear yD K3 d3;go_upto_if 106 with fail;go_cut [] from 11 to 135 (fun wx=>∃G ks' p,Hid (ks'.length=ks.length)/\Hid (ah.uZ ks m (ah.aU ks.length) ks' p)/\Hid (KS S b (N+20) B w G (.slice (some ⟨g,0,none⟩) ks.length c) ks' K (ah.aU ks.length) lo hi (([ah.uT x]++[ah.AQ kd.name l' h']++s)++p) wx))
                  case first=>
                    cases bd with
                    |false=>
                      go_wp2
                      go_meet
                      case rel=>exact⟨none,ks,[],hid rfl,hid (.inl ⟨rfl,rfl⟩),hid (by rw[List.append_nil];exact Dz.out.more (by omega))⟩
                    |true=>
                      have WL:=hid (U0.out rfl)
                      clear U0
                      go_wp2_with fail
                      refine(aV 3 (by omega) (by omega) b (N+8) (by omega) _ Dz.out.mJ).mono ?_
                      rintro e W6 ⟨t6,rfl,Ot,Ou,AV,pM, -⟩
                      have DA:=hid (Dz.out.grow pM AV)
                      clear AV pM Dz
                      go_upto_region 16 with fail
                      obtain⟨fs,hfs⟩:=nmE ([ah.uT x]++[ah.AQ kd.name l' h']++s)
                      rw[<-hfs] at DA
                      have hs1:fs.length<=3:=by
                        have:=tE.out.len
                        rw[hfs]
                        simp
                        omega
                      have Rn:=hid hfs
                      clear hfs
                      obtain⟨av,nv,cv,hn0,hbx,vh, -⟩:=DA.out.box
                      have ZM:=hid hn0
                      clear hn0
                      have jq:=hid hbx
                      have HOW:=hid vh
                      obtain⟨⟨-, -, -,b3⟩, -⟩:=aO hbx
                      have mW:Hid (b<W6.heap.size):=hid (by have:=DA.out.lb;have:=DA.out.turn.size;omega)
                      clear hbx vh
                      have di:=hid (RG.start b W6)
                      have eB:=hid (DA.out.mJ.keep (aA.below (af5 aj 1)))
                      obtain⟨V0,rF⟩:=nmE (W6.drewN 1)
                      refine bU 9 (.quiet 0 (.quiet 1 (.quiet 2 (.quiet 3 (.quiet 4 (.one 5 (.quiet 6 (.quiet 7 (.one 8 .done))))))))) (RG b W6 []) mxT (by kernel_rfl) di.out ?_
                      rw[<-rF] at di eB ⊢
                      clear rF
                      refine ai rfl ?_
                      intro hne
                      go_big_quiet_step (fail)
                      refine zWq ?_
                      clear hne
                      refine ai rfl ?_
                      intro hne
                      have hq:∀xh:Held (RG b W6 []),xh.1.cell? ⟨K,3,none⟩=some (.slice av nv cv):=fun xh=>RG.old xh hKb b3
                      go_big_quiet_step (fail)
                      refine zWq ?_
                      clear hne hq
                      iterate 3
                        refine ai rfl ?_
                        intro hne
                        go_big_quiet_step (fail)
                        refine zWq ?_
                        clear hne
                      refine aH rfl ?_
                      go_wp2_with fail
                      refine(aV 8 (by omega) (by omega) b (N+9) (by omega) _ eB.out).mono ?_
                      rintro e V55 ⟨t',rfl,iy,iz,hm',ht', -⟩
                      have wN:=hid (di.out.take mW.out ht')
                      have U1:=hid hm'
                      clear hm' ht' di eB
                      go_wp2
                      refine aC (RG b W6 []) (fun _ h=>h) wN.out ?_
                      refine ai rfl ?_
                      intro hne
                      have hq:IntKind.i64.wrap (t6+t')=t6+t':=IntWalk.i64_in _ (by omega)
                      go_big_quiet_step (fail)
                      refine zWq ?_
                      clear hne hq
                      refine ai rfl ?_
                      intro hne
                      go_big_quiet_step (fail)
                      refine zWq ?_
                      clear hne
                      refine aH rfl ?_
                      go_wp2
                      refine aC (RG b W6 []) (fun _ h=>h) (wN.out.alloc _ _).tail ?_
                      refine aL ?_
                      try simp only[zDs,zDz]
                      have Ez:=hid (HOW.out.keep aT (aA.dM wN.out.turn (fun x hx e=>by
                        have hge:=DA.out.ge
                        have hlb:=DA.out.lb
                        rcases hx with hx|hx
                        · have:K<x:=hx;omega
                        · have:=(HOW.out.lt x hx).1;omega)))
                      go_wp2_with (at_builtin;go_must (refine cD aT rfl _ _ rfl Tryz.jB rfl Ez.out (us:=bX (ah.kB t6 (t6+t')) (.slice none 0 0) (.slice none 0 0)) rfl rfl rfl (ah.kB t6 (t6+t')) (iH (f:=ah.kB t6 (t6+t')) rfl rfl) (qD (f:=ah.kB t6 (t6+t'))) (by omega) (by have:=(wN.out.turn).size;have:=ay jq.out;omega) ?_))
                      intro v' w' how' ht' hn'
                      obtain⟨a',c',hv', -⟩:=how'.form
                      obtain⟨n',hnn⟩:=nmE ((fs++[ah.kB t6 (t6+t')]).length)
                      rw[<-hnn] at hv'
                      subst hv'
                      have oo:=hid (KS.app (DA.out) jq.out (fun x hx=>by have:=(HOW.out.lt x hx).1;omega) wN.out.turn U1.out (fun _ h=>by cases h) how' hnn ht' hn')
                      have zl:=(ht'.block K (fun e=>by have:=(HOW.out.lt K e.symm).1;omega) (ay (wN.out.block hKb jq.out))).trans (wN.out.block hKb jq.out)
                      obtain⟨⟨-, -, -,d3⟩,dz⟩:=aO zl
                      have NZ:=dz 3
                      have HNN:=hid hnn
                      clear how' ht' hn' Ez zl dz wN U1 hnn
                      go_upto_region 17 with fail
                      obtain⟨W8,RQ⟩:=nmE (w'.setCell ⟨K,3,none⟩ (.slice a' n' c'))
                      rw[<-RQ] at oo ⊢
                      clear RQ NZ d3 jq HOW b3
                      have GK:=oo
                      clear oo DA ZM HNN
                      obtain⟨us, -,aaK,EN⟩:=GK.out.own.at hmn
                      obtain⟨uf,rfl,A1⟩:=EN
                      have c3:=aaK 3 uf rfl
                      rw[<-KZ.out] at A1
                      obtain⟨au,cu,rfl, -, -, -⟩:=A1.form
                      have ZN:=hid A1
                      obtain⟨av,nv,cv, -,hbx, -, -⟩:=GK.out.box
                      obtain⟨⟨b0, -, -, -⟩, -⟩:=aO hbx
                      have U2:Hid (w.heap.size<=W8.heap.size):=hid GK.out.turn.size
                      have mW:Hid (b<W8.heap.size):=hid (by have:=GK.out.lb;have:=GK.out.turn.size;omega)
                      have hbg:g≠b:=hgb
                      have hfl10:kd.af4.length<=1000000:=HKF.out _ (by rw[KZ.out];exact zGm _)
                      clear aaK A1 hbx
                      have di:=hid (RG.start b W8)
                      have eB:=hid (GK.out.mJ.keep (aA.below (af5 aj 1)))
                      obtain⟨V0,rF⟩:=nmE (W8.drewN 1)
                      refine bU 14 (.quiet 0 (.quiet 1 (.quiet 3 (.quiet 4 (.quiet 5 (.quiet 6 (.quiet 7 (.quiet 9 (.quiet 10 (.quiet 11 (.two 2 12 (.two 8 12 (.one 12 (.one 13 .done)) (.one 8 (.one 13 .done))) (.one 2 (.one 8 (.one 13 .done)))))))))))))) (RG b W8 []) mxT (by kernel_rfl) di.out ?_
                      rw[<-rF] at di eB ⊢
                      clear rF
                      iterate 6
                        refine ai rfl ?_
                        intro hne
                        go_big_quiet_step (fail)
                        refine zWq ?_
                        clear hne
                      refine ai rfl ?_
                      intro hne
                      have hq:∀xh:Held (RG b W8 []),xh.1.cell? ⟨g,m*4+3,none⟩=some (.slice au kd.af4.length cu):=fun xh=>RG.old xh hgb c3
                      go_big_quiet_step (fail)
                      refine zWq ?_
                      clear hne hq
                      refine ai rfl ?_
                      intro hne
                      go_big_quiet_step (fail)
                      refine zWq ?_
                      clear hne
                      refine ai rfl ?_
                      intro hne
                      have hq:∀xh:Held (RG b W8 []),xh.1.cell? ⟨K,0,none⟩=some (.string (ah.aU ks.length)):=fun xh=>RG.old xh hKb b0
                      go_big_quiet_step (fail)
                      refine zWq ?_
                      clear hne hq
                      refine ai rfl ?_
                      intro hne
                      go_big_quiet_step (fail)
                      refine zWq ?_
                      clear hne
                      refine dU rfl rfl ?p56 ?p57
                      case p56=>
                        go_wp2
                        obtain⟨Gc,aaL⟩:=nmE (V0.alloc (.cells #[] 117))
                        have zm:=hid (di.out.alloc #[] 117).tail
                        have tF:Hid (W8.heap.size<=V0.heap.size/\(V0.alloc (.cells #[] 117)).heap[V0.heap.size]?=some (.cells #[] 117 (0,0))):=hid ⟨di.out.turn.size,aD V0 _ rfl⟩
                        have EO:=hid (eB.out.keep (aA.below (aj.alloc aB (.cells #[] 117))))
                        rw[<-aaL] at zm EO tF ⊢
                        refine aC (RG b W8 []) (fun _ h=>h) zm.out ?_
                        clear aaL eB
                        refine dU rfl rfl ?p59 ?p60
                        case p59=>
                          have Gd:=hid (dh.keep (S:=fun x=>SG b S w none x/\x≠g) (dA.mono (S':=fun x=>SG b S w none x/\x≠g) (by omega) aT ZN.out (fun _ _ h=>h)) (aA.dM zm.out.turn (fun x hx e=>by have:=(SG.lt hx.1).1;omega)))
                          go_wp2_with (at_builtin;go_must (refine gq (S:=fun x=>SG b S w none x/\x≠g) (B:=W8.heap.size) aT rfl _ _ rfl Tryz.jB rfl (cG.yR tF.out.2 tF.out.1) rfl Gd.out (fun x hlt hx=>⟨hx,fun e=>by have:=SG.lt hx.1;have h9:x=V0.heap.size:=zSi e;have:=tF.out.1;have:=U2.out;omega⟩) (fun us y h=>kD h) (by simp;omega) (by have:=(zm.out.turn).size;omega) ?_))
                          intro v8 Ov zn A4 U3
                          obtain⟨a8,c8,hv8, -⟩:=zn.form
                          subst hv8
                          have U4:Hid (RG b W8 [] Ov):=hid ⟨(zm.out.turn).into A4 (fun x hx e=>by have h9:x=V0.heap.size:=zSi e;have:=tF.out.1;omega),fun y hy=>absurd hy (by simp)⟩
                          have U5:=hid (EO.out.keep (A4.keep (fun x hx e=>by have h9:x=V0.heap.size:=zSi e;have:=tF.out.1;have:=mW.out;omega)))
                          have Bg:=hid zn
                          clear zn A4 U3 Gd zm EO tF
                          go_wp2
                          refine aC (RG b W8 []) (fun _ h=>h) U4.out ?_
                          refine aH rfl ?_
                          go_wp2
                          obtain⟨V62,WM⟩:=nmE (Ov.alloc (.cells #[.string {data:=#[116,111,116,97,108]},.string (ah.aU ks.length),.string {data:=#[]},.int .i64 6,.int .i64 0,.int .i64 0,.slice none 0 0,.slice none 0 0] 117))
                          have Ch:=hid (U4.out.alloc #[.string {data:=#[116,111,116,97,108]},.string (ah.aU ks.length),.string {data:=#[]},.int .i64 6,.int .i64 0,.int .i64 0,.slice none 0 0,.slice none 0 0] 117)
                          have Ow:=hid (U5.out.keep (aA.below (aj.alloc aB (.cells #[.string {data:=#[116,111,116,97,108]},.string (ah.aU ks.length),.string {data:=#[]},.int .i64 6,.int .i64 0,.int .i64 0,.slice none 0 0,.slice none 0 0] 117))))
                          rw[<-WM] at Ch Ow ⊢
                          refine aC (RG b W8 [(Ov.heap.size,#[.string {data:=#[116,111,116,97,108]},.string (ah.aU ks.length),.string {data:=#[]},.int .i64 6,.int .i64 0,.int .i64 0,.slice none 0 0,.slice none 0 0],117)]) (fun _ h=>h.tail) Ch.out ?_
                          have HO8x:Hid (∀x,(Value.slice a8 kd.af4.length c8).ownBlock=some x->x<Ov.heap.size):=hid (fun x hx=>(Bg.out.lt x hx).2)
                          have Bg:=hid (Bg.out.below aT (show BL Ov V62 by rw[WM];exact aj.alloc aB _))
                          clear WM U5
                          refine aH rfl ?_
                          have U6:Hid (∀x,some x=(Value.slice a8 kd.af4.length c8).ownBlock->x≠Ov.heap.size):=hid (fun x e h9=>by have h1:=(HO8x.out x e.symm);omega)
                          have xW:=(Ch.out.blocks (Ov.heap.size,#[.string {data:=#[116,111,116,97,108]},.string (ah.aU ks.length),.string {data:=#[]},.int .i64 6,.int .i64 0,.int .i64 0,.slice none 0 0,.slice none 0 0],117) (by simp))
                          go_wp2_with (at_builtin;go_must (refine gq (T:=fun _=>False) (T':=yQ) aT rfl _ _ rfl Tryz.jB rfl Bg.out rfl (pK (f:=ah.fJ (ah.aU ks.length)) xW.2 rfl rfl trivial) (fun x hlt hx=>hx.elim) (fun us y h=>kD h) (by simp;omega) (by have:=(Ch.out.turn).size;omega) ?_))
                          intro v9 V63 tG vm hn9
                          have J9:=hid ((Ch.out.turn).into vm (fun x hx e=>by have:=(Bg.out.lt x e.symm).1;omega))
                          have aaM:Hid (RG b W8 [(Ov.heap.size,#[.string {data:=#[116,111,116,97,108]},.string (ah.aU ks.length),.string {data:=#[]},.int .i64 6,.int .i64 0,.int .i64 0,.slice none 0 0,.slice none 0 0],117)] V63):=hid ⟨J9.out,fun y hy=>by obtain rfl:=zMs.1 hy;exact⟨xW.1,(vm.block (Ov.heap.size) (fun e=>U6.out _ e rfl) (ay xW.2)).trans xW.2⟩⟩
                          have U7:=hid (Ow.out.keep (vm.keep (fun x hx e=>by have:=(Bg.out.lt x e.symm).1;have:=mW.out;omega)))
                          obtain⟨a9,c9,U8, -⟩:=tG.form
                          have U9:(kd.af4++[ah.fJ (ah.aU ks.length)]).length=kd.af4.length+1:=by simp
                          rw[U9] at U8
                          subst U8
                          obtain⟨g2,hag, -⟩:=tG.sW (by simp)
                          subst hag
                          have Va:=hid tG
                          clear tG vm hn9 xW Bg Ch Ow U9 U6
                          go_wp2
                          refine aC (RG b W8 [(Ov.heap.size,#[.string {data:=#[116,111,116,97,108]},.string (ah.aU ks.length),.string {data:=#[]},.int .i64 6,.int .i64 0,.int .i64 0,.slice none 0 0,.slice none 0 0],117)]) (fun _ h=>h) aaM.out ?_
                          refine aL ?_
                          try simp only[zDs,zDz]
                          obtain⟨z3,zf⟩:(∃z,V63.cell? ⟨g,m*4+3,none⟩=some z)/\V63.frozen? ⟨g,m*4+3,none⟩=false:=by
                            have hgl:=(GK.out.own.lt g rfl).2
                            have e1:=J9.out.block g (by omega) hgl
                            exact⟨⟨_,(World.cell?_of_block (w:=W8) (a:=⟨g,m*4+3,none⟩) e1).trans c3⟩,by simp only[World.frozen?,e1];exact GK.out.own.free _⟩
                          obtain⟨z3,A5⟩:=z3
                          have Vb:=GK.out.put J9.out U7.out hmn Va.out (kd':=ah.dJ kd (ah.aU ks.length)) (by rw[<-KZ.out];rfl)
                          have Ox:=hid Vb
                          clear Vb J9 U7 Va
                          go_wp2
                          go_meet
                          case rel=>exact⟨some g2,ks.set m (ah.dJ kd (ah.aU ks.length)),[ah.kB t6 (t6+t')],hid (by simp),hid (.inr ⟨t6,t6+t',by omega,by omega,by omega,rfl,by rw[<-UO.out];exact WL.out,by rw[<-UO.out]⟩),hid (by rw[<-Rn.out];have h9:=Ox.out;exact h9.more (by omega))⟩
                        case p60=>
                          go_wp2
                          obtain⟨V64,WN⟩:=nmE (Gc.alloc (.cells #[.string {data:=#[116,111,116,97,108]},.string (ah.aU ks.length),.string {data:=#[]},.int .i64 6,.int .i64 0,.int .i64 0,.slice none 0 0,.slice none 0 0] 117))
                          have pQ:=hid (zm.out.alloc #[.string {data:=#[116,111,116,97,108]},.string (ah.aU ks.length),.string {data:=#[]},.int .i64 6,.int .i64 0,.int .i64 0,.slice none 0 0,.slice none 0 0] 117)
                          have Oy:=hid (EO.out.keep (aA.below (aj.alloc aB (.cells #[.string {data:=#[116,111,116,97,108]},.string (ah.aU ks.length),.string {data:=#[]},.int .i64 6,.int .i64 0,.int .i64 0,.slice none 0 0,.slice none 0 0] 117))))
                          rw[<-WN] at pQ Oy ⊢
                          refine aC (RG b W8 [(Gc.heap.size,#[.string {data:=#[116,111,116,97,108]},.string (ah.aU ks.length),.string {data:=#[]},.int .i64 6,.int .i64 0,.int .i64 0,.slice none 0 0,.slice none 0 0],117)]) (fun _ h=>h.tail) pQ.out ?_
                          have tF:Hid (W8.heap.size<=V0.heap.size/\V64.heap[V0.heap.size]?=some (.cells #[] 117 (0,0))):=hid ⟨tF.out.1,by rw[WN];exact aG _ tF.out.2⟩
                          clear WN EO
                          refine aH rfl ?_
                          have Oz:Hid (Gc.heap.size≠V0.heap.size):=hid (fun e=>by have h1:=(pQ.out.blocks (Gc.heap.size,#[.string {data:=#[116,111,116,97,108]},.string (ah.aU ks.length),.string {data:=#[]},.int .i64 6,.int .i64 0,.int .i64 0,.slice none 0 0,.slice none 0 0],117) (by simp)).2;rw[e,tF.out.2] at h1;cases h1)
                          have Gd:=hid (dh.keep (S:=fun x=>SG b S w none x/\x≠g) (dA.mono (S':=fun x=>SG b S w none x/\x≠g) (by omega) aT ZN.out (fun _ _ h=>h)) (aA.dM pQ.out.turn (fun x hx e=>by have:=(SG.lt hx.1).1;omega)))
                          go_wp2_with (at_builtin;go_must (refine gq (S:=fun x=>SG b S w none x/\x≠g) (B:=W8.heap.size) aT rfl _ _ rfl Tryz.jB rfl (cG.yR tF.out.2 tF.out.1) rfl Gd.out (fun x hlt hx=>⟨hx,fun e=>by have:=SG.lt hx.1;have h9:x=V0.heap.size:=zSi e;have:=tF.out.1;have:=U2.out;omega⟩) (fun us y h=>kD h) (by simp;omega) (by have:=(pQ.out.turn).size;omega) ?_))
                          intro v8 V65 zn A4 U3
                          obtain⟨a8,c8,hv8, -⟩:=zn.form
                          subst hv8
                          have EP:Hid (RG b W8 [(Gc.heap.size,#[.string {data:=#[116,111,116,97,108]},.string (ah.aU ks.length),.string {data:=#[]},.int .i64 6,.int .i64 0,.int .i64 0,.slice none 0 0,.slice none 0 0],117)] V65):=hid ⟨(pQ.out.turn).into A4 (fun x hx e=>by have h9:x=V0.heap.size:=zSi e;have:=tF.out.1;omega),fun y hy=>by obtain rfl:=zMs.1 hy;exact⟨(pQ.out.blocks _ (by simp)).1,(A4.block (Gc.heap.size) (fun e=>by have h9:Gc.heap.size=V0.heap.size:=zSi e;have h10:=Oz.out;omega) (ay (pQ.out.blocks (Gc.heap.size,#[.string {data:=#[116,111,116,97,108]},.string (ah.aU ks.length),.string {data:=#[]},.int .i64 6,.int .i64 0,.int .i64 0,.slice none 0 0,.slice none 0 0],117) (by simp)).2)).trans (pQ.out.blocks (Gc.heap.size,#[.string {data:=#[116,111,116,97,108]},.string (ah.aU ks.length),.string {data:=#[]},.int .i64 6,.int .i64 0,.int .i64 0,.slice none 0 0,.slice none 0 0],117) (by simp)).2⟩⟩
                          have Vc:=hid (Oy.out.keep (A4.keep (fun x hx e=>by have h9:x=V0.heap.size:=zSi e;have:=tF.out.1;have:=mW.out;omega)))
                          have U6:Hid (∀x,some x=(Value.slice a8 kd.af4.length c8).ownBlock->x≠Gc.heap.size):=hid (fun x e h9=>U3.elim (fun h1=>by rw[<-e] at h1;have h3:x=V0.heap.size:=zSi h1;have h10:=Oz.out;omega) (fun⟨y,h1,h2⟩=>by rw[<-e] at h1;have h3:=zSi h1;have h4:=ay (pQ.out.blocks (Gc.heap.size,#[.string {data:=#[116,111,116,97,108]},.string (ah.aU ks.length),.string {data:=#[]},.int .i64 6,.int .i64 0,.int .i64 0,.slice none 0 0,.slice none 0 0],117) (by simp)).2;omega))
                          have Bg:=hid zn
                          clear zn A4 U3 Gd pQ Oy tF
                          go_wp2
                          refine aC (RG b W8 [(Gc.heap.size,#[.string {data:=#[116,111,116,97,108]},.string (ah.aU ks.length),.string {data:=#[]},.int .i64 6,.int .i64 0,.int .i64 0,.slice none 0 0,.slice none 0 0],117)]) (fun _ h=>h) EP.out ?_
                          refine aH rfl ?_
                          have xW:=(EP.out.blocks (Gc.heap.size,#[.string {data:=#[116,111,116,97,108]},.string (ah.aU ks.length),.string {data:=#[]},.int .i64 6,.int .i64 0,.int .i64 0,.slice none 0 0,.slice none 0 0],117) (by simp))
                          go_wp2_with (at_builtin;go_must (refine gq (T:=fun _=>False) (T':=yQ) aT rfl _ _ rfl Tryz.jB rfl Bg.out rfl (pK (f:=ah.fJ (ah.aU ks.length)) xW.2 rfl rfl trivial) (fun x hlt hx=>hx.elim) (fun us y h=>kD h) (by simp;omega) (by have:=(EP.out.turn).size;omega) ?_))
                          intro v9 V66 tG vm hn9
                          have Ka:=hid ((EP.out.turn).into vm (fun x hx e=>by have:=(Bg.out.lt x e.symm).1;omega))
                          have aaN:Hid (RG b W8 [(Gc.heap.size,#[.string {data:=#[116,111,116,97,108]},.string (ah.aU ks.length),.string {data:=#[]},.int .i64 6,.int .i64 0,.int .i64 0,.slice none 0 0,.slice none 0 0],117)] V66):=hid ⟨Ka.out,fun y hy=>by obtain rfl:=zMs.1 hy;exact⟨xW.1,(vm.block (Gc.heap.size) (fun e=>U6.out _ e rfl) (ay xW.2)).trans xW.2⟩⟩
                          have Vd:=hid (Vc.out.keep (vm.keep (fun x hx e=>by have:=(Bg.out.lt x e.symm).1;have:=mW.out;omega)))
                          obtain⟨a9,c9,U8, -⟩:=tG.form
                          have U9:(kd.af4++[ah.fJ (ah.aU ks.length)]).length=kd.af4.length+1:=by simp
                          rw[U9] at U8
                          subst U8
                          obtain⟨g2,hag, -⟩:=tG.sW (by simp)
                          subst hag
                          have Va:=hid tG
                          clear tG vm hn9 xW Bg EP Vc U9 U6
                          go_wp2
                          refine aC (RG b W8 [(Gc.heap.size,#[.string {data:=#[116,111,116,97,108]},.string (ah.aU ks.length),.string {data:=#[]},.int .i64 6,.int .i64 0,.int .i64 0,.slice none 0 0,.slice none 0 0],117)]) (fun _ h=>h) aaN.out ?_
                          refine aL ?_
                          try simp only[zDs,zDz]
                          obtain⟨z3,zf⟩:(∃z,V66.cell? ⟨g,m*4+3,none⟩=some z)/\V66.frozen? ⟨g,m*4+3,none⟩=false:=by
                            have hgl:=(GK.out.own.lt g rfl).2
                            have e1:=Ka.out.block g (by omega) hgl
                            exact⟨⟨_,(World.cell?_of_block (w:=W8) (a:=⟨g,m*4+3,none⟩) e1).trans c3⟩,by simp only[World.frozen?,e1];exact GK.out.own.free _⟩
                          obtain⟨z3,A5⟩:=z3
                          have Vb:=GK.out.put Ka.out Vd.out hmn Va.out (kd':=ah.dJ kd (ah.aU ks.length)) (by rw[<-KZ.out];rfl)
                          have Ox:=hid Vb
                          clear Vb Ka Vd Va
                          go_wp2
                          go_meet
                          case rel=>exact⟨some g2,ks.set m (ah.dJ kd (ah.aU ks.length)),[ah.kB t6 (t6+t')],hid (by simp),hid (.inr ⟨t6,t6+t',by omega,by omega,by omega,rfl,by rw[<-UO.out];exact WL.out,by rw[<-UO.out]⟩),hid (by rw[<-Rn.out];have h9:=Ox.out;exact h9.more (by omega))⟩
                      case p57=>
                        go_wp2
                        obtain⟨OA,aaO⟩:=nmE (V0.alloc (.cells #[.string {data:=#[116,111,116,97,108]},.string (ah.aU ks.length),.string {data:=#[]},.int .i64 6,.int .i64 0,.int .i64 0,.slice none 0 0,.slice none 0 0] 117))
                        have Kc:=hid (di.out.alloc #[.string {data:=#[116,111,116,97,108]},.string (ah.aU ks.length),.string {data:=#[]},.int .i64 6,.int .i64 0,.int .i64 0,.slice none 0 0,.slice none 0 0] 117)
                        have OB:=hid (eB.out.keep (aA.below (aj.alloc aB (.cells #[.string {data:=#[116,111,116,97,108]},.string (ah.aU ks.length),.string {data:=#[]},.int .i64 6,.int .i64 0,.int .i64 0,.slice none 0 0,.slice none 0 0] 117))))
                        rw[<-aaO] at Kc OB ⊢
                        refine aC (RG b W8 [(V0.heap.size,#[.string {data:=#[116,111,116,97,108]},.string (ah.aU ks.length),.string {data:=#[]},.int .i64 6,.int .i64 0,.int .i64 0,.slice none 0 0,.slice none 0 0],117)]) (fun _ h=>h.tail) Kc.out ?_
                        clear aaO eB
                        refine aH rfl ?_
                        go_wp2
                        obtain⟨V68,aaP⟩:=nmE (OA.alloc (.cells #[] 117))
                        have pR:=hid (Kc.out.alloc #[] 117).tail
                        have tF:Hid (W8.heap.size<=OA.heap.size/\(OA.alloc (.cells #[] 117)).heap[OA.heap.size]?=some (.cells #[] 117 (0,0))):=hid ⟨Kc.out.turn.size,aD OA _ rfl⟩
                        have OC:=hid (OB.out.keep (aA.below (aj.alloc aB (.cells #[] 117))))
                        rw[<-aaP] at pR OC tF ⊢
                        refine aC (RG b W8 [(V0.heap.size,#[.string {data:=#[116,111,116,97,108]},.string (ah.aU ks.length),.string {data:=#[]},.int .i64 6,.int .i64 0,.int .i64 0,.slice none 0 0,.slice none 0 0],117)]) (fun _ h=>h) pR.out ?_
                        clear aaP OB
                        refine aH rfl ?_
                        have Oz:Hid (V0.heap.size≠OA.heap.size):=hid (fun e=>by have h1:=(pR.out.blocks (V0.heap.size,#[.string {data:=#[116,111,116,97,108]},.string (ah.aU ks.length),.string {data:=#[]},.int .i64 6,.int .i64 0,.int .i64 0,.slice none 0 0,.slice none 0 0],117) (by simp)).2;rw[e,tF.out.2] at h1;cases h1)
                        have Gd:=hid (dh.keep (S:=fun x=>SG b S w none x/\x≠g) (dA.mono (S':=fun x=>SG b S w none x/\x≠g) (by omega) aT ZN.out (fun _ _ h=>h)) (aA.dM pR.out.turn (fun x hx e=>by have:=(SG.lt hx.1).1;omega)))
                        go_wp2_with (at_builtin;go_must (refine gq (S:=fun x=>SG b S w none x/\x≠g) (B:=W8.heap.size) aT rfl _ _ rfl Tryz.jB rfl (cG.yR tF.out.2 tF.out.1) rfl Gd.out (fun x hlt hx=>⟨hx,fun e=>by have:=SG.lt hx.1;have h9:x=OA.heap.size:=zSi e;have:=tF.out.1;have:=U2.out;omega⟩) (fun us y h=>kD h) (by simp;omega) (by have:=(pR.out.turn).size;omega) ?_))
                        intro v8 V69 zn A4 U3
                        obtain⟨a8,c8,hv8, -⟩:=zn.form
                        subst hv8
                        have EQ:Hid (RG b W8 [(V0.heap.size,#[.string {data:=#[116,111,116,97,108]},.string (ah.aU ks.length),.string {data:=#[]},.int .i64 6,.int .i64 0,.int .i64 0,.slice none 0 0,.slice none 0 0],117)] V69):=hid ⟨(pR.out.turn).into A4 (fun x hx e=>by have h9:x=OA.heap.size:=zSi e;have:=tF.out.1;omega),fun y hy=>by obtain rfl:=zMs.1 hy;exact⟨(pR.out.blocks _ (by simp)).1,(A4.block (V0.heap.size) (fun e=>by have h9:V0.heap.size=OA.heap.size:=zSi e;have h10:=Oz.out;omega) (ay (pR.out.blocks (V0.heap.size,#[.string {data:=#[116,111,116,97,108]},.string (ah.aU ks.length),.string {data:=#[]},.int .i64 6,.int .i64 0,.int .i64 0,.slice none 0 0,.slice none 0 0],117) (by simp)).2)).trans (pR.out.blocks (V0.heap.size,#[.string {data:=#[116,111,116,97,108]},.string (ah.aU ks.length),.string {data:=#[]},.int .i64 6,.int .i64 0,.int .i64 0,.slice none 0 0,.slice none 0 0],117) (by simp)).2⟩⟩
                        have Ve:=hid (OC.out.keep (A4.keep (fun x hx e=>by have h9:x=OA.heap.size:=zSi e;have:=tF.out.1;have:=mW.out;omega)))
                        have U6:Hid (∀x,some x=(Value.slice a8 kd.af4.length c8).ownBlock->x≠V0.heap.size):=hid (fun x e h9=>U3.elim (fun h1=>by rw[<-e] at h1;have h3:x=OA.heap.size:=zSi h1;have h10:=Oz.out;omega) (fun⟨y,h1,h2⟩=>by rw[<-e] at h1;have h3:=zSi h1;have h4:=ay (pR.out.blocks (V0.heap.size,#[.string {data:=#[116,111,116,97,108]},.string (ah.aU ks.length),.string {data:=#[]},.int .i64 6,.int .i64 0,.int .i64 0,.slice none 0 0,.slice none 0 0],117) (by simp)).2;omega))
                        have Bg:=hid zn
                        clear zn A4 U3 Gd pR OC tF
                        go_wp2
                        refine aC (RG b W8 [(V0.heap.size,#[.string {data:=#[116,111,116,97,108]},.string (ah.aU ks.length),.string {data:=#[]},.int .i64 6,.int .i64 0,.int .i64 0,.slice none 0 0,.slice none 0 0],117)]) (fun _ h=>h) EQ.out ?_
                        refine aH rfl ?_
                        have xW:=(EQ.out.blocks (V0.heap.size,#[.string {data:=#[116,111,116,97,108]},.string (ah.aU ks.length),.string {data:=#[]},.int .i64 6,.int .i64 0,.int .i64 0,.slice none 0 0,.slice none 0 0],117) (by simp))
                        go_wp2_with (at_builtin;go_must (refine gq (T:=fun _=>False) (T':=yQ) aT rfl _ _ rfl Tryz.jB rfl Bg.out rfl (pK (f:=ah.fJ (ah.aU ks.length)) xW.2 rfl rfl trivial) (fun x hlt hx=>hx.elim) (fun us y h=>kD h) (by simp;omega) (by have:=(EQ.out.turn).size;omega) ?_))
                        intro v9 V70 tG vm hn9
                        have Ke:=hid ((EQ.out.turn).into vm (fun x hx e=>by have:=(Bg.out.lt x e.symm).1;omega))
                        have aaQ:Hid (RG b W8 [(V0.heap.size,#[.string {data:=#[116,111,116,97,108]},.string (ah.aU ks.length),.string {data:=#[]},.int .i64 6,.int .i64 0,.int .i64 0,.slice none 0 0,.slice none 0 0],117)] V70):=hid ⟨Ke.out,fun y hy=>by obtain rfl:=zMs.1 hy;exact⟨xW.1,(vm.block (V0.heap.size) (fun e=>U6.out _ e rfl) (ay xW.2)).trans xW.2⟩⟩
                        have Vf:=hid (Ve.out.keep (vm.keep (fun x hx e=>by have:=(Bg.out.lt x e.symm).1;have:=mW.out;omega)))
                        obtain⟨a9,c9,U8, -⟩:=tG.form
                        have U9:(kd.af4++[ah.fJ (ah.aU ks.length)]).length=kd.af4.length+1:=by simp
                        rw[U9] at U8
                        subst U8
                        obtain⟨g2,hag, -⟩:=tG.sW (by simp)
                        subst hag
                        have Va:=hid tG
                        clear tG vm hn9 xW Bg EQ Ve U9 U6
                        go_wp2
                        refine aC (RG b W8 [(V0.heap.size,#[.string {data:=#[116,111,116,97,108]},.string (ah.aU ks.length),.string {data:=#[]},.int .i64 6,.int .i64 0,.int .i64 0,.slice none 0 0,.slice none 0 0],117)]) (fun _ h=>h) aaQ.out ?_
                        refine aL ?_
                        try simp only[zDs,zDz]
                        obtain⟨z3,zf⟩:(∃z,V70.cell? ⟨g,m*4+3,none⟩=some z)/\V70.frozen? ⟨g,m*4+3,none⟩=false:=by
                          have hgl:=(GK.out.own.lt g rfl).2
                          have e1:=Ke.out.block g (by omega) hgl
                          exact⟨⟨_,(World.cell?_of_block (w:=W8) (a:=⟨g,m*4+3,none⟩) e1).trans c3⟩,by simp only[World.frozen?,e1];exact GK.out.own.free _⟩
                        obtain⟨z3,A5⟩:=z3
                        have Vb:=GK.out.put Ke.out Vf.out hmn Va.out (kd':=ah.dJ kd (ah.aU ks.length)) (by rw[<-KZ.out];rfl)
                        have Ox:=hid Vb
                        clear Vb Ke Vf Va
                        go_wp2
                        go_meet
                        case rel=>exact⟨some g2,ks.set m (ah.dJ kd (ah.aU ks.length)),[ah.kB t6 (t6+t')],hid (by simp),hid (.inr ⟨t6,t6+t',by omega,by omega,by omega,rfl,by rw[<-UO.out];exact WL.out,by rw[<-UO.out]⟩),hid (by rw[<-Rn.out];have h9:=Ox.out;exact h9.more (by omega))⟩
                  case rest=>
                    obtain⟨G,ks',p,xX,aaR,HK12⟩:=hcut
                    clear Dz U0
                    go_wp2
                    go_meet
                    case rel=>exact⟨G,ks',_,xX,hid ⟨x,HX.out.1,HX.out.2,.inr ⟨m,hmn,l',h',s,p,HL.out.1,HL.out.2,HH.out.1,HH.out.2,by rw[<-UO.out];exact tE.out,aaR.out,rfl⟩⟩,hid (by rw[<-UO.out];simpa using HK12.out)⟩
      case rest=>
        obtain⟨G,ks',hs,xX,Vg,HKB⟩:=hcut
        clear ZI
        have hhl:=Vg.out.len
        go_upto_region 18 with fail
        go_cut [142] from 136 to 142 (fun q wx=>∃bd:Bool,q=.bool bd/\Hid (bd=true->1<ks.length)/\Hid (KS S b (N+21) B w G (.slice a ks.length c) ks' K (ah.aU ks.length) lo hi hs wx))
        case first=>
          by_cases hn:(1:Int)<ks.length
          · have HN1:Hid (1<ks.length):=hid (by omega)
            go_wp2_with fail
            refine(aV 3 (by omega) (by omega) b (N+20) (by omega) _ HKB.out.mJ).mono ?_
            rintro e W6 ⟨t6,rfl,Ot,Ou,AV,pM, -⟩
            have Dz:=hid (HKB.out.grow pM AV)
            clear AV pM HKB
            go_wp2
            go_meet
            case rel=>exact⟨_,rfl,hid (fun _=>HN1.out),Dz⟩
          · go_wp2
            go_meet
            case rel=>exact⟨false,rfl,hid (fun h=>by cases h),hid (HKB.out.more (by omega))⟩
        case rest=>
          obtain⟨bd,rfl,WK,Bh⟩:=hcut
          clear HKB
          go_upto_if 142 with fail
          go_cut [] from 143 to 152 (fun wx=>∃y,Hid (ah.Nv ks' y)/\Hid (y.length<=1)/\Hid (KS S b (N+21) B w G (.slice a ks.length c) ks' K (ah.aU ks.length) lo hi (hs++y) wx))
          case first=>
            cases bd with
            |false=>
              go_wp2
              go_meet
              case rel=>exact⟨[],hid (.inl rfl),hid (by simp),hid (by rw[List.append_nil];exact Bh.out)⟩
            |true=>
              have h1n:=WK.out rfl
              have hl0:0<ks'.length:=by have:=xX.out;omega
              have hlk:(0:Int)<ks.length:=by omega
              have hlk1:1<ks'.length:=by have:=xX.out;omega
              obtain⟨av,nv,cv,hn0,hbx,vh,hG⟩:=Bh.out.box
              have ZM:=hid hn0
              have jq:=hid hbx
              have HOW:=hid vh
              have HG:=hid hG
              obtain⟨⟨-, -, -,b3⟩, -⟩:=aO hbx
              have mW:Hid (b<wc.heap.size):=hid (by have:=Bh.out.lb;have:=Bh.out.turn.size;omega)
              obtain⟨g,hag, -⟩:=Bh.out.own.sW hl0
              subst hag
              have hgb:g≠b:=by have:=(Bh.out.kb g rfl).1;omega
              have hsk:dG (some ⟨g,0,none⟩) ks.length:=fun _=>⟨_,_,rfl⟩
              obtain⟨-, -,c0, -⟩:=Bh.out.NH.at hl0
              simp only[fC,fD,Nat.zero_add,Nat.zero_mul] at c0
              have HBY:Hid (ah.Nv ks' [ah.Nu ks'[0].name]):=hid (.inr ⟨hlk1,by rw[ah.iT,zGd,zEg hl0];rfl⟩)
              generalize ks'[0].name=M7 at*
              clear hn0 hbx vh hG
              go_upto_region 19 with fail
              have di:=hid (RG.start b wc)
              have eB:=hid (Bh.out.mJ.keep (aA.below (af5 aj 1)))
              obtain⟨V0,rF⟩:=nmE (wc.drewN 1)
              refine bU 8 (.quiet 0 (.quiet 1 (.quiet 2 (.quiet 3 (.quiet 4 (.quiet 5 (.quiet 6 (.one 7 .done)))))))) (RG b wc []) mxT (by kernel_rfl) di.out ?_
              rw[<-rF] at di eB ⊢
              clear rF
              refine ai rfl ?_
              intro hne
              go_big_quiet_step (fail)
              refine zWq ?_
              clear hne
              refine ai rfl ?_
              intro hne
              have hq:∀xh:Held (RG b wc []),xh.1.cell? ⟨K,3,none⟩=some (.slice av nv cv):=fun xh=>RG.old xh hKb b3
              go_big_quiet_step (fail)
              refine zWq ?_
              clear hne hq
              iterate 3
                refine ai rfl ?_
                intro hne
                go_big_quiet_step (fail)
                refine zWq ?_
                clear hne
              refine ai rfl ?_
              intro hne
              have hq:∀xh:Held (RG b wc []),xh.1.cell? ⟨g,0,none⟩=some (.string M7):=fun xh=>RG.old xh hgb c0
              go_big_quiet_step (fail)
              refine zWq ?_
              clear hne hq
              refine ai rfl ?_
              intro hne
              go_big_quiet_step (fail)
              refine zWq ?_
              clear hne
              refine aH rfl ?_
              go_wp2
              refine aC (RG b wc []) (fun _ h=>h) (di.out.alloc _ _).tail ?_
              refine aL ?_
              try simp only[zDs,zDz]
              have Ez:=hid (HOW.out.keep aT (aA.dM di.out.turn (fun x hx e=>by
                have hge:=Bh.out.ge
                have hlb:=Bh.out.lb
                rcases hx with hx|hx
                · have:K<x:=hx;omega
                · have:=(HOW.out.lt x hx).1;omega)))
              go_wp2_with (at_builtin;go_must (refine cD aT rfl _ _ rfl Tryz.jB rfl Ez.out (us:=bX (ah.Nu M7) (.slice none 0 0) (.slice none 0 0)) rfl rfl rfl (ah.Nu M7) (iH (f:=ah.Nu M7) rfl rfl) (qD (f:=ah.Nu M7)) (by omega) (by have:=(di.out.turn).size;have:=ay jq.out;omega) ?_))
              intro v' w' how' ht' hn'
              obtain⟨a',c',hv', -⟩:=how'.form
              obtain⟨n',hnn⟩:=nmE ((hs++[ah.Nu M7]).length)
              rw[<-hnn] at hv'
              subst hv'
              have oo:=hid (KS.app (Bh.out) jq.out (fun x hx=>by have:=(HOW.out.lt x hx).1;omega) di.out.turn eB.out HG.out how' hnn ht' hn')
              have zl:=(ht'.block K (fun e=>by have:=(HOW.out.lt K e.symm).1;omega) (ay (di.out.block hKb jq.out))).trans (di.out.block hKb jq.out)
              obtain⟨⟨-, -, -,d3⟩,dz⟩:=aO zl
              have NZ:=dz 3
              have HNN:=hid hnn
              clear how' ht' hn' Ez zl dz di eB hnn
              go_wp2
              go_meet
              case rel=>exact⟨_,HBY,hid (by simp),oo⟩
          case rest=>
            obtain⟨y,WO,HYL,rG⟩:=hcut
            clear Bh WK
            have hyl:=HYL.out
            obtain⟨f0,hf0⟩:=nmE (hs++y)
            rw[<-hf0] at rG
            have hfl0:f0.length<=5:=by rw[hf0];simp;omega
            have HF0:=hid hf0
            clear hf0
            go_wp2_with fail
            refine(Nz b (N+21) (by omega) _ rG.out.mJ).mono ?_
            rintro e W2 ⟨v,p,rfl,hp,M8,hm2,ht2⟩
            have HP:=hid hp
            have hpl:=hp.len
            have rH:=hid (rG.out.grow ht2 hm2)
            obtain⟨av,nv,cv,hn0,hbx,vh,hG⟩:=rG.out.box
            have Ro:Hid (K<wc.heap.size):=hid (ay hbx)
            have HSZ:Hid (wc.heap.size<=W2.heap.size):=hid ht2.size
            have HOL:Hid (∀x,(Value.slice av nv cv).ownBlock=some x->x<wc.heap.size):=hid (fun x hx=>(vh.lt x hx).2)
            have GL:W2.heap[K]?=some (.cells #[.string (ah.aU ks.length),.int .i64 lo,.int .i64 hi,.slice av nv cv] 102 (0,0)):=(ht2.block K hKb (ay hbx)).trans hbx
            have jq:=hid GL
            have HOW:=hid (vh.keep aT (aA.dM ht2 (fun x hx e=>by
              have h1:=rG.out.ge
              have h2:=rG.out.lb
              rcases hx with hx|hx
              · have:K<x:=hx;omega
              · have:=(vh.lt x hx).1;omega)))
            have HG:Hid (∀x,G=some x->K<x/\x<W2.heap.size/\(Value.slice av nv cv).ownBlock≠some x):=hid (fun x hx=>⟨(hG x hx).1,by have:=(hG x hx).2.1;have:=ht2.size;omega,(hG x hx).2.2⟩)
            have ZM:=hid hn0
            have Kf:=hid (rG.out.grow ht2 hm2)
            obtain⟨⟨-, -, -,b3⟩, -⟩:=aO GL
            clear hn0 hbx GL vh hG rG ht2 hm2
            obtain⟨ap,cp,rfl, -, -, -⟩:=M8.form
            have Gd:=hid M8
            clear M8 hp rH
            go_wp2_with (at_builtin;go_must (refine gq aT rfl _ _ rfl Tryz.jB rfl HOW.out rfl Gd.out (fun x hlt hx=>⟨by have:=Ro.out;have h9:wc.heap.size<=x:=hx;show K<x;omega,fun e=>by have:=HOL.out x e.symm;have h9:wc.heap.size<=x:=hx;omega⟩) (fun us y h=>kD h) (by first|omega|(simp;omega)) (by have:=Ro.out;have:=HSZ.out;omega) ?_))
            intro v' w' how' ht' hn'
            obtain⟨fs,hfs⟩:=nmE (f0++p)
            rw[<-hfs] at how'
            obtain⟨a',c',hv', -⟩:=how'.form
            obtain⟨n',hnn⟩:=nmE fs.length
            rw[<-hnn] at hv'
            subst hv'
            have oo:=hid (KS.app Kf.out jq.out (fun x hx=>by have:=(HOW.out.lt x hx).1;omega) (Turns.refl _ _) Kf.out.mJ HG.out (hfs▸how') (hfs▸hnn) ht' hn')
            have zl:=(ht'.block K (fun e=>by have:=(HOW.out.lt K e.symm).1;omega) (ay jq.out)).trans jq.out
            obtain⟨⟨-, -, -,d3⟩,dz⟩:=aO zl
            have NZ:=dz 3
            rw[<-hfs] at oo
            have Rn:=hid hfs
            clear how' ht' hn' zl dz hnn hfs Gd b3 Kf HOW jq HG ZM Ro HSZ HOL
            go_upto_region 22 with fail
            obtain⟨W5,hW5⟩:=nmE (w'.setCell ⟨K,3,none⟩ (.slice a' n' c'))
            rw[<-hW5] at oo ⊢
            clear hW5 NZ d3
            have afc:fs.length<=10:=by rw[Rn.out];simp;omega
            go_wp2_with fail
            refine(aV 2 (by omega) (by omega) b (N+41) (by omega) _ oo.out.mJ).mono ?_
            rintro e W6 ⟨t7,rfl,t7_lo,t7_hi,AV,pM, -⟩
            have oV:=hid (oo.out.grow pM AV)
            clear AV pM oo
            go_upto_if 162 with fail
            go_cut [] from 13 to 182 (fun wx=>∃q,Hid (ah.mU fs q)/\Hid (KS S b (N+70) B w G (.slice a ks.length c) ks' K (ah.aU ks.length) lo hi (fs++q) wx))
            case first=>
              by_cases h70:t7=0
              · subst h70
                obtain⟨wc,aaS⟩:=nmE W6
                rw[<-aaS] at oV ⊢
                clear aaS
                go_wp2_with fail
                refine(Nz b (N+42) (by omega) _ oV.out.mJ).mono ?_
                rintro e W7 ⟨v2,q,rfl,hq,OD,NE,qX⟩
                have hql:=hq.len
                obtain⟨av,nv,cv,hn0,hbx,vh,hG⟩:=oV.out.box
                have Ro:Hid (K<wc.heap.size):=hid (ay hbx)
                have HSZ:Hid (wc.heap.size<=W7.heap.size):=hid qX.size
                have HOL:Hid (∀x,(Value.slice av nv cv).ownBlock=some x->x<wc.heap.size):=hid (fun x hx=>(vh.lt x hx).2)
                have GL:W7.heap[K]?=some (.cells #[.string (ah.aU ks.length),.int .i64 lo,.int .i64 hi,.slice av nv cv] 102 (0,0)):=(qX.block K hKb (ay hbx)).trans hbx
                have jq:=hid GL
                have HOW:=hid (vh.keep aT (aA.dM qX (fun x hx e=>by
                  have h1:=oV.out.ge
                  have h2:=oV.out.lb
                  rcases hx with hx|hx
                  · have:K<x:=hx;omega
                  · have:=(vh.lt x hx).1;omega)))
                have HG:Hid (∀x,G=some x->K<x/\x<W7.heap.size/\(Value.slice av nv cv).ownBlock≠some x):=hid (fun x hx=>⟨(hG x hx).1,by have:=(hG x hx).2.1;have:=qX.size;omega,(hG x hx).2.2⟩)
                have ZM:=hid hn0
                have Kf:=hid (oV.out.grow qX NE)
                obtain⟨⟨-, -, -,b3⟩, -⟩:=aO GL
                clear hn0 hbx GL vh hG oV qX NE
                obtain⟨ap,cp,rfl,hskp, -, -⟩:=OD.form
                by_cases Bj:q.length=0
                · obtain rfl:q=[]:=List.eq_nil_of_length_eq_zero Bj
                  clear Bj OD
                  go_upto_region 24 with fail
                  go_quiet (fail)
                  have Bk:Hid (KS S b (N+62) B w G (.slice a ks.length c) ks' K (ah.aU ks.length) lo hi fs (W7.drewN nq)):=hid (Kf.out.grow ((Turns.refl _ _).drewN nq) (Kf.out.mJ.keep (aA.below (af5 aj nq))))
                  go_wp2
                  go_meet
                  case rel=>exact⟨[],hid (.inl rfl),hid (by rw[List.append_nil];exact Bk.out.more (by omega))⟩
                · have hq1:0<q.length:=by omega
                  have xY:(0:Int)<q.length:=by omega
                  clear Bj
                  obtain⟨-, -,c0, -⟩:=OD.at hq1
                  have HQ0:Hid (∀f,q.head?=some f->f=q[0]):=hid (fun f hf=>by
                    cases q with
                    |nil=>cases hf
                    |cons g l=>exact(zSi hf).symm)
                  obtain⟨nmQ,hnq⟩:=nmE (q[0].name)
                  rw[<-hnq] at c0
                  have HNQ:=hid hnq
                  simp only[Nat.zero_mul,Nat.add_zero] at c0
                  have HFK:Hid (dh (fun x=>K<x) W7 (.slice av nv cv) fs):=hid (HOW.out.sl aT (fun _ _ h=>h) (fun x hx=>by have:=(HOW.out.lt x hx).1;omega))
                  have HHS:=hid (fun m=>Calls.quiet_of (B6 (yC fs nmQ (.slice av nv cv) (fun x=>K<x) (W7.drewN m) (HFK.out.keep (aA.below (af5 aj _))))))
                  have Gd:=hid OD
                  have HQP:=hid hq
                  obtain⟨hI,RP⟩:=nmE (ah.Bd fs nmQ)
                  rw[<-RP] at HHS
                  have HhI:=hid RP
                  clear OD hq hnq RP
                  go_upto_region 24 with fail
                  go_quiet ((exact HHS.out _))
                  rcases ah.gE (fun f:ah.cA=>decide (f.name=nmQ)) fs with⟨hc1,hc2⟩|⟨ci,hci,hc1,hc2, -⟩
                  · have oq:hI= -1:=HhI.out.trans hc1
                    subst oq
                    have HSO:Hid (ah.mU fs q):=hid (.inr ⟨HQP.out,fun f hf g hg=>by
                      obtain⟨j,hj,rfl⟩:=List.getElem_of_mem hg
                      have h1:=hc2 j hj
                      rw[HQ0.out f hf,<-HNQ.out]
                      simpa using h1⟩)
                    clear hc1 hc2 HHS c0
                    have hbD:BL W7 (W7.drewN nq):=af5 aj nq
                    have htD:Turns (·=b) W7 (W7.drewN nq):=(Turns.refl _ _).drewN nq
                    have jq:=hid (show (W7.drewN nq).heap[K]?=_ from jq.out)
                    have HOW:=hid (HOW.out.below aT hbD)
                    have HG:Hid (∀x,G=some x->K<x/\x<(W7.drewN nq).heap.size/\(Value.slice av nv cv).ownBlock≠some x):=hid HG.out
                    have Gd:=hid (Gd.out.keep (aA.below hbD))
                    have Kf:=hid (Kf.out.grow htD (Kf.out.mJ.keep (aA.below hbD)))
                    obtain⟨⟨-, -, -,b3⟩, -⟩:=aO jq.out
                    clear hbD htD
                    go_wp2_with (at_builtin;go_must (refine gq aT rfl _ _ rfl Tryz.jB rfl HOW.out rfl Gd.out (fun x hlt hx=>⟨by have:=Ro.out;have h9:wc.heap.size<=x:=hx;show K<x;omega,fun e=>by have:=HOL.out x e.symm;have h9:wc.heap.size<=x:=hx;omega⟩) (fun us y h=>kD h) (by first|omega|(simp;omega)) (by have:=Ro.out;have:=HSZ.out;show K+1<=W7.heap.size;omega) ?_))
                    intro v' w' how' ht' hn'
                    obtain⟨fq,hfs⟩:=nmE (fs++q)
                    rw[<-hfs] at how'
                    obtain⟨a',c',hv', -⟩:=how'.form
                    obtain⟨n',hnn⟩:=nmE fq.length
                    rw[<-hnn] at hv'
                    subst hv'
                    have oo:=hid (KS.app Kf.out jq.out (fun x hx=>by have:=(HOW.out.lt x hx).1;omega) (Turns.refl _ _) Kf.out.mJ HG.out (hfs▸how') (hfs▸hnn) ht' hn')
                    have zl:=(ht'.block K (fun e=>by have:=(HOW.out.lt K e.symm).1;omega) (ay jq.out)).trans jq.out
                    obtain⟨⟨-, -, -,d3⟩,dz⟩:=aO zl
                    have NZ:=dz 3
                    rw[<-hfs] at oo
                    have HFQ:=hid hfs
                    clear how' ht' hn' zl dz hnn hfs Gd b3 Kf HOW jq HG ZM Ro HSZ HOL
                    have aaT:=hid (oo.out.more (N':=N+70) (by omega))
                    clear oo
                    rw[HFQ.out] at aaT
                    go_wp2
                    go_meet
                    case rel=>exact⟨q,HSO,aaT⟩
                  · have oq:hI=(ci:Int):=HhI.out.trans hc1
                    subst oq
                    clear hc1 hc2 HHS c0
                    have Oq:¬(ci:Int)<0:=by omega
                    have Bk:Hid (KS S b (N+62) B w G (.slice a ks.length c) ks' K (ah.aU ks.length) lo hi fs (W7.drewN nq)):=hid (Kf.out.grow ((Turns.refl _ _).drewN nq) (Kf.out.mJ.keep (aA.below (af5 aj nq))))
                    go_wp2
                    go_meet
                    case rel=>exact⟨[],hid (.inl rfl),hid (by rw[List.append_nil];exact Bk.out.more (by omega))⟩
              · have jM:(t7==0)=false:=Dl h70
                clear h70
                go_wp2
                go_meet
                case rel=>exact⟨[],hid (.inl rfl),hid (by rw[List.append_nil];exact oV.out.more (by omega))⟩
            case rest=>
              obtain⟨q,HQ,yD⟩:=hcut
              clear oV
              obtain⟨av,nv,cv,hn0,hbx,vh, -⟩:=yD.out.box
              obtain⟨⟨b0,b1,b2,b3⟩, -⟩:=aO hbx
              obtain⟨⟨r0,r1,r2,r3⟩,rz⟩:=aO yD.out.res
              have hS4:=Ba yD.out.res (.string (ah.aU ks.length)) (.int .i64 lo) (.int .i64 hi) (.slice av nv cv)
              have Gb:=hid hS4
              have HOW:=hid vh
              have HKR:Hid (w.heap.size<K):=hid yD.out.ge
              clear hS4 hn0 hbx vh
              go_wp2
              refine bodyPost_ret (KY Gb.out.1 rfl) rfl ⟨ks',⟨ah.aU ks.length,lo,hi,fs++q⟩,.slice av nv cv,rfl,?_,?_,?_,?_,?_⟩
              · exact⟨hk2,rfl,hlo0,HI.out.1,by have:=HI.out.2;show hi<=20;omega,hs,y,p,q,Vg.out,WO.out,HP.out,by have:=HQ.out;rw[Rn.out,HF0.out] at this;exact this,by rw[Rn.out,HF0.out]⟩
              · exact dh.keep (HOW.out.sl aT (T:=fun x=>w.heap.size<x) (fun x _ h=>by have:=HKR.out;have h9:K<x:=h;show w.heap.size<x;omega) (fun x hx=>by have:=(HOW.out.lt x hx).1;have:=HKR.out;show w.heap.size<x;omega)) (aA.dM Gb.out.2 (fun x hx e=>by have h9:w.heap.size<x:=hx;omega))|>.mono (fun x _ h=>by have h9:w.heap.size<x:=h;show _<=x;omega)
              · refine(yD.out.own.keep bY (aA.dM Gb.out.2 (fun x hx e=>?_))).JQ bY (fun x _ hx=>hx.2.elim (fun h=>.inl h.1) (fun h1=>.inr (by
                  obtain⟨_,_,_,_,_,_,h2⟩:=yD.out.box
                  have:=(h2 x h1).1
                  have:=HKR.out
                  omega)))
                rcases hx with hx|hx
                · rcases hx.2 with⟨-,h1⟩|h1
                  · omega
                  · obtain⟨_,_,_,_,_,_,h2⟩:=yD.out.box
                    have:=(h2 x h1).1
                    have:=HKR.out
                    omega
                · have:=(yD.out.kb x hx).2;omega
              · exact(yD.out.mJ.mono (by omega)).keep (aA.dM Gb.out.2 (fun x hx e=>by have:=yD.out.lb;omega))
              · exact yD.out.turn.into Gb.out.2 (fun x hx e=>by omega)
end Go.Proofs.YtobgljfnfpolkaaGreatDoor
