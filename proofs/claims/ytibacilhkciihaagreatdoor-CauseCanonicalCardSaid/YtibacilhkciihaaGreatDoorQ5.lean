/- Part 5 of the walks and plain laws that the proof needs (packed). -/
import Derived.Deep.DeepCutAuto
import Derived.Deep.LoopGhost
import Derived.Test.YtibacilhkciihaaGreatDoorQ1
import Derived.Test.YtibacilhkciihaaGreatDoorQ4
set_option linter.all false
set_option maxRecDepth 100000
set_option maxHeartbeats 8000000
namespace Go.Proofs.YtibacilhkciihaaGreatDoor
open Go.RowKit
abbrev mN:Array Value:=#[.string {data:=#[]},.string {data:=#[]},.string {data:=#[]},.int .i64 0,.int .i64 0,.int .i64 0,.slice none 0 0,.slice none 0 0]
abbrev oT:Array Value:=#[.string {data:=#[112,101,114,115,111,110]},.string {data:=#[111,114,100,101,114]},.string {data:=#[105,116,101,109]}]
abbrev lJ:Array Value:=#[.string {data:=#[]},.int .i64 0,.int .i64 0,.slice none 0 0]
abbrev oP:Array Value:=#[.int .i64 4,.int .i64 3,.int .i64 8,.int .i64 2]
abbrev G4:Array Value:=#[.int .i64 0,.int .i64 1,.int .i64 100,.int .i64 (-3)]
abbrev qf(n:Nat):Array Value:=#[.string {data:=#[116,111,116,97,108]},.string (ah.bQ n),.string {data:=#[]},.int .i64 6,.int .i64 0,.int .i64 0,.slice none 0 0,.slice none 0 0]
theorem Tryz.jt:jh Tryz.prog 47 46 8 120:=ji (z:=.agg #[.string ⟨#[]⟩,.string ⟨#[]⟩,.string ⟨#[]⟩,.int .i64 0,.int .i64 0,.int .i64 0,.slice none 0 0,.slice none 0 0]) (by kernel_rfl) (by kernel_rfl) rfl aB aB
def SG(b:Nat)(S:Nat->Prop)(w0:World)(G:Option Nat):Nat->Prop:=fun x=>b<x/\((S x/\x<w0.heap.size)\/G=some x)
theorem SG.lt{b:Nat}{S:Nat->Prop}{w0:World}{x:Nat}(h:SG b S w0 none x):b<x/\x<w0.heap.size:=⟨h.1,h.2.elim (·.2) (fun e=>by cases e)⟩
structure KS(S:Nat->Prop)(b N B:Nat)(w0:World)(G:Option Nat)(vK:Value)(ks:List ah.dZ)(K:Nat)(nm:ah.Nm)(lo hi:Int)(fs:List ah.cD)(W:World):Prop where
 mO:gq W b N
 own:cU 4 AU (SG b S w0 G) B 49 W vK ks
 res:W.heap[w0.heap.size]?=some (.cells #[.string ah.nil,.int .i64 0,.int .i64 0,.slice none 0 0] 49 (0,0))
 box:∃a n c,n=fs.length/\W.heap[K]?=some (.cells #[.string nm,.int .i64 lo,.int .i64 hi,.slice a n c] 49 (0,0))/\cU 8 jc (fun x=>K<x) (K+1) 46 W (.slice a n c) fs/\
  ∀x,G=some x->K<x/\x<W.heap.size/\(Value.slice a n c).ownBlock≠some x
 turn:Turns (fun x=>x=b\/vK.ownBlock=some x) w0 W
 ge:w0.heap.size<K
 lb:b<w0.heap.size
 kb:∀x,vK.ownBlock=some x->b<x/\x<w0.heap.size
theorem cU.Zw{α:Type}{n:Nat}{RR:(Nat->Prop)->World->List Value->α->Prop}{S:Nat->Prop}{B:Nat}{e:TypeId}{w:World}{a:Option Addr}{m c:Nat}{xs:List α}(h:cU n RR S B e w (.slice a m c) xs):m=xs.length:=by
 obtain⟨a',c',e',_⟩:=h.form;injection e'
theorem _root_.Go.Proofs.YtibacilhkciihaaGreatDoor.ah.dL.len{l:List ah.cD}(h:ah.dL l):l.length<=2:=by cases h<;>simp
theorem _root_.Go.Proofs.YtibacilhkciihaaGreatDoor.ah.oh.len{ks ks':List ah.dZ}{nm:ah.Nm}{l:List ah.cD}(h:ah.oh ks nm ks' l):l.length<=4:=by
 obtain⟨a,_,_,⟨_,_,rfl⟩|⟨tt,_,lo,hi,s,p,_,_,_,_,hs,hp,rfl⟩⟩:=h
 ·simp
 ·have h1:s.length<=1:=by
   rcases hs with rfl|⟨c,h,_,rfl⟩
   ·simp
   ·simp
  have h2:p.length<=1:=by
   rcases hp with⟨rfl,_⟩|⟨_,_,_,_,_,rfl,_⟩
   ·simp
   ·simp
  simp;omega
theorem _root_.Go.Proofs.YtibacilhkciihaaGreatDoor.ah.og.len{k:ah.dZ}{l:List ah.cD}(h:ah.og k l):l.length<=1:=by
 rcases h with rfl|⟨c,h,_,rfl⟩
 ·simp
 ·simp
theorem Ub{f:ah.cD}(h:ah.qJ f=true):ah.sy f:=by
 simp only[ah.qJ,pF,qZ] at h;exact⟨h.1.1.1,h.1.1.2,h.1.2,h.2⟩
def ab1(S:Nat->Prop)(b N B:Nat)(w:World)(vK:Value)(ks:List ah.dZ)(e:Ending)(w':World):Prop:=
 ∃ks' k uf,e=.returned (.agg (kH k uf).toArray)/\ah.pM ks ks' k/\dh (w.heap.size<=·) w' uf k.aG/\cU 4 AU (fun x=>S x\/w.heap.size<=x) B 49 w' vK ks'/\gq w' b (N+100)/\Turns (fun x=>x=b\/vK.ownBlock=some x) w w'
theorem KS.grow{S:Nat->Prop}{b N N' B K:Nat}{w W W':World}{G:Option Nat}{vK:Value}{ks:List ah.dZ}{nm:ah.Nm}{lo hi:Int}{fs:List ah.cD}(h:KS S b N B w G vK ks K nm lo hi fs W)(ht:Turns (·=b) W W')(hm:gq W' b N'):
  KS S b N' B w G vK ks K nm lo hi fs W':=by
 have hge:=h.ge;have hlb:=h.lb;obtain⟨a,n,c,h1,h2,h3,h4⟩:=h.box;refine⟨hm,h.own.keep cC (fun x hx hlt=>ht.block x (fun e=>?_) hlt),?_,⟨a,n,c,h1,?_,h3.keep bD (fun x hx hlt=>ht.block x (fun e=>?_) hlt),fun x hx=>?_⟩,h.turn.trans (ht.mono fun x _ e=>.inl e),hge,hlb,h.kb⟩
 ·rcases hx with hx|hx
  ·have:=hx.1;omega
  ·have:=(h.kb x hx).1;omega
 ·rw[ht.block _ aB (aC h.res)];exact h.res
 ·rw[ht.block _ aB (aC h2)];exact h2
 ·rcases hx with hx|hx
  ·have:K<x:=hx;omega
  ·have:=(h3.lt x hx).1;omega
 ·obtain⟨g1,g2,g3⟩:=h4 x hx
  have:=ht.size;exact⟨g1,aB,g3⟩
theorem KS.more{S:Nat->Prop}{b N N' B K:Nat}{w W:World}{G:Option Nat}{vK:Value}{ks:List ah.dZ}{nm:ah.Nm}{lo hi:Int}{fs:List ah.cD}(h:KS S b N B w G vK ks K nm lo hi fs W)(hN:N<=N'):KS S b N' B w G vK ks K nm lo hi fs W:=
 h.grow (Turns.refl _ _) (h.mO.mono hN)
theorem KS.put{S:Nat->Prop}{b N N' B K:Nat}{w W W':World}{g n c:Nat}{ks:List ah.dZ}{nm:ah.Nm}{lo hi:Int}{fs fs':List ah.cD}(h:KS S b N B w none (.slice (some ⟨g,0,none⟩) n c) ks K nm lo hi fs W)(ht:Turns (·=b) W W')(hm:gq W' b N'){m:Nat}(hmn:m<ks.length)
  {g2 n2 c2:Nat}(ho:cU 8 jc (fun x=>SG b S w none x/\x≠g) W.heap.size 46 W' (.slice (some ⟨g2,0,none⟩) n2 c2) fs'){kd':ah.dZ}(hkd:kd'={ks[m] with aG:=fs'}):
  KS S b N' B w (some g2) (.slice (some ⟨g,0,none⟩) n c) (ks.set m kd') K nm lo hi fs (W'.setCell ⟨g,m*4+3,none⟩ (.slice (some ⟨g2,0,none⟩) n2 c2)):=by
 subst hkd;have hg:=h.kb g rfl;have hge:=h.ge;have hlb:=h.lb;have hg2:=ho.lt g2 rfl;have Ai:=h.turn.size;have h1:=h.grow ht hm;obtain⟨a,n0,c0,q1,q2,q3,q4⟩:=h1.box;have Uc:∀x,x≠g->(W'.setCell ⟨g,m*4+3,none⟩ (.slice (some ⟨g2,0,none⟩) n2 c2)).heap[x]?=W'.heap[x]?:=fun x hx=>jQ _ _ _ _ hx;obtain⟨a',n0',c0',q1',q2',q3', -⟩:=h.box;have hKl:=aC q2'
 have heq:a=a'/\n0=n0'/\c0=c0':=by
  rw[ht.block K aB hKl,q2'] at q2;simp at q2;exact⟨q2.1.symm,q2.2.1.symm,q2.2.2.symm⟩
 refine⟨h1.mO.keep (fun x hx _=>Uc x aB),?_,(Uc _ aB).trans h1.res,⟨a,n0,c0,q1,(Uc _ aB).trans q2,q3.keep bD (fun x hx _=>Uc x ?_),fun x hx=>?_⟩,?_,hge,hlb,h.kb⟩
 ·refine cU.put (i:=3) cC (h1.own.J5 cC (S':=SG b S w (some g2)) (fun x _ hx=>⟨hx.1,hx.2.elim .inl (fun e=>by cases e)⟩)) h1.own.Zw hmn aB _ _ (fun us qF=>?_)
  obtain⟨uf,rfl,hf⟩:=qF;refine⟨.slice (some ⟨g2,0,none⟩) n2 c2,rfl,ho.sl bD (fun x _ hx=>⟨⟨hx.1.1,hx.1.2.elim .inl (fun e=>by cases e)⟩,hx.2⟩) (fun x hx=>?_)⟩;obtain rfl:g2=x:=mM hx;exact⟨⟨aB,.inr rfl⟩,aB⟩
 ·rcases hx with hx|hx
  ·have:K<x:=hx;omega
  ·have:=(q3.lt x hx).1;omega
 ·obtain rfl:g2=x:=mM hx
  refine⟨aB,by simp only[World.size_setCell];exact hg2.2,fun e=>?_⟩;obtain⟨e1,e2,e3⟩:=heq;rw[e1,e2,e3] at e;have:=(q3'.lt _ e).2;omega
 ·exact h1.turn.trans (((Turns.refl (·=g) W').setCell ⟨g,m*4+3,none⟩ _ rfl).mono fun x _ e=>.inr tL)
theorem KS.O1{S:Nat->Prop}{b N B K:Nat}{w W:World}{G:Option Nat}{vK:Value}{ks:List ah.dZ}{nm:ah.Nm}{lo hi:Int}{fs:List ah.cD}(h:KS S b N B w G vK ks K nm lo hi fs W):gU (fun x=>b<x) W vK ks:=
 h.own.sl cC (fun _ _ hx=>hx.1) (fun x hx=>(h.kb x hx).1)
theorem aD.dD{S T:Nat->Prop}{w w':World}(h:Turns T w w')(hS:∀x,S x->¬T x):aD S w w':=fun b hb hlt=>h.block b (hS b hb) hlt
theorem qg{f:ah.cD}:∀u∈cF f (.slice none 0 0) (.slice none 0 0),u.oneCell'=true:=by
 exact WC
def pP(l:List Int):Array Value:=(l.map (Value.int .i64)).toArray
theorem pQ(l:List Int)(i:Int)(h0:0<=i)(h1:i<l.length):∃x,x∈l/\(pP l)[i.toNat]?=some (.int .i64 x):=
 ⟨l[i.toNat]' aB,gm _,by simp[pP]⟩
theorem O2(W:World)(l:List Int)(t:TypeId)(i:Int)(h0:0<=i)(h1:i<l.length):∃x,x∈l/\(W.alloc (.cells (pP l) t)).cell? ⟨W.heap.size,i.toNat,none⟩=some (.int .i64 x):=
 ⟨l[i.toNat]' aB,gm _,by
  have:=gY W (pP l) t i.toNat (.int .i64 (l[i.toNat]' aB)) (by simp[pP])
  rwa [Nat.zero_add] at this⟩
theorem KS.mk3{S:Nat->Prop}{b N B K:Nat}{w w1 V V':World}{a:Option Addr}{c:Nat}{ks:List ah.dZ}{nm:ah.Nm}{lo hi:Int}(hb:b<w.heap.size)(hR:w1.heap[w.heap.size]?=some (.cells #[.string ah.nil,.int .i64 0,.int .i64 0,.slice none 0 0] 49 (0,0)))
  (hs:w1.heap.size=w.heap.size+2)(ht:Turns (·=b) w w1)(O4:∀x,S x->b<x)(ho:cU 4 AU S B 49 w (.slice a ks.length c) ks)(Zx:b<B)(hg:Turns (·=b) w1 V)(hm:gq V b N)(hge:w1.heap.size<=K)
  (hb4:V'.heap[K]?=some (.cells #[.string nm,.int .i64 lo,.int .i64 hi,.slice none 0 0] 49 (0,0)))(Aj:Turns (·=K) V V'):KS S b N B w none (.slice a ks.length c) ks K nm lo hi [] V' where
 mO:=hm.keep (Aj.keep (fun x hx e=>by omega))
 own:=by
  refine(ho.J5 cC (S':=SG b S w none) (fun x hlt hx=>⟨O4 x hx,.inl ⟨hx,hlt⟩⟩)).keep cC (fun x hx hlt=>?_)
  have hxb:b<x:=by
   rcases hx with hx|hx
   ·exact hx.1
   ·have:=(ho.lt x hx).1;omega
  have h1:=ht.block x aB hlt;have h2:=hg.block x aB aB;have h3:=Aj.block x aB (by have:=hg.size;omega);rw[h3,h2,h1]
 res:=by
  have h2:=hg.block w.heap.size aB aB;have h3:=Aj.block w.heap.size aB (by have:=hg.size;omega);rw[h3,h2,hR]
 box:=⟨none,0,0,rfl,hb4,cU.nil _ _ _ _ _ _,fun _ h=>by cases h⟩
 turn:=((ht.trans hg).mono (fun x _ h=>.inl h)).into Aj (fun x hx e=>by omega)
 ge:=aB
 lb:=hb
 kb:=fun x hx=>⟨by have:=(ho.lt x hx).1;omega,(ho.lt x hx).2⟩
theorem KS.app{S:Nat->Prop}{b N N' B K:Nat}{w W V V':World}{G:Option Nat}{vK:Value}{ks:List ah.dZ}{nm:ah.Nm}{lo hi:Int}{fs gs:List ah.cD}{a a':Option Addr}{n n' c c':Nat}(h:KS S b N B w G vK ks K nm lo hi fs W)
  (hbx:W.heap[K]?=some (.cells #[.string nm,.int .i64 lo,.int .i64 hi,.slice a n c] 49 (0,0)))(SV:∀x,(Value.slice a n c).ownBlock=some x->K<x)(hV:Turns (·=b) W V)(hm:gq V b N')
  (hG:∀x,G=some x->K<x/\x<W.heap.size/\(Value.slice a n c).ownBlock≠some x)
  (how:cU 8 jc (fun x=>K<x) (K+1) 46 V' (.slice a' n' c') (fs++gs))(hn:n'=(fs++gs).length)(ht:Turns (fun x=>some x=(Value.slice a n c).ownBlock) V V')
  (hnew:(Value.slice a' n' c').ownBlock=(Value.slice a n c).ownBlock\/∃x,(Value.slice a' n' c').ownBlock=some x/\V.heap.size<=x):
  KS S b N' B w G vK ks K nm lo hi (fs++gs) (V'.setCell ⟨K,3,none⟩ (.slice a' n' c')):=by
 have hge:=h.ge;have hlb:=h.lb;have hKl:=aC hbx;have hs1:=hV.size;have hs2:=ht.size
 have hX:Turns (fun x=>x=b\/(K<=x/\(x=K\/(Value.slice a n c).ownBlock=some x))) W (V'.setCell ⟨K,3,none⟩ (.slice a' n' c')):=
  (((hV.mono fun x _ h=>.inl h).trans (ht.mono fun x _ h=>.inr (by have:=SV x h.symm;exact⟨aB,.inr h.symm⟩)))).trans (((Turns.refl (·=K) V').setCell ⟨K,3,none⟩ _ rfl).mono fun x _ h=>.inr ⟨aB,.inl h⟩)
 have hK:V'.heap[K]?=some (.cells #[.string nm,.int .i64 lo,.int .i64 hi,.slice a n c] 49 (0,0)):=by
  rw[ht.block K (fun e=>by have:=SV K e.symm;omega) aB,hV.block K aB hKl,hbx]
 refine⟨?_,?_,?_,⟨a',n',c',hn,heap_setCell_same _ K 3 _ _ _ hK,?_,fun x hx=>?_⟩,?_,hge,hlb,h.kb⟩
 ·exact(hm.keep (ht.keep (fun x hx e=>by have:=SV x e.symm;omega))).keep (fun x hx _=>jQ _ _ _ _ (show x≠K by omega))
 ·refine h.own.keep cC (fun x hx hlt=>hX.block x (fun e=>?_) hlt)
  have hxx:b<x/\(x<w.heap.size\/G=some x):=by
   rcases hx with hx|hx
   ·exact⟨hx.1,hx.2.elim (fun h=>.inl h.2) .inr⟩
   ·exact⟨(h.kb x hx).1,.inl (h.kb x hx).2⟩
  rcases e with e|⟨e1,e⟩
  ·omega
  ·rcases hxx.2 with h1|h1
   ·omega
   ·have:=hG x h1
    rcases e with e|e
    ·omega
    ·exact this.2.2 e
 ·rw[hX.block _ aB (aC h.res)];exact h.res
 ·exact how.keep bD (fun x hx _=>jQ _ _ _ _ (by
   rcases hx with hx|hx
   ·have:K<x:=hx;show x≠K;omega
   ·have:=(how.lt x hx).1;show x≠K;omega))
 ·obtain⟨g1,g2,g3⟩:=hG x hx
  refine⟨g1,by simp only[World.size_setCell];omega,fun e=>?_⟩;rcases hnew with h1|⟨y,h1,h2⟩
  ·rw[h1] at e;exact g3 e
  ·rw[h1] at e;have:=mM e;omega
 ·exact h.turn.into hX (fun x hx e=>by
   rcases e with e|e
   ·exact .inl e
   ·omega)
theorem LJ{w:World}{g:Nat}{x y z u:Value}{tmps:Array Value}(h:w.heap[g]?=some (.cells #[x,y,z,u] 49 (0,0)))(hp:tmps[4]?=some (.pointer (some ⟨g,0,none⟩))):
  (results Tryz.f14 tmps).run Tryz.prog w=.ok (.agg #[x,y,z,u]) w:=by
 obtain⟨⟨h0,h1,h2,h3⟩, -⟩:=bC h;simp[results,Tryz.results14,go_sem,hp,h0,h1,h2,h3]
theorem O5{p:Prop}(h:p:=by
  go_wp2
  go_meet
  case rel=>exact⟨some g2,ks.set m (ah.eC kd (ah.bQ ks.length)),[ah.lH t6 (t6+t')],hid bp,hid (.inr ⟨t6,t6+t',aB,aB,aB,rfl,zT99,by rw[<-TK.out]⟩),hid abQ⟩):p:=h
theorem BD{p:Prop}(h:p:=by
  go_wp2
  go_meet
  case rel=>exact⟨_,h',rfl,hid ⟨hx3,xA⟩,HRG,HMK⟩):p:=h
theorem WH{p:Prop}(h:p:=by
  have DY:Hid (KS S b (N+62) B w G (.slice a ks.length c) ks' K (ah.bQ ks.length) lo hi fs (W7.drewN nq)):=hid (NT.out.grow ((Turns.refl _ _).drewN nq) (NT.out.mO.keep (aD.below (aI aF nq))))
  go_wp2
  go_meet
  case rel=>exact⟨[],hid (.inl rfl),hid (by rw[List.append_nil];exact DY.out.more aB)⟩):p:=h
theorem BF{p:Prop}(h:p:=by
  go_wp2
  go_meet
  case rel=>exact⟨_,_,rfl,hid aB,qh⟩):p:=h
theorem O6{p:Prop}(h:p:=by
  exact⟨⟨_,(World.cell?_of_block (w:=W8) (a:=⟨g,m*4+3,none⟩) e1).trans c3⟩,zT47⟩):p:=h
theorem O7(b N B:Nat)(hN:N<=80000)(w:World)(hm:gq w b N)(a:Option Addr)(c:Nat)(ks:List ah.dZ)(hk2:ks.length<=2)(hkf:∀k∈ks,k.aG.length<=1000000)(S:Nat->Prop)(O4:∀x,S x->b<x)(hown:cU 4 AU S B 49 w (.slice a ks.length c) ks)(Zx:b<B):
    Calls Tryz.prog 14 #[.pointer (some ⟨b,0,none⟩),.slice a ks.length c] w (ab1 S b N B w (.slice a ks.length c) ks):=by
  have HM:=hid hm
  have HO:=hid hown
  have HKF:=hid hkf
  clear hkf
  clear hm hown
  go_enter Tryz.func14,Tryz.ntmps14
  go_wp2_with fail
  refine(bE 6 aB aB b N aB _ (HM.out.keep (aD.below ((aF.alloc aH _).alloc bp _)))).mono ?_
  rintro e w1 ⟨t,rfl,h0,h6,hm1,ht1,hs1⟩
  obtain⟨lo,hlo,hcell⟩:=O2 (w.alloc (.cells #[.string ah.nil,.int .i64 0,.int .i64 0,.slice none 0 0] 49)) [0,1,2,4,1,2] 3 t h0 (by simpa using h6)
  have hc1:w1.cell? ⟨w.heap.size+1,t.toNat,none⟩=some (.int .i64 lo):=by
    rw[World.cell?_of_block (ht1.block (w.heap.size+1) (show ¬_=b by have:=HM.out.lt;omega) bp)]
    rw[World.size_alloc] at hcell
    exact hcell
  have ab2:0<=lo/\lo<=4:=by
    simp only[kD,GI,or_false] at hlo
    omega
  obtain⟨hlo0,ab2⟩:=ab2
  have HR:Hid (w1.heap[w.heap.size]?=some (.cells #[.string ah.nil,.int .i64 0,.int .i64 0,.slice none 0 0] 49 (0,0))):=hid (by
    rw[ht1.block w.heap.size (show ¬_=b by have:=HM.out.lt;omega) lC]
    exact bG _ (aW w _ rfl))
  have wP:Hid (w1.heap.size=w.heap.size+2):=hid (by rw[hs1];simp)
  have Ag:Hid (Turns (·=b) w w1):=hid ((((Turns.refl _ w).alloc _).alloc _).trans ht1)
  have DW:=hid hm1
  have hsk:dX (some ⟨w.heap.size+1,0,none⟩) 6:=fun _=>⟨_,_,rfl⟩
  clear hm1 ht1 hs1 hlo hcell
  go_upto_region 3 with fail
  clear hc1 hsk
  obtain⟨Zy,HlenK⟩:Hid (b<w.heap.size)/\((ks.length:Int)<3/\(0:Int)<=ks.length):=⟨hid HM.out.lt,aB,aB⟩
  go_cut [7] from 7 to 30 (fun k wx=>∃K,∃hi:Int,k=.pointer (some ⟨K,0,none⟩)/\Hid (lo<=hi/\hi<=lo+4)/\Hid (KS S b (N+2) B w none (.slice a ks.length c) ks K (ah.bQ ks.length) lo hi [] wx))
  case first=>
    have ny:Hid (b<w1.heap.size):=hid (by have:=Zy.out;have:=wP.out;omega)
    have Ud:Hid ((oT:Array Value)[ks.length]?=some (.string (ah.bQ ks.length))):=hid (by
      have:ks.length=0\/ks.length=1\/ks.length=2:=aB
      rcases this with h|h|h<;>rw[h]<;>rfl)
    have dG:=hid (RG.start b w1)
    have eM:=hid (DW.out.keep (aD.below (aI aF 1)))
    obtain⟨V0,sD⟩:=bB (w1.drewN 1)
    refine aZ 11 (.quiet 1 (.quiet 4 (.quiet 5 (.quiet 6 (.three 0 7 10 (.quiet 2 (.quiet 3 (.two 7 10 (.quiet 8 (.quiet 9 (.one 10 .done))) (.one 7 (.quiet 8 (.quiet 9 .done)))))) (.quiet 8 (.two 0 10 (.quiet 2 (.quiet 3 (.quiet 9 (.one 10 .done)))) (.one 0 (.quiet 2 (.quiet 3 (.quiet 9 .done)))))) (.two 0 7 (.quiet 2 (.quiet 3 (.one 7 (.quiet 8 (.quiet 9 .done))))) (.quiet 8 (.one 0 (.quiet 2 (.quiet 3 (.quiet 9 .done))))))))))) (RG b w1 []) oL (by kernel_rfl) dG.out ?_
    rw[<-sD] at dG eM ⊢
    clear sD
    iterate 4 refine fE ?_
    refine uZ rfl rfl rfl ?p1 ?p2 ?p3
    case p1=>
      go_wp2
      obtain⟨V4,hV4⟩:=bB (V0.alloc (.cells oT 9))
      have O8:=hid (dG.out.alloc oT 9)
      have O9:=hid (eM.out.keep (aD.below (aF.alloc aH (.cells oT 9))))
      rw[<-hV4] at O8 O9 ⊢
      refine aJ (RG b w1 [(V0.heap.size,oT,9)]) (fun _ h=>h.tail) O8.out ?_
      clear hV4 eM
      refine aV rfl ?_
      intro hne
      have hq:dX (some ⟨V0.heap.size,0,none⟩) 3:=fun _=>⟨_,_,rfl⟩
      go_big_quiet_step (fail)
      refine iL ?_
      clear hne hq
      refine aV rfl ?_
      intro hne
      have hq:∀x:Held (RG b w1 [(V0.heap.size,oT,9)]),x.1.cell? ⟨V0.heap.size,ks.length,none⟩=some (.string (ah.bQ ks.length)):=fun x=>RG.cell x V0.heap.size oT 9 bp Ud.out
      go_big_quiet_step (fail)
      refine iL ?_
      clear hne hq
      refine eD rfl rfl ?p5 ?p6
      case p5=>
        go_wp2_with fail
        refine(bE 5 aB aB b (N+1) aB _ O9.out).mono ?_
        rintro e V7 ⟨t',rfl,iz,kL,hm',ht', -⟩
        have ab3:=hid (O8.out.take ny.out ht')
        have ab4:=hid hm'
        clear hm' ht' O8 O9
        go_wp2
        refine aJ (RG b w1 [(V0.heap.size,oT,9)]) (fun _ h=>h) ab3.out ?_
        refine aV rfl ?_
        intro hne
        have hq:IntKind.i64.wrap (lo+t')=lo+t':=IntWalk.i64_in _ aB
        go_big_quiet_step (fail)
        refine iL ?_
        clear hne hq
        refine fE ?_
        refine aT rfl ?_
        go_wp2
        obtain⟨V8,hV8⟩:=bB (V7.alloc (.cells lJ 49))
        have G5:=hid (ab3.out.alloc lJ 49)
        have Zz:=hid (ab4.out.keep (aD.below (aF.alloc aH (.cells lJ 49))))
        rw[<-hV8] at G5 Zz ⊢
        refine aJ (RG b w1 [(V7.heap.size,lJ,49),(V0.heap.size,oT,9)]) (fun _ h=>h.tail) G5.out ?_
        clear hV8 ab4
        refine bh ?_
        try simp only[jZ,jP]
        obtain⟨hb4,Aj⟩:=Et (G5.out.blocks (V7.heap.size,lJ,49) bp).2 (.string (ah.bQ ks.length)) (.int .i64 lo) (.int .i64 (lo+t')) (.slice none 0 0)
        have hge:=(G5.out.blocks (V7.heap.size,lJ,49) bp).1
        have xA:=bC (G5.out.blocks (V7.heap.size,lJ,49) bp).2
        obtain⟨⟨b0,b1,b2,b3⟩,bz⟩:=xA
        have qh:=hid (KS.mk3 Zy.out HR.out wP.out Ag.out O4 HO.out Zx G5.out.turn Zz.out hge hb4 Aj)
        clear hb4 Aj hge G5 Zz
        exact BF
      case p6=>
        go_wp2
        obtain⟨V9,hV9⟩:=bB (V4.alloc (.cells lJ 49))
        have Ue:=hid (O8.out.alloc lJ 49)
        have ZA:=hid (O9.out.keep (aD.below (aF.alloc aH (.cells lJ 49))))
        rw[<-hV9] at Ue ZA ⊢
        refine aJ (RG b w1 [(V4.heap.size,lJ,49),(V0.heap.size,oT,9)]) (fun _ h=>h.tail) Ue.out ?_
        clear hV9 O9
        refine aT rfl ?_
        go_wp2_with fail
        refine(bE 5 aB aB b (N+1) aB _ ZA.out).mono ?_
        rintro e V10 ⟨t',rfl,iz,kL,hm',ht', -⟩
        have BG:=hid (Ue.out.take ny.out ht')
        have WI:=hid hm'
        clear hm' ht' Ue ZA
        go_wp2
        refine aJ (RG b w1 [(V4.heap.size,lJ,49),(V0.heap.size,oT,9)]) (fun _ h=>h) BG.out ?_
        refine aV rfl ?_
        intro hne
        have hq:IntKind.i64.wrap (lo+t')=lo+t':=IntWalk.i64_in _ aB
        go_big_quiet_step (fail)
        refine iL ?_
        clear hne hq
        refine fE ?_
        refine bh ?_
        try simp only[jZ,jP]
        obtain⟨hb4,Aj⟩:=Et (BG.out.blocks (V4.heap.size,lJ,49) bp).2 (.string (ah.bQ ks.length)) (.int .i64 lo) (.int .i64 (lo+t')) (.slice none 0 0)
        have hge:=(BG.out.blocks (V4.heap.size,lJ,49) bp).1
        have xA:=bC (BG.out.blocks (V4.heap.size,lJ,49) bp).2
        obtain⟨⟨b0,b1,b2,b3⟩,bz⟩:=xA
        have qh:=hid (KS.mk3 Zy.out HR.out wP.out Ag.out O4 HO.out Zx BG.out.turn WI.out hge hb4 Aj)
        clear hb4 Aj hge BG WI
        exact BF
    case p2=>
      go_wp2_with fail
      refine(bE 5 aB aB b (N+1) aB _ eM.out).mono ?_
      rintro e Kf ⟨t',rfl,iz,kL,hm',ht', -⟩
      have Pa:=hid (dG.out.take ny.out ht')
      have Kg:=hid hm'
      clear hm' ht' dG eM
      go_wp2
      refine aJ (RG b w1 []) (fun _ h=>h) Pa.out ?_
      refine aV rfl ?_
      intro hne
      have hq:IntKind.i64.wrap (lo+t')=lo+t':=IntWalk.i64_in _ aB
      go_big_quiet_step (fail)
      refine iL ?_
      clear hne hq
      refine eD rfl rfl ?p12 ?p13
      case p12=>
        go_wp2
        obtain⟨V14,ab5⟩:=bB (Kf.alloc (.cells oT 9))
        have Pb:=hid (Pa.out.alloc oT 9)
        have Pc:=hid (Kg.out.keep (aD.below (aF.alloc aH (.cells oT 9))))
        rw[<-ab5] at Pb Pc ⊢
        refine aJ (RG b w1 [(Kf.heap.size,oT,9)]) (fun _ h=>h.tail) Pb.out ?_
        clear ab5 Kg
        refine aV rfl ?_
        intro hne
        have hq:dX (some ⟨Kf.heap.size,0,none⟩) 3:=fun _=>⟨_,_,rfl⟩
        go_big_quiet_step (fail)
        refine iL ?_
        clear hne hq
        refine aV rfl ?_
        intro hne
        have hq:∀x:Held (RG b w1 [(Kf.heap.size,oT,9)]),x.1.cell? ⟨Kf.heap.size,ks.length,none⟩=some (.string (ah.bQ ks.length)):=fun x=>RG.cell x Kf.heap.size oT 9 bp Ud.out
        go_big_quiet_step (fail)
        refine iL ?_
        clear hne hq
        refine fE ?_
        refine aT rfl ?_
        go_wp2
        obtain⟨V15,ab6⟩:=bB (V14.alloc (.cells lJ 49))
        have yg:=hid (Pb.out.alloc lJ 49)
        have Pf:=hid (Pc.out.keep (aD.below (aF.alloc aH (.cells lJ 49))))
        rw[<-ab6] at yg Pf ⊢
        refine aJ (RG b w1 [(V14.heap.size,lJ,49),(Kf.heap.size,oT,9)]) (fun _ h=>h.tail) yg.out ?_
        clear ab6 Pc
        refine bh ?_
        try simp only[jZ,jP]
        obtain⟨hb4,Aj⟩:=Et (yg.out.blocks (V14.heap.size,lJ,49) bp).2 (.string (ah.bQ ks.length)) (.int .i64 lo) (.int .i64 (lo+t')) (.slice none 0 0)
        have hge:=(yg.out.blocks (V14.heap.size,lJ,49) bp).1
        have xA:=bC (yg.out.blocks (V14.heap.size,lJ,49) bp).2
        obtain⟨⟨b0,b1,b2,b3⟩,bz⟩:=xA
        have qh:=hid (KS.mk3 Zy.out HR.out wP.out Ag.out O4 HO.out Zx yg.out.turn Pf.out hge hb4 Aj)
        clear hb4 Aj hge yg Pf
        exact BF
      case p13=>
        go_wp2
        obtain⟨V16,ab7⟩:=bB (Kf.alloc (.cells lJ 49))
        have Pg:=hid (Pa.out.alloc lJ 49)
        have Ph:=hid (Kg.out.keep (aD.below (aF.alloc aH (.cells lJ 49))))
        rw[<-ab7] at Pg Ph ⊢
        refine aJ (RG b w1 [(Kf.heap.size,lJ,49)]) (fun _ h=>h.tail) Pg.out ?_
        clear ab7 Kg
        refine aT rfl ?_
        go_wp2
        obtain⟨V17,ab8⟩:=bB (V16.alloc (.cells oT 9))
        have yh:=hid (Pg.out.alloc oT 9)
        have Pj:=hid (Ph.out.keep (aD.below (aF.alloc aH (.cells oT 9))))
        rw[<-ab8] at yh Pj ⊢
        refine aJ (RG b w1 [(V16.heap.size,oT,9),(Kf.heap.size,lJ,49)]) (fun _ h=>h.tail) yh.out ?_
        clear ab8 Ph
        refine aV rfl ?_
        intro hne
        have hq:dX (some ⟨V16.heap.size,0,none⟩) 3:=fun _=>⟨_,_,rfl⟩
        go_big_quiet_step (fail)
        refine iL ?_
        clear hne hq
        refine aV rfl ?_
        intro hne
        have hq:∀x:Held (RG b w1 [(V16.heap.size,oT,9),(Kf.heap.size,lJ,49)]),x.1.cell? ⟨V16.heap.size,ks.length,none⟩=some (.string (ah.bQ ks.length)):=fun x=>RG.cell x V16.heap.size oT 9 bp Ud.out
        go_big_quiet_step (fail)
        refine iL ?_
        clear hne hq
        refine fE ?_
        refine bh ?_
        try simp only[jZ,jP]
        obtain⟨hb4,Aj⟩:=Et (yh.out.blocks (Kf.heap.size,lJ,49) bp).2 (.string (ah.bQ ks.length)) (.int .i64 lo) (.int .i64 (lo+t')) (.slice none 0 0)
        have hge:=(yh.out.blocks (Kf.heap.size,lJ,49) bp).1
        have xA:=bC (yh.out.blocks (Kf.heap.size,lJ,49) bp).2
        obtain⟨⟨b0,b1,b2,b3⟩,bz⟩:=xA
        have qh:=hid (KS.mk3 Zy.out HR.out wP.out Ag.out O4 HO.out Zx yh.out.turn Pj.out hge hb4 Aj)
        clear hb4 Aj hge yh Pj
        exact BF
    case p3=>
      go_wp2
      obtain⟨ZB,ab9⟩:=bB (V0.alloc (.cells lJ 49))
      have EA:=hid (dG.out.alloc lJ 49)
      have EB:=hid (eM.out.keep (aD.below (aF.alloc aH (.cells lJ 49))))
      rw[<-ab9] at EA EB ⊢
      refine aJ (RG b w1 [(V0.heap.size,lJ,49)]) (fun _ h=>h.tail) EA.out ?_
      clear ab9 eM
      refine eD rfl rfl ?p19 ?p20
      case p19=>
        go_wp2
        obtain⟨V21,acd⟩:=bB (ZB.alloc (.cells oT 9))
        have Kh:=hid (EA.out.alloc oT 9)
        have Pk:=hid (EB.out.keep (aD.below (aF.alloc aH (.cells oT 9))))
        rw[<-acd] at Kh Pk ⊢
        refine aJ (RG b w1 [(ZB.heap.size,oT,9),(V0.heap.size,lJ,49)]) (fun _ h=>h.tail) Kh.out ?_
        clear acd EB
        refine aV rfl ?_
        intro hne
        have hq:dX (some ⟨ZB.heap.size,0,none⟩) 3:=fun _=>⟨_,_,rfl⟩
        go_big_quiet_step (fail)
        refine iL ?_
        clear hne hq
        refine aV rfl ?_
        intro hne
        have hq:∀x:Held (RG b w1 [(ZB.heap.size,oT,9),(V0.heap.size,lJ,49)]),x.1.cell? ⟨ZB.heap.size,ks.length,none⟩=some (.string (ah.bQ ks.length)):=fun x=>RG.cell x ZB.heap.size oT 9 bp Ud.out
        go_big_quiet_step (fail)
        refine iL ?_
        clear hne hq
        refine aT rfl ?_
        go_wp2_with fail
        refine(bE 5 aB aB b (N+1) aB _ Pk.out).mono ?_
        rintro e V22 ⟨t',rfl,iz,kL,hm',ht', -⟩
        have BH:=hid (Kh.out.take ny.out ht')
        have WJ:=hid hm'
        clear hm' ht' Kh Pk
        go_wp2
        refine aJ (RG b w1 [(ZB.heap.size,oT,9),(V0.heap.size,lJ,49)]) (fun _ h=>h) BH.out ?_
        refine aV rfl ?_
        intro hne
        have hq:IntKind.i64.wrap (lo+t')=lo+t':=IntWalk.i64_in _ aB
        go_big_quiet_step (fail)
        refine iL ?_
        clear hne hq
        refine fE ?_
        refine bh ?_
        try simp only[jZ,jP]
        obtain⟨hb4,Aj⟩:=Et (BH.out.blocks (V0.heap.size,lJ,49) bp).2 (.string (ah.bQ ks.length)) (.int .i64 lo) (.int .i64 (lo+t')) (.slice none 0 0)
        have hge:=(BH.out.blocks (V0.heap.size,lJ,49) bp).1
        have xA:=bC (BH.out.blocks (V0.heap.size,lJ,49) bp).2
        obtain⟨⟨b0,b1,b2,b3⟩,bz⟩:=xA
        have qh:=hid (KS.mk3 Zy.out HR.out wP.out Ag.out O4 HO.out Zx BH.out.turn WJ.out hge hb4 Aj)
        clear hb4 Aj hge BH WJ
        exact BF
      case p20=>
        go_wp2_with fail
        refine(bE 5 aB aB b (N+1) aB _ EB.out).mono ?_
        rintro e V23 ⟨t',rfl,iz,kL,hm',ht', -⟩
        have WK:=hid (EA.out.take ny.out ht')
        have WL:=hid hm'
        clear hm' ht' EA EB
        go_wp2
        refine aJ (RG b w1 [(V0.heap.size,lJ,49)]) (fun _ h=>h) WK.out ?_
        refine aV rfl ?_
        intro hne
        have hq:IntKind.i64.wrap (lo+t')=lo+t':=IntWalk.i64_in _ aB
        go_big_quiet_step (fail)
        refine iL ?_
        clear hne hq
        refine aT rfl ?_
        go_wp2
        obtain⟨V24,ace⟩:=bB (V23.alloc (.cells oT 9))
        have yj:=hid (WK.out.alloc oT 9)
        have Pm:=hid (WL.out.keep (aD.below (aF.alloc aH (.cells oT 9))))
        rw[<-ace] at yj Pm ⊢
        refine aJ (RG b w1 [(V23.heap.size,oT,9),(V0.heap.size,lJ,49)]) (fun _ h=>h.tail) yj.out ?_
        clear ace WL
        refine aV rfl ?_
        intro hne
        have hq:dX (some ⟨V23.heap.size,0,none⟩) 3:=fun _=>⟨_,_,rfl⟩
        go_big_quiet_step (fail)
        refine iL ?_
        clear hne hq
        refine aV rfl ?_
        intro hne
        have hq:∀x:Held (RG b w1 [(V23.heap.size,oT,9),(V0.heap.size,lJ,49)]),x.1.cell? ⟨V23.heap.size,ks.length,none⟩=some (.string (ah.bQ ks.length)):=fun x=>RG.cell x V23.heap.size oT 9 bp Ud.out
        go_big_quiet_step (fail)
        refine iL ?_
        clear hne hq
        refine fE ?_
        refine bh ?_
        try simp only[jZ,jP]
        obtain⟨hb4,Aj⟩:=Et (yj.out.blocks (V0.heap.size,lJ,49) bp).2 (.string (ah.bQ ks.length)) (.int .i64 lo) (.int .i64 (lo+t')) (.slice none 0 0)
        have hge:=(yj.out.blocks (V0.heap.size,lJ,49) bp).1
        have xA:=bC (yj.out.blocks (V0.heap.size,lJ,49) bp).2
        obtain⟨⟨b0,b1,b2,b3⟩,bz⟩:=xA
        have qh:=hid (KS.mk3 Zy.out HR.out wP.out Ag.out O4 HO.out Zx yj.out.turn Pm.out hge hb4 Aj)
        clear hb4 Aj hge yj Pm
        exact BF
  case rest=>
    obtain⟨K,hi,rfl,HI,HK⟩:=hcut
    clear DW Ag wP HR HM HO h0 h6
    obtain⟨av,nv,cv,hn0,hbx,tV,hG⟩:=HK.out.box
    have hn1:nv=0:=hn0
    subst hn1
    have jO:=hid hbx
    have HOW:=hid tV
    have HG:=hid hG
    obtain⟨⟨-, -, -,b3⟩, -⟩:=bC hbx
    have ny:Hid (b<wc.heap.size):=hid (by have:=HK.out.lb;have:=HK.out.turn.size;omega)
    have hKb:K≠b:=by have:=HK.out.lb;have:=HK.out.ge;omega
    clear hn0 hbx tV hG
    go_upto_region 4 with fail
    go_cut [] from 31 to 42 (fun wx=>∃x:Int,Hid (-3<=x/\x<=100)/\Hid (KS S b (N+3) B w none (.slice a ks.length c) ks K (ah.bQ ks.length) lo hi [ah.pK x] wx))
    case first=>
      have dG:=hid (RG.start b wc)
      have eM:=hid (HK.out.mO.keep (aD.below (aI aF 1)))
      obtain⟨V0,sD⟩:=bB (wc.drewN 1)
      refine aZ 9 (.quiet 0 (.quiet 1 (.quiet 3 (.two 2 4 (.one 4 (.quiet 5 (.quiet 6 (.quiet 7 (.one 8 .done))))) (.one 2 (.quiet 5 (.quiet 6 (.quiet 7 (.one 8 .done))))))))) (RG b wc []) oL (by kernel_rfl) dG.out ?_
      rw[<-sD] at dG eM ⊢
      clear sD
      refine fE ?_
      refine aV rfl ?_
      intro hne
      have hq:∀x:Held (RG b wc []),x.1.cell? ⟨K,3,none⟩=some (.slice av 0 cv):=fun x=>RG.old x hKb b3
      go_big_quiet_step (fail)
      refine iL ?_
      clear hne hq
      refine fE ?_
      refine eD rfl rfl ?p25 ?p26
      case p25=>
        go_wp2
        obtain⟨V27,acf⟩:=bB (V0.alloc (.cells G4 3))
        have Ki:=hid (dG.out.alloc G4 3)
        have Pn:=hid (eM.out.keep (aD.below (aF.alloc aH (.cells G4 3))))
        rw[<-acf] at Ki Pn ⊢
        refine aJ (RG b wc [(V0.heap.size,G4,3)]) (fun _ h=>h.tail) Ki.out ?_
        clear acf eM
        refine aT rfl ?_
        go_wp2_with fail
        refine(bE 4 aB aB b (N+2) aB _ Pn.out).mono ?_
        rintro e V28 ⟨t',rfl,iz,kL,hm',ht', -⟩
        have vg:=hid (Ki.out.take ny.out ht')
        have WM:=hid hm'
        clear hm' ht' Ki Pn
        go_wp2
        refine aJ (RG b wc [(V0.heap.size,G4,3)]) (fun _ h=>h) vg.out ?_
        refine aV rfl ?_
        intro hne
        have hq:dX (some ⟨V0.heap.size,0,none⟩) 4:=fun _=>⟨_,_,rfl⟩
        go_big_quiet_step (fail)
        refine iL ?_
        clear hne hq
        refine aV rfl ?_
        intro hne
        obtain⟨x,hx,hxc⟩:=pQ [0,1,100, -3] t' iz Ef
        have hx2: -3<=x/\x<=100:=Eb
        obtain⟨hx3,xA⟩:=hx2
        have C8:=hid hxc
        clear hx hxc
        have hq:∀x1:Held (RG b wc [(V0.heap.size,G4,3)]),x1.1.cell? ⟨V0.heap.size,t'.toNat,none⟩=some (.int .i64 x):=fun x1=>RG.cell x1 V0.heap.size G4 3 bp C8.out
        go_big_quiet_step (fail)
        refine iL ?_
        clear hne hq
        refine fE ?_
        refine aT rfl ?_
        go_wp2
        refine aJ (RG b wc [(V0.heap.size,G4,3)]) (fun _ h=>h) (vg.out.alloc _ _).tail ?_
        refine bh ?_
        try simp only[jZ,jP]
        have EC:=hid (HOW.out.keep bD (aD.dD vg.out.turn (fun x hx e=>by
          have hge:=HK.out.ge
          have hlb:=HK.out.lb
          rcases hx with hx|hx
          · have:K<x:=hx;omega
          · have:=(HOW.out.lt x hx).1;omega)))
        go_wp2_with (at_builtin;go_must (refine di bD rfl _ _ rfl Tryz.jt rfl EC.out (us:=cF (ah.pK x) (.slice none 0 0) (.slice none 0 0)) rfl rfl rfl (ah.pK x) (iH (f:=ah.pK x) rfl rfl) (qg (f:=ah.pK x)) bp (by have:=(vg.out.turn).size;have:=aC jO.out;omega) ?_))
        intro v' w' how' ht' hn'
        obtain⟨a',c',hv', -⟩:=how'.form
        simp only[List.nil_append,List.length_cons,List.length_nil,Nat.zero_add] at hv'
        subst hv'
        have qh:=hid (KS.app (HK.out) jO.out (fun x hx=>by have:=(HOW.out.lt x hx).1;omega) vg.out.turn WM.out HG.out how' rfl ht' hn')
        have yo:=(ht'.block K (fun e=>by have:=(HOW.out.lt K e.symm).1;omega) (aC (vg.out.block hKb jO.out))).trans (vg.out.block hKb jO.out)
        obtain⟨⟨-, -, -,d3⟩,dz⟩:=bC yo
        have Po:=dz 3
        clear how' ht' hn' EC yo dz vg WM
        go_wp2
        go_meet
        case rel=>exact⟨x,hid ⟨hx3,xA⟩,qh⟩
      case p26=>
        go_wp2_with fail
        refine(bE 4 aB aB b (N+2) aB _ eM.out).mono ?_
        rintro e ZC ⟨t',rfl,iz,kL,hm',ht', -⟩
        have WN:=hid (dG.out.take ny.out ht')
        have WO:=hid hm'
        clear hm' ht' dG eM
        go_wp2
        refine aJ (RG b wc []) (fun _ h=>h) WN.out ?_
        refine aT rfl ?_
        go_wp2
        obtain⟨V30,acg⟩:=bB (ZC.alloc (.cells G4 3))
        have sE:=hid (WN.out.alloc G4 3)
        have Pp:=hid (WO.out.keep (aD.below (aF.alloc aH (.cells G4 3))))
        rw[<-acg] at sE Pp ⊢
        refine aJ (RG b wc [(ZC.heap.size,G4,3)]) (fun _ h=>h.tail) sE.out ?_
        clear acg WO
        refine aV rfl ?_
        intro hne
        have hq:dX (some ⟨ZC.heap.size,0,none⟩) 4:=fun _=>⟨_,_,rfl⟩
        go_big_quiet_step (fail)
        refine iL ?_
        clear hne hq
        refine aV rfl ?_
        intro hne
        obtain⟨x,hx,hxc⟩:=pQ [0,1,100, -3] t' iz Ef
        have hx2: -3<=x/\x<=100:=Eb
        obtain⟨hx3,xA⟩:=hx2
        have C8:=hid hxc
        clear hx hxc
        have hq:∀x1:Held (RG b wc [(ZC.heap.size,G4,3)]),x1.1.cell? ⟨ZC.heap.size,t'.toNat,none⟩=some (.int .i64 x):=fun x1=>RG.cell x1 ZC.heap.size G4 3 bp C8.out
        go_big_quiet_step (fail)
        refine iL ?_
        clear hne hq
        refine fE ?_
        refine aT rfl ?_
        go_wp2
        refine aJ (RG b wc [(ZC.heap.size,G4,3)]) (fun _ h=>h) (sE.out.alloc _ _).tail ?_
        refine bh ?_
        try simp only[jZ,jP]
        have EC:=hid (HOW.out.keep bD (aD.dD sE.out.turn (fun x hx e=>by
          have hge:=HK.out.ge
          have hlb:=HK.out.lb
          rcases hx with hx|hx
          · have:K<x:=hx;omega
          · have:=(HOW.out.lt x hx).1;omega)))
        go_wp2_with (at_builtin;go_must (refine di bD rfl _ _ rfl Tryz.jt rfl EC.out (us:=cF (ah.pK x) (.slice none 0 0) (.slice none 0 0)) rfl rfl rfl (ah.pK x) (iH (f:=ah.pK x) rfl rfl) (qg (f:=ah.pK x)) bp (by have:=(sE.out.turn).size;have:=aC jO.out;omega) ?_))
        intro v' w' how' ht' hn'
        obtain⟨a',c',hv', -⟩:=how'.form
        simp only[List.nil_append,List.length_cons,List.length_nil,Nat.zero_add] at hv'
        subst hv'
        have qh:=hid (KS.app (HK.out) jO.out (fun x hx=>by have:=(HOW.out.lt x hx).1;omega) sE.out.turn Pp.out HG.out how' rfl ht' hn')
        have yo:=(ht'.block K (fun e=>by have:=(HOW.out.lt K e.symm).1;omega) (aC (sE.out.block hKb jO.out))).trans (sE.out.block hKb jO.out)
        obtain⟨⟨-, -, -,d3⟩,dz⟩:=bC yo
        have Po:=dz 3
        clear how' ht' hn' EC yo dz sE Pp
        go_wp2
        go_meet
        case rel=>exact⟨x,hid ⟨hx3,xA⟩,qh⟩
    case rest=>
      obtain⟨x,HX,SX⟩:=hcut
      clear HK jO HOW HG ny b3
      go_upto_if 43 with fail
      go_cut [] from 8 to 135 (fun wx=>∃G ks' hs,Hid (ks'.length=ks.length)/\Hid (ah.oh ks (ah.bQ ks.length) ks' hs)/\Hid (KS S b (N+20) B w G (.slice a ks.length c) ks' K (ah.bQ ks.length) lo hi hs wx))
      case first=>
        by_cases hn:ks.length=0
        · have hn1:¬(0:Int)<ks.length:=by omega
          have HE:=hid hn
          clear hn
          go_wp2
          go_meet
          case rel=>exact⟨none,ks,[ah.pK x],hid rfl,hid ⟨x,HX.out.1,HX.out.2,.inl ⟨List.eq_nil_of_length_eq_zero HE.out,rfl,rfl⟩⟩,hid (SX.out.more aB)⟩
        · have hn1:(0:Int)<ks.length:=by omega
          have hn2:0<ks.length:=aB
          clear hn
          obtain⟨g,hag, -,hBg, -, -⟩:=SX.out.own.xQ hn2
          subst hag
          go_wp2_with fail
          refine(bE ks.length aB aB b (N+3) aB _ SX.out.mO).mono ?_
          rintro e W2 ⟨t,rfl,ED,EF,hm2,ht2, -⟩
          obtain⟨m,rfl⟩:∃m:Nat,t=(m:Int):=⟨t.toNat,aB⟩
          have hmn:m<ks.length:=aB
          have oU:=hid (SX.out.grow ht2 hm2)
          clear hm2 ht2 SX
          obtain⟨av,nv,cv,hn0,hbx,tV, -⟩:=oU.out.box
          have ZE:nv=1:=hn0
          subst ZE
          have jO:=hid hbx
          have HOW:=hid tV
          have ny:Hid (b<W2.heap.size):=hid (by have:=oU.out.lb;have:=oU.out.turn.size;omega)
          have hgb:g≠b:=aB
          obtain⟨-, -,c0, -, -, -⟩:=oU.out.O1.at hmn
          simp only[fZ,f9,Nat.zero_add] at c0
          have hsk:dX (some ⟨g,0,none⟩) ks.length:=fun _=>⟨_,_,rfl⟩
          obtain⟨kd,hkd⟩:=bB (ks[m])
          rw[<-hkd] at c0
          have LK:=hid hkd
          have TK:Hid (kd=ah.iR ks m):=hid (by rw[hkd,ah.iR,jm,lE hmn];rfl)
          clear hn0 hbx tV hkd
          go_upto_region 7 with fail
          go_cut [9] from 9 to 57 (fun f wx=>∃F,∃h':Int,f=.pointer (some ⟨F,0,none⟩)/\Hid (2<=h'/\h'<=8)/\Hid (RG b W2 [(F,(cF (ah.uW kd.name 0 h') (.slice none 0 0) (.slice none 0 0)).toArray,46)] wx)/\Hid (gq wx b (N+5)))
          case first=>
            have dG:=hid (RG.start b W2)
            have eM:=hid (oU.out.mO.keep (aD.below (aI aF 1)))
            obtain⟨V0,sD⟩:=bB (W2.drewN 1)
            refine aZ 12 (.quiet 0 (.quiet 1 (.quiet 2 (.quiet 3 (.quiet 4 (.quiet 6 (.three 5 7 11 (.two 7 11 (.quiet 8 (.quiet 9 (.quiet 10 (.one 11 .done)))) (.one 7 (.quiet 8 (.quiet 9 (.quiet 10 .done))))) (.two 5 11 (.quiet 8 (.quiet 9 (.quiet 10 (.one 11 .done)))) (.one 5 (.quiet 8 (.quiet 9 (.quiet 10 .done))))) (.two 5 7 (.one 7 (.quiet 8 (.quiet 9 (.quiet 10 .done)))) (.one 5 (.quiet 8 (.quiet 9 (.quiet 10 .done)))))))))))) (RG b W2 []) oL (by kernel_rfl) dG.out ?_
            rw[<-sD] at dG eM ⊢
            clear sD
            iterate 4 refine fE ?_
            refine aV rfl ?_
            intro hne
            have hq:∀x:Held (RG b W2 []),x.1.cell? ⟨g,m*4,none⟩=some (.string kd.name):=fun x=>RG.old x hgb c0
            go_big_quiet_step (fail)
            refine iL ?_
            clear hne hq
            refine fE ?_
            refine uZ rfl rfl rfl ?p31 ?p32 ?p33
            case p31=>
              go_wp2
              obtain⟨G6,ach⟩:=bB (V0.alloc (.cells oP 3))
              have EG:=hid (dG.out.alloc oP 3)
              have EH:=hid (eM.out.keep (aD.below (aF.alloc aH (.cells oP 3))))
              rw[<-ach] at EG EH ⊢
              refine aJ (RG b W2 [(V0.heap.size,oP,3)]) (fun _ h=>h.tail) EG.out ?_
              clear ach eM
              refine eD rfl rfl ?p35 ?p36
              case p35=>
                go_wp2_with fail
                refine(bE 4 aB aB b (N+4) aB _ EH.out).mono ?_
                rintro e LL ⟨t',rfl,iz,kL,hm',ht', -⟩
                have WQ:=hid (EG.out.take ny.out ht')
                have WR:=hid hm'
                clear hm' ht' EG EH
                go_wp2
                refine aJ (RG b W2 [(V0.heap.size,oP,3)]) (fun _ h=>h) WQ.out ?_
                refine aV rfl ?_
                intro hne
                have hq:dX (some ⟨V0.heap.size,0,none⟩) 4:=fun _=>⟨_,_,rfl⟩
                go_big_quiet_step (fail)
                refine iL ?_
                clear hne hq
                refine aV rfl ?_
                intro hne
                obtain⟨h',hx,hxc⟩:=pQ [4,3,8,2] t' iz Ef
                have hx2:2<=h'/\h'<=8:=Eb
                obtain⟨hx3,xA⟩:=hx2
                have C8:=hid hxc
                clear hx hxc
                have hq:∀x1:Held (RG b W2 [(V0.heap.size,oP,3)]),x1.1.cell? ⟨V0.heap.size,t'.toNat,none⟩=some (.int .i64 h'):=fun x1=>RG.cell x1 V0.heap.size oP 3 bp C8.out
                go_big_quiet_step (fail)
                refine iL ?_
                clear hne hq
                refine fE ?_
                refine aT rfl ?_
                go_wp2
                obtain⟨V38,aci⟩:=bB (LL.alloc (.cells mN 46))
                have EI:=hid (WQ.out.alloc mN 46)
                have Pq:=hid (WR.out.keep (aD.below (aF.alloc aH (.cells mN 46))))
                rw[<-aci] at EI Pq ⊢
                refine aJ (RG b W2 [(LL.heap.size,mN,46),(V0.heap.size,oP,3)]) (fun _ h=>h.tail) EI.out ?_
                clear aci WR
                refine bh ?_
                try simp only[jZ,jP]
                have hbl:=EI.out.blocks (LL.heap.size,mN,46) bp
                have EJ:RG b W2 [(LL.heap.size,mN,46)] V38:=EI.out.sub (fun y hy=>by obtain rfl:=mL.1 hy;simp)
                have HRG:=hid (EJ.tU (.string ah.sx) (.string kd.name) (.string ah.nil) (.int .i64 1) (.int .i64 0) (.int .i64 h') (.slice none 0 0) (.slice none 0 0))
                have HMK:=hid (Pq.out.keep (w':=(((((((V38.setCell ⟨LL.heap.size,0,none⟩ (.string ah.sx)).setCell ⟨LL.heap.size,1,none⟩ (.string kd.name)).setCell ⟨LL.heap.size,2,none⟩ (.string ah.nil)).setCell ⟨LL.heap.size,3,none⟩ (.int .i64 1)).setCell ⟨LL.heap.size,4,none⟩ (.int .i64 0)).setCell ⟨LL.heap.size,5,none⟩ (.int .i64 h')).setCell ⟨LL.heap.size,6,none⟩ (.slice none 0 0)).setCell ⟨LL.heap.size,7,none⟩ (.slice none 0 0)) (fun y hy _=>mV () (show y≠LL.heap.size by have:=ny.out;have:=hbl.1;omega) _ _ _ _ _ _ _ _))
                obtain⟨⟨y0,y1,y2,y3,y4,y5,y6,y7⟩,yz⟩:=dK hbl.2
                clear hbl EJ EI Pq
                exact BD
              case p36=>
                go_wp2
                obtain⟨V39,acj⟩:=bB (G6.alloc (.cells mN 46))
                have Kj:=hid (EG.out.alloc mN 46)
                have Pr:=hid (EH.out.keep (aD.below (aF.alloc aH (.cells mN 46))))
                rw[<-acj] at Kj Pr ⊢
                refine aJ (RG b W2 [(G6.heap.size,mN,46),(V0.heap.size,oP,3)]) (fun _ h=>h.tail) Kj.out ?_
                clear acj EH
                refine aT rfl ?_
                go_wp2_with fail
                refine(bE 4 aB aB b (N+4) aB _ Pr.out).mono ?_
                rintro e V40 ⟨t',rfl,iz,kL,hm',ht', -⟩
                have Kk:=hid (Kj.out.take ny.out ht')
                have WS:=hid hm'
                clear hm' ht' Kj Pr
                go_wp2
                refine aJ (RG b W2 [(G6.heap.size,mN,46),(V0.heap.size,oP,3)]) (fun _ h=>h) Kk.out ?_
                refine aV rfl ?_
                intro hne
                have hq:dX (some ⟨V0.heap.size,0,none⟩) 4:=fun _=>⟨_,_,rfl⟩
                go_big_quiet_step (fail)
                refine iL ?_
                clear hne hq
                refine aV rfl ?_
                intro hne
                obtain⟨h',hx,hxc⟩:=pQ [4,3,8,2] t' iz Ef
                have hx2:2<=h'/\h'<=8:=Eb
                obtain⟨hx3,xA⟩:=hx2
                have C8:=hid hxc
                clear hx hxc
                have hq:∀x1:Held (RG b W2 [(G6.heap.size,mN,46),(V0.heap.size,oP,3)]),x1.1.cell? ⟨V0.heap.size,t'.toNat,none⟩=some (.int .i64 h'):=fun x1=>RG.cell x1 V0.heap.size oP 3 bp C8.out
                go_big_quiet_step (fail)
                refine iL ?_
                clear hne hq
                refine fE ?_
                refine bh ?_
                try simp only[jZ,jP]
                have hbl:=Kk.out.blocks (G6.heap.size,mN,46) bp
                have EJ:RG b W2 [(G6.heap.size,mN,46)] V40:=Kk.out.sub (fun y hy=>by obtain rfl:=mL.1 hy;simp)
                have HRG:=hid (EJ.tU (.string ah.sx) (.string kd.name) (.string ah.nil) (.int .i64 1) (.int .i64 0) (.int .i64 h') (.slice none 0 0) (.slice none 0 0))
                have HMK:=hid (WS.out.keep (w':=(((((((V40.setCell ⟨G6.heap.size,0,none⟩ (.string ah.sx)).setCell ⟨G6.heap.size,1,none⟩ (.string kd.name)).setCell ⟨G6.heap.size,2,none⟩ (.string ah.nil)).setCell ⟨G6.heap.size,3,none⟩ (.int .i64 1)).setCell ⟨G6.heap.size,4,none⟩ (.int .i64 0)).setCell ⟨G6.heap.size,5,none⟩ (.int .i64 h')).setCell ⟨G6.heap.size,6,none⟩ (.slice none 0 0)).setCell ⟨G6.heap.size,7,none⟩ (.slice none 0 0)) (fun y hy _=>mV () (show y≠G6.heap.size by have:=ny.out;have:=hbl.1;omega) _ _ _ _ _ _ _ _))
                obtain⟨⟨y0,y1,y2,y3,y4,y5,y6,y7⟩,yz⟩:=dK hbl.2
                clear hbl EJ Kk WS
                exact BD
            case p32=>
              go_wp2_with fail
              refine(bE 4 aB aB b (N+4) aB _ eM.out).mono ?_
              rintro e Ak ⟨t',rfl,iz,kL,hm',ht', -⟩
              have Ps:=hid (dG.out.take ny.out ht')
              have Kl:=hid hm'
              clear hm' ht' dG eM
              go_wp2
              refine aJ (RG b W2 []) (fun _ h=>h) Ps.out ?_
              refine eD rfl rfl ?p42 ?p43
              case p42=>
                go_wp2
                obtain⟨LM,acn⟩:=bB (Ak.alloc (.cells oP 3))
                have Pt:=hid (Ps.out.alloc oP 3)
                have Pu:=hid (Kl.out.keep (aD.below (aF.alloc aH (.cells oP 3))))
                rw[<-acn] at Pt Pu ⊢
                refine aJ (RG b W2 [(Ak.heap.size,oP,3)]) (fun _ h=>h.tail) Pt.out ?_
                clear acn Kl
                refine aV rfl ?_
                intro hne
                have hq:dX (some ⟨Ak.heap.size,0,none⟩) 4:=fun _=>⟨_,_,rfl⟩
                go_big_quiet_step (fail)
                refine iL ?_
                clear hne hq
                refine aV rfl ?_
                intro hne
                obtain⟨h',hx,hxc⟩:=pQ [4,3,8,2] t' iz Ef
                have hx2:2<=h'/\h'<=8:=Eb
                obtain⟨hx3,xA⟩:=hx2
                have C8:=hid hxc
                clear hx hxc
                have hq:∀x1:Held (RG b W2 [(Ak.heap.size,oP,3)]),x1.1.cell? ⟨Ak.heap.size,t'.toNat,none⟩=some (.int .i64 h'):=fun x1=>RG.cell x1 Ak.heap.size oP 3 bp C8.out
                go_big_quiet_step (fail)
                refine iL ?_
                clear hne hq
                refine fE ?_
                refine aT rfl ?_
                go_wp2
                obtain⟨V45,aco⟩:=bB (LM.alloc (.cells mN 46))
                have EK:=hid (Pt.out.alloc mN 46)
                have Pv:=hid (Pu.out.keep (aD.below (aF.alloc aH (.cells mN 46))))
                rw[<-aco] at EK Pv ⊢
                refine aJ (RG b W2 [(LM.heap.size,mN,46),(Ak.heap.size,oP,3)]) (fun _ h=>h.tail) EK.out ?_
                clear aco Pu
                refine bh ?_
                try simp only[jZ,jP]
                have hbl:=EK.out.blocks (LM.heap.size,mN,46) bp
                have EJ:RG b W2 [(LM.heap.size,mN,46)] V45:=EK.out.sub (fun y hy=>by obtain rfl:=mL.1 hy;simp)
                have HRG:=hid (EJ.tU (.string ah.sx) (.string kd.name) (.string ah.nil) (.int .i64 1) (.int .i64 0) (.int .i64 h') (.slice none 0 0) (.slice none 0 0))
                have HMK:=hid (Pv.out.keep (w':=(((((((V45.setCell ⟨LM.heap.size,0,none⟩ (.string ah.sx)).setCell ⟨LM.heap.size,1,none⟩ (.string kd.name)).setCell ⟨LM.heap.size,2,none⟩ (.string ah.nil)).setCell ⟨LM.heap.size,3,none⟩ (.int .i64 1)).setCell ⟨LM.heap.size,4,none⟩ (.int .i64 0)).setCell ⟨LM.heap.size,5,none⟩ (.int .i64 h')).setCell ⟨LM.heap.size,6,none⟩ (.slice none 0 0)).setCell ⟨LM.heap.size,7,none⟩ (.slice none 0 0)) (fun y hy _=>mV () (show y≠LM.heap.size by have:=ny.out;have:=hbl.1;omega) _ _ _ _ _ _ _ _))
                obtain⟨⟨y0,y1,y2,y3,y4,y5,y6,y7⟩,yz⟩:=dK hbl.2
                clear hbl EJ EK Pv
                exact BD
              case p43=>
                go_wp2
                obtain⟨V46,acp⟩:=bB (Ak.alloc (.cells mN 46))
                have Pw:=hid (Ps.out.alloc mN 46)
                have Px:=hid (Kl.out.keep (aD.below (aF.alloc aH (.cells mN 46))))
                rw[<-acp] at Pw Px ⊢
                refine aJ (RG b W2 [(Ak.heap.size,mN,46)]) (fun _ h=>h.tail) Pw.out ?_
                clear acp Kl
                refine aT rfl ?_
                go_wp2
                obtain⟨V47,acq⟩:=bB (V46.alloc (.cells oP 3))
                have EL:=hid (Pw.out.alloc oP 3)
                have Py:=hid (Px.out.keep (aD.below (aF.alloc aH (.cells oP 3))))
                rw[<-acq] at EL Py ⊢
                refine aJ (RG b W2 [(V46.heap.size,oP,3),(Ak.heap.size,mN,46)]) (fun _ h=>h.tail) EL.out ?_
                clear acq Px
                refine aV rfl ?_
                intro hne
                have hq:dX (some ⟨V46.heap.size,0,none⟩) 4:=fun _=>⟨_,_,rfl⟩
                go_big_quiet_step (fail)
                refine iL ?_
                clear hne hq
                refine aV rfl ?_
                intro hne
                obtain⟨h',hx,hxc⟩:=pQ [4,3,8,2] t' iz Ef
                have hx2:2<=h'/\h'<=8:=Eb
                obtain⟨hx3,xA⟩:=hx2
                have C8:=hid hxc
                clear hx hxc
                have hq:∀x1:Held (RG b W2 [(V46.heap.size,oP,3),(Ak.heap.size,mN,46)]),x1.1.cell? ⟨V46.heap.size,t'.toNat,none⟩=some (.int .i64 h'):=fun x1=>RG.cell x1 V46.heap.size oP 3 bp C8.out
                go_big_quiet_step (fail)
                refine iL ?_
                clear hne hq
                refine fE ?_
                refine bh ?_
                try simp only[jZ,jP]
                have hbl:=EL.out.blocks (Ak.heap.size,mN,46) bp
                have EJ:RG b W2 [(Ak.heap.size,mN,46)] V47:=EL.out.sub (fun y hy=>by obtain rfl:=mL.1 hy;simp)
                have HRG:=hid (EJ.tU (.string ah.sx) (.string kd.name) (.string ah.nil) (.int .i64 1) (.int .i64 0) (.int .i64 h') (.slice none 0 0) (.slice none 0 0))
                have HMK:=hid (Py.out.keep (w':=(((((((V47.setCell ⟨Ak.heap.size,0,none⟩ (.string ah.sx)).setCell ⟨Ak.heap.size,1,none⟩ (.string kd.name)).setCell ⟨Ak.heap.size,2,none⟩ (.string ah.nil)).setCell ⟨Ak.heap.size,3,none⟩ (.int .i64 1)).setCell ⟨Ak.heap.size,4,none⟩ (.int .i64 0)).setCell ⟨Ak.heap.size,5,none⟩ (.int .i64 h')).setCell ⟨Ak.heap.size,6,none⟩ (.slice none 0 0)).setCell ⟨Ak.heap.size,7,none⟩ (.slice none 0 0)) (fun y hy _=>mV () (show y≠Ak.heap.size by have:=ny.out;have:=hbl.1;omega) _ _ _ _ _ _ _ _))
                obtain⟨⟨y0,y1,y2,y3,y4,y5,y6,y7⟩,yz⟩:=dK hbl.2
                clear hbl EJ EL Py
                exact BD
            case p33=>
              go_wp2
              obtain⟨ZF,acr⟩:=bB (V0.alloc (.cells mN 46))
              have EM:=hid (dG.out.alloc mN 46)
              have EN:=hid (eM.out.keep (aD.below (aF.alloc aH (.cells mN 46))))
              rw[<-acr] at EM EN ⊢
              refine aJ (RG b W2 [(V0.heap.size,mN,46)]) (fun _ h=>h.tail) EM.out ?_
              clear acr eM
              refine eD rfl rfl ?p49 ?p50
              case p49=>
                go_wp2
                obtain⟨V51,acs⟩:=bB (ZF.alloc (.cells oP 3))
                have Km:=hid (EM.out.alloc oP 3)
                have Pz:=hid (EN.out.keep (aD.below (aF.alloc aH (.cells oP 3))))
                rw[<-acs] at Km Pz ⊢
                refine aJ (RG b W2 [(ZF.heap.size,oP,3),(V0.heap.size,mN,46)]) (fun _ h=>h.tail) Km.out ?_
                clear acs EN
                refine aT rfl ?_
                go_wp2_with fail
                refine(bE 4 aB aB b (N+4) aB _ Pz.out).mono ?_
                rintro e V52 ⟨t',rfl,iz,kL,hm',ht', -⟩
                have Kn:=hid (Km.out.take ny.out ht')
                have WT:=hid hm'
                clear hm' ht' Km Pz
                go_wp2
                refine aJ (RG b W2 [(ZF.heap.size,oP,3),(V0.heap.size,mN,46)]) (fun _ h=>h) Kn.out ?_
                refine aV rfl ?_
                intro hne
                have hq:dX (some ⟨ZF.heap.size,0,none⟩) 4:=fun _=>⟨_,_,rfl⟩
                go_big_quiet_step (fail)
                refine iL ?_
                clear hne hq
                refine aV rfl ?_
                intro hne
                obtain⟨h',hx,hxc⟩:=pQ [4,3,8,2] t' iz Ef
                have hx2:2<=h'/\h'<=8:=Eb
                obtain⟨hx3,xA⟩:=hx2
                have C8:=hid hxc
                clear hx hxc
                have hq:∀x1:Held (RG b W2 [(ZF.heap.size,oP,3),(V0.heap.size,mN,46)]),x1.1.cell? ⟨ZF.heap.size,t'.toNat,none⟩=some (.int .i64 h'):=fun x1=>RG.cell x1 ZF.heap.size oP 3 bp C8.out
                go_big_quiet_step (fail)
                refine iL ?_
                clear hne hq
                refine fE ?_
                refine bh ?_
                try simp only[jZ,jP]
                have hbl:=Kn.out.blocks (V0.heap.size,mN,46) bp
                have EJ:RG b W2 [(V0.heap.size,mN,46)] V52:=Kn.out.sub (fun y hy=>by obtain rfl:=mL.1 hy;simp)
                have HRG:=hid (EJ.tU (.string ah.sx) (.string kd.name) (.string ah.nil) (.int .i64 1) (.int .i64 0) (.int .i64 h') (.slice none 0 0) (.slice none 0 0))
                have HMK:=hid (WT.out.keep (w':=(((((((V52.setCell ⟨V0.heap.size,0,none⟩ (.string ah.sx)).setCell ⟨V0.heap.size,1,none⟩ (.string kd.name)).setCell ⟨V0.heap.size,2,none⟩ (.string ah.nil)).setCell ⟨V0.heap.size,3,none⟩ (.int .i64 1)).setCell ⟨V0.heap.size,4,none⟩ (.int .i64 0)).setCell ⟨V0.heap.size,5,none⟩ (.int .i64 h')).setCell ⟨V0.heap.size,6,none⟩ (.slice none 0 0)).setCell ⟨V0.heap.size,7,none⟩ (.slice none 0 0)) (fun y hy _=>mV () (show y≠V0.heap.size by have:=ny.out;have:=hbl.1;omega) _ _ _ _ _ _ _ _))
                obtain⟨⟨y0,y1,y2,y3,y4,y5,y6,y7⟩,yz⟩:=dK hbl.2
                clear hbl EJ Kn WT
                exact BD
              case p50=>
                go_wp2_with fail
                refine(bE 4 aB aB b (N+4) aB _ EN.out).mono ?_
                rintro e V53 ⟨t',rfl,iz,kL,hm',ht', -⟩
                have WU:=hid (EM.out.take ny.out ht')
                have WV:=hid hm'
                clear hm' ht' EM EN
                go_wp2
                refine aJ (RG b W2 [(V0.heap.size,mN,46)]) (fun _ h=>h) WU.out ?_
                refine aT rfl ?_
                go_wp2
                obtain⟨V54,acu⟩:=bB (V53.alloc (.cells oP 3))
                have EO:=hid (WU.out.alloc oP 3)
                have PA:=hid (WV.out.keep (aD.below (aF.alloc aH (.cells oP 3))))
                rw[<-acu] at EO PA ⊢
                refine aJ (RG b W2 [(V53.heap.size,oP,3),(V0.heap.size,mN,46)]) (fun _ h=>h.tail) EO.out ?_
                clear acu WV
                refine aV rfl ?_
                intro hne
                have hq:dX (some ⟨V53.heap.size,0,none⟩) 4:=fun _=>⟨_,_,rfl⟩
                go_big_quiet_step (fail)
                refine iL ?_
                clear hne hq
                refine aV rfl ?_
                intro hne
                obtain⟨h',hx,hxc⟩:=pQ [4,3,8,2] t' iz Ef
                have hx2:2<=h'/\h'<=8:=Eb
                obtain⟨hx3,xA⟩:=hx2
                have C8:=hid hxc
                clear hx hxc
                have hq:∀x1:Held (RG b W2 [(V53.heap.size,oP,3),(V0.heap.size,mN,46)]),x1.1.cell? ⟨V53.heap.size,t'.toNat,none⟩=some (.int .i64 h'):=fun x1=>RG.cell x1 V53.heap.size oP 3 bp C8.out
                go_big_quiet_step (fail)
                refine iL ?_
                clear hne hq
                refine fE ?_
                refine bh ?_
                try simp only[jZ,jP]
                have hbl:=EO.out.blocks (V0.heap.size,mN,46) bp
                have EJ:RG b W2 [(V0.heap.size,mN,46)] V54:=EO.out.sub (fun y hy=>by obtain rfl:=mL.1 hy;simp)
                have HRG:=hid (EJ.tU (.string ah.sx) (.string kd.name) (.string ah.nil) (.int .i64 1) (.int .i64 0) (.int .i64 h') (.slice none 0 0) (.slice none 0 0))
                have HMK:=hid (PA.out.keep (w':=(((((((V54.setCell ⟨V0.heap.size,0,none⟩ (.string ah.sx)).setCell ⟨V0.heap.size,1,none⟩ (.string kd.name)).setCell ⟨V0.heap.size,2,none⟩ (.string ah.nil)).setCell ⟨V0.heap.size,3,none⟩ (.int .i64 1)).setCell ⟨V0.heap.size,4,none⟩ (.int .i64 0)).setCell ⟨V0.heap.size,5,none⟩ (.int .i64 h')).setCell ⟨V0.heap.size,6,none⟩ (.slice none 0 0)).setCell ⟨V0.heap.size,7,none⟩ (.slice none 0 0)) (fun y hy _=>mV () (show y≠V0.heap.size by have:=ny.out;have:=hbl.1;omega) _ _ _ _ _ _ _ _))
                obtain⟨⟨y0,y1,y2,y3,y4,y5,y6,y7⟩,yz⟩:=dK hbl.2
                clear hbl EJ EO PA
                exact BD
          case rest=>
            obtain⟨F,h',rfl,HH,Ko,HM7⟩:=hcut
            go_wp2_with fail
            refine(bE 5 aB aB b (N+5) aB _ HM7.out).mono ?_
            rintro e W3 ⟨t5,rfl,t5_lo,t5_hi,Ez,ht3, -⟩
            have C9:=hid (Ko.out.take ny.out ht3)
            have SY:=hid Ez
            clear Ez ht3 Ko HM7 c0
            go_upto_if 60 with fail
            go_cut [] from 61 to 61 (fun wx=>∃l':Int,Hid (0<=l'/\l'<=1)/\Hid (RG b W2 [(F,(cF (ah.uW kd.name l' h') (.slice none 0 0) (.slice none 0 0)).toArray,46)] wx)/\Hid (gq wx b (N+6)))
            case first=>
              by_cases yd:t5=0
              · subst yd
                have hF:=C9.out.blocks (F,(cF (ah.uW kd.name 0 h') (.slice none 0 0) (.slice none 0 0)).toArray,46) bp
                obtain⟨⟨-, -, -, -,y4, -, -, -⟩,yz⟩:=dK hF.2
                have yz4:=yz 4
                have Da:=hid (C9.out.store 4 (.int .i64 1))
                have Uf:=hid (SY.out.keep (w':=W3.setCell ⟨F,4,none⟩ (.int .i64 1)) (fun x hx _=>jQ _ _ _ _ (show x≠F by have:=ny.out;have:=hF.1;omega)))
                clear hF yz C9 SY
                go_wp2
                go_meet
                case rel=>exact⟨1,hid ⟨aB,aB⟩,Da,Uf⟩
              · have jd:(t5==0)=false:=nU yd
                clear yd
                go_wp2
                go_meet
                case rel=>exact⟨0,hid ⟨aB,aB⟩,C9,SY⟩
            case rest=>
              obtain⟨l',HL,Da,Uf⟩:=hcut
              clear C9 SY
              obtain⟨⟨y0,y1,y2,y3,y4,y5,y6,y7⟩, -⟩:=dK (Da.out.blocks (F,(cF (ah.uW kd.name l' h') (.slice none 0 0) (.slice none 0 0)).toArray,46) bp).2
              have EC:=hid (HOW.out.keep bD (aD.dD Da.out.turn (fun x hx e=>by
                have hge:=oU.out.ge
                have hlb:=oU.out.lb
                rcases hx with hx|hx
                · have:K<x:=hx;omega
                · have:=(HOW.out.lt x hx).1;omega)))
              have hKW:=Da.out.block hKb jO.out
              obtain⟨⟨-, -, -,e3⟩, -⟩:=bC hKW
              go_wp2_with (at_builtin;go_must (refine di bD rfl _ _ rfl Tryz.jt rfl EC.out (us:=cF (ah.uW kd.name l' h') (.slice none 0 0) (.slice none 0 0)) rfl rfl rfl (ah.uW kd.name l' h') (iH (f:=ah.uW kd.name l' h') rfl rfl) (qg (f:=ah.uW kd.name l' h')) bp (by have:=(Da.out.turn).size;have:=aC jO.out;omega) ?_))
              intro v' w' how' ht' hn'
              obtain⟨a',c',hv', -⟩:=how'.form
              simp only[xP,List.length_cons,List.length_nil,Nat.zero_add,Nat.reduceAdd] at hv'
              subst hv'
              have qh:=hid (KS.app (oU.out) jO.out (fun x hx=>by have:=(HOW.out.lt x hx).1;omega) Da.out.turn Uf.out (fun _ h=>by cases h) how' rfl ht' hn')
              have yo:=(ht'.block K (fun e=>by have:=(HOW.out.lt K e.symm).1;omega) (aC hKW)).trans hKW
              obtain⟨⟨-, -, -,d3⟩,dz⟩:=bC yo
              have Po:=dz 3
              clear how' ht' hn' EC yo dz hKW e3
              go_upto_region 11 with fail
              obtain⟨W4,hW4⟩:=bB (w'.setCell ⟨K,3,none⟩ (.slice a' 2 c'))
              rw[<-hW4] at qh ⊢
              clear hW4 Po d3
              obtain⟨-, -,d0,d1,d2,uf,d3,hfl⟩:=qh.out.O1.at hmn
              simp only[fZ,f9,Nat.zero_add] at d0 d1 d2 d3
              rw[<-LK.out] at d0 d1 d2 hfl
              have LN:=hid hfl
              clear hfl
              go_wp2_with fail
              refine(GZ kd (kH kd uf) (fun x=>b<x) W4 ⟨uf,rfl,LN.out⟩ _ rfl).mono ?_
              rintro e W5 ⟨rfl,jd⟩
              have EP:=hid (qh.out.grow (Turns.aS jd) (qh.out.mO.keep (aD.below jd)))
              clear jd qh d0 d1 d2 d3 Da Uf LN jO HOW y0 y1 y2 y3 y4 y5 y6 y7
              obtain⟨cI,hcI⟩:=bB (ah.J8 kd.aG)
              rw[<-hcI]
              have HcI:=hid hcI
              clear hcI
              go_upto_region 12 with fail
              go_cut [79] from 73 to 79 (fun s wx=>∃bd:Bool,s=.bool bd/\Hid (bd=true->∃ci,∃h:ci<kd.aG.length,cI=(ci:Int)/\ah.sy kd.aG[ci])/\Hid (KS S b (N+7) B w none (.slice (some ⟨g,0,none⟩) ks.length c) ks K (ah.bQ ks.length) lo hi ([ah.pK x]++[ah.uW kd.name l' h']) wx))
              case first=>
                rcases ah.iy ah.qJ kd.aG with⟨hc1, -⟩|⟨ci,hci,hc1,hc2, -⟩
                · have oo:cI= -1:=HcI.out.trans hc1
                  subst oo
                  clear hc1
                  go_wp2
                  go_meet
                  case rel=>exact⟨false,rfl,hid (fun h=>by cases h),hid (EP.out.more aB)⟩
                · have oo:cI=(ci:Int):=HcI.out.trans hc1
                  subst oo
                  have HCI:Hid (∃cj,∃h:cj<kd.aG.length,(ci:Int)=(cj:Int)/\ah.sy kd.aG[cj]):=hid ⟨ci,hci,rfl,Ub hc2⟩
                  clear hc1 hc2
                  have PD:(0:Int)<=ci:=aB
                  go_wp2_with fail
                  refine(bE 2 aB aB b (N+6) aB _ EP.out.mO).mono ?_
                  rintro e W6 ⟨t6,rfl,PE,PG,BA,rA, -⟩
                  have EQ:=hid (EP.out.grow rA BA)
                  clear BA rA EP
                  go_wp2
                  go_meet
                  case rel=>exact⟨_,rfl,hid (fun _=>HCI.out),EQ⟩
              case rest=>
               obtain⟨bd,rfl,ZG,EQ⟩:=hcut;clear EP HcI;go_upto_if 79 with fail;go_cut [] from 80 to 94 (fun wx=>∃s,Hid (ah.og kd s)/\Hid (KS S b (N+7) B w none (.slice (some ⟨g,0,none⟩) ks.length c) ks K (ah.bQ ks.length) lo hi ([ah.pK x]++[ah.uW kd.name l' h']++s) wx))
               case first=>
                  cases bd with
                  |false=>
                    go_wp2
                    go_meet
                    case rel=>exact⟨[],hid (.inl rfl),hid (by rw[List.append_nil];exact EQ.out)⟩
                  |true=>
                    obtain⟨ci,hci,hce,hcc⟩:=ZG.out rfl
                    subst hce
                    have HSM:Hid (ah.og kd [ah.oO kd.aG[ci].name]):=hid (.inr ⟨ci,hci,hcc,rfl⟩)
                    clear hcc ZG
                    have PD:(0:Int)<=ci:=aB
                    obtain⟨av,nv,cv,hn0,hbx,tV, -⟩:=EQ.out.box
                    have ZE:nv=2:=hn0
                    subst ZE
                    have jO:=hid hbx
                    have HOW:=hid tV
                    obtain⟨⟨-, -, -,b3⟩, -⟩:=bC hbx
                    have ny:Hid (b<wc.heap.size):=hid (by have:=EQ.out.lb;have:=EQ.out.turn.size;omega)
                    obtain⟨-, -, -, -, -,uf,c3,hfl⟩:=EQ.out.O1.at hmn
                    simp only[fZ,f9,Nat.zero_add] at c3
                    rw[<-LK.out] at hfl
                    obtain⟨au,cu,rfl,hsk2, -, -⟩:=hfl.form
                    obtain⟨-,hbu,c10, -⟩:=hfl.at hci
                    have hbu2:bL au≠b:=aB
                    have hci1:(ci:Int)<kd.aG.length:=aB
                    generalize kd.aG[ci].name=NU at*
                    clear hn0 hbx tV hfl hbu
                    go_upto_region 13 with fail
                    have dG:=hid (RG.start b wc)
                    have eM:=hid (EQ.out.mO.keep (aD.below (aI aF 1)))
                    obtain⟨V0,sD⟩:=bB (wc.drewN 1)
                    refine aZ 13 (.quiet 0 (.quiet 1 (.quiet 2 (.quiet 3 (.quiet 4 (.quiet 5 (.quiet 6 (.quiet 7 (.quiet 8 (.quiet 9 (.quiet 10 (.quiet 11 (.one 12 .done))))))))))))) (RG b wc []) oL (by kernel_rfl) dG.out ?_
                    rw[<-sD] at dG eM ⊢
                    clear sD
                    refine fE ?_
                    refine aV rfl ?_
                    intro hne
                    have hq:∀xh:Held (RG b wc []),xh.1.cell? ⟨K,3,none⟩=some (.slice av 2 cv):=fun xh=>RG.old xh hKb b3
                    go_big_quiet_step (fail)
                    refine iL ?_
                    clear hne hq
                    iterate 4 refine fE ?_
                    refine aV rfl ?_
                    intro hne
                    have hq:∀xh:Held (RG b wc []),xh.1.cell? ⟨g,m*4+3,none⟩=some (.slice au kd.aG.length cu):=fun xh=>RG.old xh hgb c3
                    go_big_quiet_step (fail)
                    refine iL ?_
                    clear hne hq
                    iterate 3 refine fE ?_
                    refine aV rfl ?_
                    intro hne
                    have hq:∀xh:Held (RG b wc []),xh.1.cell? ⟨bL au,bP au+ci*8,none⟩=some (.string NU):=fun xh=>RG.old xh hbu2 c10
                    go_big_quiet_step (fail)
                    refine iL ?_
                    clear hne hq
                    refine fE ?_
                    refine aT rfl ?_
                    go_wp2
                    refine aJ (RG b wc []) (fun _ h=>h) (dG.out.alloc _ _).tail ?_
                    refine bh ?_
                    try simp only[jZ,jP]
                    have EC:=hid (HOW.out.keep bD (aD.dD dG.out.turn (fun x hx e=>by
                      have hge:=EQ.out.ge
                      have hlb:=EQ.out.lb
                      rcases hx with hx|hx
                      · have:K<x:=hx;omega
                      · have:=(HOW.out.lt x hx).1;omega)))
                    go_wp2_with (at_builtin;go_must (refine di bD rfl _ _ rfl Tryz.jt rfl EC.out (us:=cF (ah.oO NU) (.slice none 0 0) (.slice none 0 0)) rfl rfl rfl (ah.oO NU) (iH (f:=ah.oO NU) rfl rfl) (qg (f:=ah.oO NU)) bp abK ?_))
                    intro v' w' how' ht' hn'
                    obtain⟨a',c',hv', -⟩:=how'.form
                    simp only[xP,List.length_cons,List.length_nil,Nat.zero_add,Nat.reduceAdd] at hv'
                    subst hv'
                    have qh:=hid (KS.app (EQ.out) jO.out (fun x hx=>by have:=(HOW.out.lt x hx).1;omega) dG.out.turn eM.out (fun _ h=>by cases h) how' rfl ht' hn')
                    have yo:=(ht'.block K (fun e=>by have:=(HOW.out.lt K e.symm).1;omega) (aC (dG.out.block hKb jO.out))).trans (dG.out.block hKb jO.out)
                    obtain⟨⟨-, -, -,d3⟩,dz⟩:=bC yo
                    have Po:=dz 3
                    clear how' ht' hn' EC yo dz dG eM
                    go_wp2
                    go_meet
                    case rel=>exact⟨_,HSM,qh⟩
               case rest=>
                 obtain⟨s,WW,Al⟩:=hcut
                 clear EQ
                 obtain⟨-, -, -, -, -,uf,d3,hfl⟩:=Al.out.O1.at hmn
                 simp only[fZ,f9,Nat.zero_add] at d3
                 rw[<-LK.out] at hfl
                 have LN:=hid hfl
                 clear hfl
                 go_upto_region 14 with fail
                 go_cut [106] from 95 to 106 (fun q wx=>∃bd:Bool,q=.bool bd/\Hid (bd=true->∀f∈kd.aG,f.name≠ah.eG)/\Hid (KS S b (N+8) B w none (.slice (some ⟨g,0,none⟩) ks.length c) ks K (ah.bQ ks.length) lo hi ([ah.pK x]++[ah.uW kd.name l' h']++s) wx))
                 case first=>
                   go_wp2_with fail
                   refine(xB kd.aG ah.eG uf (fun x=>b<x) wc LN.out).mono ?_
                   rintro e w' ⟨rfl,rfl⟩
                   obtain⟨hI,Ug⟩:=bB (ah.AQ kd.aG ah.eG)
                   rw[<-Ug]
                   rcases ah.iy (fun f:ah.cD=>decide (f.name=ah.eG)) kd.aG with⟨hc1,hc2⟩|⟨ci,hci,hc1,hc2, -⟩
                   · have oo:hI= -1:=Ug.trans hc1
                     subst oo
                     have HNT:Hid (∀f∈kd.aG,f.name≠ah.eG):=hid (fun f hf=>by
                       obtain⟨j,hj,rfl⟩:=List.getElem_of_mem hf
                       simpa using hc2 j hj)
                     clear hc1 hc2 Ug
                     go_wp2_with fail
                     refine(bE 3 aB aB b (N+7) aB _ Al.out.mO).mono ?_
                     rintro e W6 ⟨t6,rfl,PE,PG,BA,rA, -⟩
                     have Db:=hid (Al.out.grow rA BA)
                     clear BA rA Al LN d3
                     go_wp2
                     go_meet
                     case rel=>exact⟨_,rfl,hid (fun _=>HNT.out),Db⟩
                   · have oo:hI=(ci:Int):=Ug.trans hc1
                     subst oo
                     clear hc1 hc2 Ug
                     have PD:¬(ci:Int)<0:=aB
                     go_wp2
                     go_meet
                     case rel=>exact⟨false,rfl,hid (fun h=>by cases h),hid (Al.out.more aB)⟩
                 case rest=>
                  obtain⟨bd,rfl,HNT,Db⟩:=hcut;clear Al LN d3;go_upto_if 106 with fail;go_cut [] from 11 to 135 (fun wx=>∃G ks' p,Hid (ks'.length=ks.length)/\Hid (ah.tR ks m (ah.bQ ks.length) ks' p)/\Hid (KS S b (N+20) B w G (.slice (some ⟨g,0,none⟩) ks.length c) ks' K (ah.bQ ks.length) lo hi (([ah.pK x]++[ah.uW kd.name l' h']++s)++p) wx))
                  case first=>
                    cases bd with
                    |false=>
                      go_wp2
                      go_meet
                      case rel=>exact⟨none,ks,[],hid rfl,hid (.inl ⟨rfl,rfl⟩),hid (by rw[List.append_nil];exact Db.out.more aB)⟩
                    |true=>
                      have HNT':=hid (HNT.out rfl)
                      clear HNT
                      go_wp2_with fail
                      refine(bE 3 aB aB b (N+8) aB _ Db.out.mO).mono ?_
                      rintro e W6 ⟨t6,rfl,PE,PG,BA,rA, -⟩
                      have Dc:=hid (Db.out.grow rA BA)
                      clear BA rA Db
                      go_upto_region 16 with fail
                      obtain⟨fs,hfs⟩:=bB ([ah.pK x]++[ah.uW kd.name l' h']++s)
                      rw[<-hfs] at Dc
                      have hs1:fs.length<=3:=by
                        have:=WW.out.len
                        rw[hfs]
                        simp
                        omega
                      have Ws:=hid hfs
                      clear hfs
                      obtain⟨av,nv,cv,hn0,hbx,tV, -⟩:=Dc.out.box
                      have HNV:=hid hn0
                      clear hn0
                      have jO:=hid hbx
                      have HOW:=hid tV
                      obtain⟨⟨-, -, -,b3⟩, -⟩:=bC hbx
                      have ny:Hid (b<W6.heap.size):=hid (by have:=Dc.out.lb;have:=Dc.out.turn.size;omega)
                      clear hbx tV
                      have dG:=hid (RG.start b W6)
                      have eM:=hid (Dc.out.mO.keep (aD.below (aI aF 1)))
                      obtain⟨V0,sD⟩:=bB (W6.drewN 1)
                      refine aZ 9 (.quiet 0 (.quiet 1 (.quiet 2 (.quiet 3 (.quiet 4 (.one 5 (.quiet 6 (.quiet 7 (.one 8 .done))))))))) (RG b W6 []) oL (by kernel_rfl) dG.out ?_
                      rw[<-sD] at dG eM ⊢
                      clear sD
                      refine fE ?_
                      refine aV rfl ?_
                      intro hne
                      have hq:∀xh:Held (RG b W6 []),xh.1.cell? ⟨K,3,none⟩=some (.slice av nv cv):=fun xh=>RG.old xh hKb b3
                      go_big_quiet_step (fail)
                      refine iL ?_
                      clear hne hq
                      iterate 3 refine fE ?_
                      refine aT rfl ?_
                      go_wp2_with fail
                      refine(bE 8 aB aB b (N+9) aB _ eM.out).mono ?_
                      rintro e V55 ⟨t',rfl,iz,kL,hm',ht', -⟩
                      have vh:=hid (dG.out.take ny.out ht')
                      have WX:=hid hm'
                      clear hm' ht' dG eM
                      go_wp2
                      refine aJ (RG b W6 []) (fun _ h=>h) vh.out ?_
                      refine aV rfl ?_
                      intro hne
                      have hq:IntKind.i64.wrap (t6+t')=t6+t':=IntWalk.i64_in _ aB
                      go_big_quiet_step (fail)
                      refine iL ?_
                      clear hne hq
                      refine fE ?_
                      refine aT rfl ?_
                      go_wp2
                      refine aJ (RG b W6 []) (fun _ h=>h) (vh.out.alloc _ _).tail ?_
                      refine bh ?_
                      try simp only[jZ,jP]
                      have EC:=hid (HOW.out.keep bD (aD.dD vh.out.turn (fun x hx e=>by
                        have hge:=Dc.out.ge
                        have hlb:=Dc.out.lb
                        rcases hx with hx|hx
                        · have:K<x:=hx;omega
                        · have:=(HOW.out.lt x hx).1;omega)))
                      go_wp2_with (at_builtin;go_must (refine di bD rfl _ _ rfl Tryz.jt rfl EC.out (us:=cF (ah.lH t6 (t6+t')) (.slice none 0 0) (.slice none 0 0)) rfl rfl rfl (ah.lH t6 (t6+t')) (iH (f:=ah.lH t6 (t6+t')) rfl rfl) (qg (f:=ah.lH t6 (t6+t'))) aB (by have:=(vh.out.turn).size;have:=aC jO.out;omega) ?_))
                      intro v' w' how' ht' hn'
                      obtain⟨a',c',hv', -⟩:=how'.form
                      obtain⟨n',hnn⟩:=bB ((fs++[ah.lH t6 (t6+t')]).length)
                      rw[<-hnn] at hv'
                      subst hv'
                      have qh:=hid (KS.app (Dc.out) jO.out (fun x hx=>by have:=(HOW.out.lt x hx).1;omega) vh.out.turn WX.out (fun _ h=>by cases h) how' hnn ht' hn')
                      have yo:=(ht'.block K (fun e=>by have:=(HOW.out.lt K e.symm).1;omega) (aC (vh.out.block hKb jO.out))).trans (vh.out.block hKb jO.out)
                      obtain⟨⟨-, -, -,d3⟩,dz⟩:=bC yo
                      have Po:=dz 3
                      have HNN:=hid hnn
                      clear how' ht' hn' EC yo dz vh WX hnn
                      go_upto_region 17 with fail
                      obtain⟨W8,Uh⟩:=bB (w'.setCell ⟨K,3,none⟩ (.slice a' n' c'))
                      rw[<-Uh] at qh ⊢
                      clear Uh Po d3 jO HOW b3
                      have Lr:=qh
                      clear qh Dc HNV HNN
                      obtain⟨us, -,acv,PI⟩:=Lr.out.own.at hmn
                      obtain⟨uf,rfl,Am⟩:=PI
                      have c3:=acv 3 uf rfl
                      rw[<-LK.out] at Am
                      obtain⟨au,cu,rfl, -, -, -⟩:=Am.form
                      have HFF:=hid Am
                      obtain⟨av,nv,cv, -,hbx, -, -⟩:=Lr.out.box
                      obtain⟨⟨b0, -, -, -⟩, -⟩:=bC hbx
                      have Ui:Hid (w.heap.size<=W8.heap.size):=hid Lr.out.turn.size
                      have ny:Hid (b<W8.heap.size):=hid (by have:=Lr.out.lb;have:=Lr.out.turn.size;omega)
                      have hbg:g≠b:=hgb
                      have hfl10:kd.aG.length<=1000000:=HKF.out _ (by rw[LK.out];exact gm _)
                      clear acv Am hbx
                      have dG:=hid (RG.start b W8)
                      have eM:=hid (Lr.out.mO.keep (aD.below (aI aF 1)))
                      obtain⟨V0,sD⟩:=bB (W8.drewN 1)
                      refine aZ 14 (.quiet 0 (.quiet 1 (.quiet 3 (.quiet 4 (.quiet 5 (.quiet 6 (.quiet 7 (.quiet 9 (.quiet 10 (.quiet 11 (.two 2 12 (.two 8 12 (.one 12 (.one 13 .done)) (.one 8 (.one 13 .done))) (.one 2 (.one 8 (.one 13 .done)))))))))))))) (RG b W8 []) oL (by kernel_rfl) dG.out ?_
                      rw[<-sD] at dG eM ⊢
                      clear sD
                      iterate 6 refine fE ?_
                      refine aV rfl ?_
                      intro hne
                      have hq:∀xh:Held (RG b W8 []),xh.1.cell? ⟨g,m*4+3,none⟩=some (.slice au kd.aG.length cu):=fun xh=>RG.old xh hgb c3
                      go_big_quiet_step (fail)
                      refine iL ?_
                      clear hne hq
                      refine fE ?_
                      refine aV rfl ?_
                      intro hne
                      have hq:∀xh:Held (RG b W8 []),xh.1.cell? ⟨K,0,none⟩=some (.string (ah.bQ ks.length)):=fun xh=>RG.old xh hKb b0
                      go_big_quiet_step (fail)
                      refine iL ?_
                      clear hne hq
                      refine fE ?_
                      refine eD rfl rfl ?p56 ?p57
                      case p56=>
                        go_wp2
                        obtain⟨GA,acw⟩:=bB (V0.alloc (.cells #[] 46))
                        have yp:=hid (dG.out.alloc #[] 46).tail
                        have vp:Hid (W8.heap.size<=V0.heap.size/\(V0.alloc (.cells #[] 46)).heap[V0.heap.size]?=some (.cells #[] 46 (0,0))):=hid ⟨dG.out.turn.size,aW V0 _ rfl⟩
                        have ER:=hid (eM.out.keep (aD.below (aF.alloc aH (.cells #[] 46))))
                        rw[<-acw] at yp ER vp ⊢
                        refine aJ (RG b W8 []) (fun _ h=>h) yp.out ?_
                        clear acw eM
                        refine eD rfl rfl ?p59 ?p60
                        case p59=>
                          have GD:=hid (dh.keep (S:=fun x=>SG b S w none x/\x≠g) (dQ.mono (S':=fun x=>SG b S w none x/\x≠g) aB bD HFF.out (fun _ _ h=>h)) (aD.dD yp.out.turn (fun x hx e=>by have:=(SG.lt hx.1).1;omega)))
                          go_wp2_with (at_builtin;go_must (refine gy (S:=fun x=>SG b S w none x/\x≠g) (B:=W8.heap.size) bD rfl _ _ rfl Tryz.jt rfl (cU.xR vp.out.2 vp.out.1) rfl GD.out (fun x hlt hx=>⟨hx,fun e=>by have:=SG.lt hx.1;have h9:x=V0.heap.size:=mM e;have:=vp.out.1;have:=Ui.out;omega⟩) (fun us y h=>kf h) lC (by have:=(yp.out.turn).size;omega) ?_))
                          intro v8 SZ yq jD WY
                          obtain⟨a8,c8,hv8, -⟩:=yq.form
                          subst hv8
                          have WZ:Hid (RG b W8 [] SZ):=hid ⟨(yp.out.turn).into jD (fun x hx e=>by have h9:x=V0.heap.size:=mM e;have:=vp.out.1;omega),fun y hy=>absurd hy bp⟩
                          have W9:=hid (ER.out.keep (jD.keep (fun x hx e=>by have h9:x=V0.heap.size:=mM e;have:=vp.out.1;have:=ny.out;omega)))
                          have AV:=hid yq
                          clear yq jD WY GD yp ER vp
                          go_wp2
                          refine aJ (RG b W8 []) (fun _ h=>h) WZ.out ?_
                          refine aT rfl ?_
                          go_wp2
                          obtain⟨V62,ZH⟩:=bB (SZ.alloc (.cells (qf ks.length) 46))
                          have BI:=hid (WZ.out.alloc (qf ks.length) 46)
                          have PJ:=hid (W9.out.keep (aD.below (aF.alloc aH (.cells (qf ks.length) 46))))
                          rw[<-ZH] at BI PJ ⊢
                          refine aJ (RG b W8 [(SZ.heap.size,(qf ks.length),46)]) (fun _ h=>h.tail) BI.out ?_
                          have HO8x:Hid (∀x,(Value.slice a8 kd.aG.length c8).ownBlock=some x->x<SZ.heap.size):=hid (fun x hx=>(AV.out.lt x hx).2)
                          have AV:=hid (AV.out.below bD (show BL SZ V62 by rw[ZH];exact aF.alloc aH _))
                          clear ZH W9
                          refine aT rfl ?_
                          have Xa:Hid (∀x,some x=(Value.slice a8 kd.aG.length c8).ownBlock->x≠SZ.heap.size):=hid (fun x e h9=>by have h1:=(HO8x.out x e.symm);omega)
                          have tH:=(BI.out.blocks (SZ.heap.size,(qf ks.length),46) bp)
                          go_wp2_with (at_builtin;go_must (refine gy (T:=fun _=>False) (T':=nV) bD rfl _ _ rfl Tryz.jt rfl AV.out rfl (pN (f:=ah.fN (ah.bQ ks.length)) tH.2 rfl rfl trivial) (fun x hlt hx=>hx.elim) (fun us y h=>kf h) lC (by have:=(BI.out.turn).size;omega) ?_))
                          intro v9 V63 sF qK hn9
                          have Kq:=hid ((BI.out.turn).into qK (fun x hx e=>by have:=(AV.out.lt x e.symm).1;omega))
                          have acy:Hid (RG b W8 [(SZ.heap.size,(qf ks.length),46)] V63):=hid ⟨Kq.out,fun y hy=>by obtain rfl:=mL.1 hy;exact⟨tH.1,(qK.block (SZ.heap.size) (fun e=>Xa.out _ e rfl) (aC tH.2)).trans tH.2⟩⟩
                          have Xb:=hid (PJ.out.keep (qK.keep (fun x hx e=>by have:=(AV.out.lt x e.symm).1;have:=ny.out;omega)))
                          obtain⟨a9,c9,tI, -⟩:=sF.form
                          have NV:(kd.aG++[ah.fN (ah.bQ ks.length)]).length=kd.aG.length+1:=bp
                          rw[NV] at tI
                          subst tI
                          obtain⟨g2,hag, -⟩:=sF.xQ bp
                          subst hag
                          have S9:=hid sF
                          clear sF qK hn9 tH AV BI PJ NV Xa
                          go_wp2
                          refine aJ (RG b W8 [(SZ.heap.size,(qf ks.length),46)]) (fun _ h=>h) acy.out ?_
                          refine bh ?_
                          try simp only[jZ,jP]
                          obtain⟨z3,zf⟩:(∃z,V63.cell? ⟨g,m*4+3,none⟩=some z)/\V63.frozen? ⟨g,m*4+3,none⟩=false:=by
                            have hgl:=(Lr.out.own.lt g rfl).2
                            have e1:=Kq.out.block g aB hgl
                            exact O6
                          obtain⟨z3,PK⟩:=z3
                          have Xc:=Lr.out.put Kq.out Xb.out hmn S9.out (kd':=ah.eC kd (ah.bQ ks.length)) (by rw[<-LK.out];rfl)
                          have Zm:=hid Xc
                          clear Xc Kq Xb S9
                          exact O5
                        case p60=>
                          go_wp2
                          obtain⟨V64,ZI⟩:=bB (GA.alloc (.cells (qf ks.length) 46))
                          have pR:=hid (yp.out.alloc (qf ks.length) 46)
                          have PL:=hid (ER.out.keep (aD.below (aF.alloc aH (.cells (qf ks.length) 46))))
                          rw[<-ZI] at pR PL ⊢
                          refine aJ (RG b W8 [(GA.heap.size,(qf ks.length),46)]) (fun _ h=>h.tail) pR.out ?_
                          have vp:Hid (W8.heap.size<=V0.heap.size/\V64.heap[V0.heap.size]?=some (.cells #[] 46 (0,0))):=hid ⟨vp.out.1,by rw[ZI];exact bG _ vp.out.2⟩
                          clear ZI ER
                          refine aT rfl ?_
                          have HNE:Hid (GA.heap.size≠V0.heap.size):=hid (fun e=>by have h1:=(pR.out.blocks (GA.heap.size,(qf ks.length),46) bp).2;rw[e,vp.out.2] at h1;cases h1)
                          have GD:=hid (dh.keep (S:=fun x=>SG b S w none x/\x≠g) (dQ.mono (S':=fun x=>SG b S w none x/\x≠g) aB bD HFF.out (fun _ _ h=>h)) (aD.dD pR.out.turn (fun x hx e=>by have:=(SG.lt hx.1).1;omega)))
                          go_wp2_with (at_builtin;go_must (refine gy (S:=fun x=>SG b S w none x/\x≠g) (B:=W8.heap.size) bD rfl _ _ rfl Tryz.jt rfl (cU.xR vp.out.2 vp.out.1) rfl GD.out (fun x hlt hx=>⟨hx,fun e=>by have:=SG.lt hx.1;have h9:x=V0.heap.size:=mM e;have:=vp.out.1;have:=Ui.out;omega⟩) (fun us y h=>kf h) lC (by have:=(pR.out.turn).size;omega) ?_))
                          intro v8 V65 yq jD WY
                          obtain⟨a8,c8,hv8, -⟩:=yq.form
                          subst hv8
                          have ES:Hid (RG b W8 [(GA.heap.size,(qf ks.length),46)] V65):=hid ⟨(pR.out.turn).into jD (fun x hx e=>by have h9:x=V0.heap.size:=mM e;have:=vp.out.1;omega),fun y hy=>by obtain rfl:=mL.1 hy;exact⟨(pR.out.blocks _ bp).1,(jD.block (GA.heap.size) (fun e=>by have h9:GA.heap.size=V0.heap.size:=mM e;have h10:=HNE.out;omega) (aC (pR.out.blocks (GA.heap.size,(qf ks.length),46) bp).2)).trans (pR.out.blocks (GA.heap.size,(qf ks.length),46) bp).2⟩⟩
                          have Xd:=hid (PL.out.keep (jD.keep (fun x hx e=>by have h9:x=V0.heap.size:=mM e;have:=vp.out.1;have:=ny.out;omega)))
                          have Xa:Hid (∀x,some x=(Value.slice a8 kd.aG.length c8).ownBlock->x≠GA.heap.size):=hid (fun x e h9=>WY.elim (fun h1=>by rw[<-e] at h1;have h3:x=V0.heap.size:=mM h1;have h10:=HNE.out;omega) (fun⟨y,h1,h2⟩=>by rw[<-e] at h1;have h3:=mM h1;have h4:=aC (pR.out.blocks (GA.heap.size,(qf ks.length),46) bp).2;omega))
                          have AV:=hid yq
                          clear yq jD WY GD pR PL vp
                          go_wp2
                          refine aJ (RG b W8 [(GA.heap.size,(qf ks.length),46)]) (fun _ h=>h) ES.out ?_
                          refine aT rfl ?_
                          have tH:=(ES.out.blocks (GA.heap.size,(qf ks.length),46) bp)
                          go_wp2_with (at_builtin;go_must (refine gy (T:=fun _=>False) (T':=nV) bD rfl _ _ rfl Tryz.jt rfl AV.out rfl (pN (f:=ah.fN (ah.bQ ks.length)) tH.2 rfl rfl trivial) (fun x hlt hx=>hx.elim) (fun us y h=>kf h) lC (by have:=(ES.out.turn).size;omega) ?_))
                          intro v9 V66 sF qK hn9
                          have Kr:=hid ((ES.out.turn).into qK (fun x hx e=>by have:=(AV.out.lt x e.symm).1;omega))
                          have acz:Hid (RG b W8 [(GA.heap.size,(qf ks.length),46)] V66):=hid ⟨Kr.out,fun y hy=>by obtain rfl:=mL.1 hy;exact⟨tH.1,(qK.block (GA.heap.size) (fun e=>Xa.out _ e rfl) (aC tH.2)).trans tH.2⟩⟩
                          have Xe:=hid (Xd.out.keep (qK.keep (fun x hx e=>by have:=(AV.out.lt x e.symm).1;have:=ny.out;omega)))
                          obtain⟨a9,c9,tI, -⟩:=sF.form
                          have NV:(kd.aG++[ah.fN (ah.bQ ks.length)]).length=kd.aG.length+1:=bp
                          rw[NV] at tI
                          subst tI
                          obtain⟨g2,hag, -⟩:=sF.xQ bp
                          subst hag
                          have S9:=hid sF
                          clear sF qK hn9 tH AV ES Xd NV Xa
                          go_wp2
                          refine aJ (RG b W8 [(GA.heap.size,(qf ks.length),46)]) (fun _ h=>h) acz.out ?_
                          refine bh ?_
                          try simp only[jZ,jP]
                          obtain⟨z3,zf⟩:(∃z,V66.cell? ⟨g,m*4+3,none⟩=some z)/\V66.frozen? ⟨g,m*4+3,none⟩=false:=by
                            have hgl:=(Lr.out.own.lt g rfl).2
                            have e1:=Kr.out.block g aB hgl
                            exact O6
                          obtain⟨z3,PK⟩:=z3
                          have Xc:=Lr.out.put Kr.out Xe.out hmn S9.out (kd':=ah.eC kd (ah.bQ ks.length)) (by rw[<-LK.out];rfl)
                          have Zm:=hid Xc
                          clear Xc Kr Xe S9
                          exact O5
                      case p57=>
                        go_wp2
                        obtain⟨PN,acA⟩:=bB (V0.alloc (.cells (qf ks.length) 46))
                        have Ks:=hid (dG.out.alloc (qf ks.length) 46)
                        have PO:=hid (eM.out.keep (aD.below (aF.alloc aH (.cells (qf ks.length) 46))))
                        rw[<-acA] at Ks PO ⊢
                        refine aJ (RG b W8 [(V0.heap.size,(qf ks.length),46)]) (fun _ h=>h.tail) Ks.out ?_
                        clear acA eM
                        refine aT rfl ?_
                        go_wp2
                        obtain⟨V68,acB⟩:=bB (PN.alloc (.cells #[] 46))
                        have pS:=hid (Ks.out.alloc #[] 46).tail
                        have vp:Hid (W8.heap.size<=PN.heap.size/\(PN.alloc (.cells #[] 46)).heap[PN.heap.size]?=some (.cells #[] 46 (0,0))):=hid ⟨Ks.out.turn.size,aW PN _ rfl⟩
                        have PS:=hid (PO.out.keep (aD.below (aF.alloc aH (.cells #[] 46))))
                        rw[<-acB] at pS PS vp ⊢
                        refine aJ (RG b W8 [(V0.heap.size,(qf ks.length),46)]) (fun _ h=>h) pS.out ?_
                        clear acB PO
                        refine aT rfl ?_
                        have HNE:Hid (V0.heap.size≠PN.heap.size):=hid (fun e=>by have h1:=(pS.out.blocks (V0.heap.size,(qf ks.length),46) bp).2;rw[e,vp.out.2] at h1;cases h1)
                        have GD:=hid (dh.keep (S:=fun x=>SG b S w none x/\x≠g) (dQ.mono (S':=fun x=>SG b S w none x/\x≠g) aB bD HFF.out (fun _ _ h=>h)) (aD.dD pS.out.turn (fun x hx e=>by have:=(SG.lt hx.1).1;omega)))
                        go_wp2_with (at_builtin;go_must (refine gy (S:=fun x=>SG b S w none x/\x≠g) (B:=W8.heap.size) bD rfl _ _ rfl Tryz.jt rfl (cU.xR vp.out.2 vp.out.1) rfl GD.out (fun x hlt hx=>⟨hx,fun e=>by have:=SG.lt hx.1;have h9:x=PN.heap.size:=mM e;have:=vp.out.1;have:=Ui.out;omega⟩) (fun us y h=>kf h) lC (by have:=(pS.out.turn).size;omega) ?_))
                        intro v8 V69 yq jD WY
                        obtain⟨a8,c8,hv8, -⟩:=yq.form
                        subst hv8
                        have ET:Hid (RG b W8 [(V0.heap.size,(qf ks.length),46)] V69):=hid ⟨(pS.out.turn).into jD (fun x hx e=>by have h9:x=PN.heap.size:=mM e;have:=vp.out.1;omega),fun y hy=>by obtain rfl:=mL.1 hy;exact⟨(pS.out.blocks _ bp).1,(jD.block (V0.heap.size) (fun e=>by have h9:V0.heap.size=PN.heap.size:=mM e;have h10:=HNE.out;omega) (aC (pS.out.blocks (V0.heap.size,(qf ks.length),46) bp).2)).trans (pS.out.blocks (V0.heap.size,(qf ks.length),46) bp).2⟩⟩
                        have Xf:=hid (PS.out.keep (jD.keep (fun x hx e=>by have h9:x=PN.heap.size:=mM e;have:=vp.out.1;have:=ny.out;omega)))
                        have Xa:Hid (∀x,some x=(Value.slice a8 kd.aG.length c8).ownBlock->x≠V0.heap.size):=hid (fun x e h9=>WY.elim (fun h1=>by rw[<-e] at h1;have h3:x=PN.heap.size:=mM h1;have h10:=HNE.out;omega) (fun⟨y,h1,h2⟩=>by rw[<-e] at h1;have h3:=mM h1;have h4:=aC (pS.out.blocks (V0.heap.size,(qf ks.length),46) bp).2;omega))
                        have AV:=hid yq
                        clear yq jD WY GD pS PS vp
                        go_wp2
                        refine aJ (RG b W8 [(V0.heap.size,(qf ks.length),46)]) (fun _ h=>h) ET.out ?_
                        refine aT rfl ?_
                        have tH:=(ET.out.blocks (V0.heap.size,(qf ks.length),46) bp)
                        go_wp2_with (at_builtin;go_must (refine gy (T:=fun _=>False) (T':=nV) bD rfl _ _ rfl Tryz.jt rfl AV.out rfl (pN (f:=ah.fN (ah.bQ ks.length)) tH.2 rfl rfl trivial) (fun x hlt hx=>hx.elim) (fun us y h=>kf h) lC (by have:=(ET.out.turn).size;omega) ?_))
                        intro v9 V70 sF qK hn9
                        have Kt:=hid ((ET.out.turn).into qK (fun x hx e=>by have:=(AV.out.lt x e.symm).1;omega))
                        have acC:Hid (RG b W8 [(V0.heap.size,(qf ks.length),46)] V70):=hid ⟨Kt.out,fun y hy=>by obtain rfl:=mL.1 hy;exact⟨tH.1,(qK.block (V0.heap.size) (fun e=>Xa.out _ e rfl) (aC tH.2)).trans tH.2⟩⟩
                        have Xg:=hid (Xf.out.keep (qK.keep (fun x hx e=>by have:=(AV.out.lt x e.symm).1;have:=ny.out;omega)))
                        obtain⟨a9,c9,tI, -⟩:=sF.form
                        have NV:(kd.aG++[ah.fN (ah.bQ ks.length)]).length=kd.aG.length+1:=bp
                        rw[NV] at tI
                        subst tI
                        obtain⟨g2,hag, -⟩:=sF.xQ bp
                        subst hag
                        have S9:=hid sF
                        clear sF qK hn9 tH AV ET Xf NV Xa
                        go_wp2
                        refine aJ (RG b W8 [(V0.heap.size,(qf ks.length),46)]) (fun _ h=>h) acC.out ?_
                        refine bh ?_
                        try simp only[jZ,jP]
                        obtain⟨z3,zf⟩:(∃z,V70.cell? ⟨g,m*4+3,none⟩=some z)/\V70.frozen? ⟨g,m*4+3,none⟩=false:=by
                          have hgl:=(Lr.out.own.lt g rfl).2
                          have e1:=Kt.out.block g aB hgl
                          exact O6
                        obtain⟨z3,PK⟩:=z3
                        have Xc:=Lr.out.put Kt.out Xg.out hmn S9.out (kd':=ah.eC kd (ah.bQ ks.length)) (by rw[<-LK.out];rfl)
                        have Zm:=hid Xc
                        clear Xc Kt Xg S9
                        exact O5
                  case rest=>
                    obtain⟨G,ks',p,tW,acD,HK12⟩:=hcut
                    clear Db HNT
                    go_wp2
                    go_meet
                    case rel=>exact⟨G,ks',_,tW,hid ⟨x,HX.out.1,HX.out.2,.inr ⟨m,hmn,l',h',s,p,HL.out.1,HL.out.2,HH.out.1,HH.out.2,by rw[<-TK.out];exact WW.out,acD.out,rfl⟩⟩,hid (by rw[<-TK.out];simpa using HK12.out)⟩
      case rest=>
        obtain⟨G,ks',hs,tW,Xh,HKB⟩:=hcut
        clear SX
        have hhl:=Xh.out.len
        go_upto_region 18 with fail
        go_cut [142] from 136 to 142 (fun q wx=>∃bd:Bool,q=.bool bd/\Hid (bd=true->1<ks.length)/\Hid (KS S b (N+21) B w G (.slice a ks.length c) ks' K (ah.bQ ks.length) lo hi hs wx))
        case first=>
          by_cases hn:(1:Int)<ks.length
          · have HN1:Hid (1<ks.length):=hid aB
            go_wp2_with fail
            refine(bE 3 aB aB b (N+20) aB _ HKB.out.mO).mono ?_
            rintro e W6 ⟨t6,rfl,PE,PG,BA,rA, -⟩
            have Db:=hid (HKB.out.grow rA BA)
            clear BA rA HKB
            go_wp2
            go_meet
            case rel=>exact⟨_,rfl,hid (fun _=>HN1.out),Db⟩
          · go_wp2
            go_meet
            case rel=>exact⟨false,rfl,hid (fun h=>by cases h),hid (HKB.out.more aB)⟩
        case rest=>
          obtain⟨bd,rfl,ZG,BJ⟩:=hcut
          clear HKB
          go_upto_if 142 with fail
          go_cut [] from 143 to 152 (fun wx=>∃y,Hid (ah.OQ ks' y)/\Hid (y.length<=1)/\Hid (KS S b (N+21) B w G (.slice a ks.length c) ks' K (ah.bQ ks.length) lo hi (hs++y) wx))
          case first=>
            cases bd with
            |false=>
              go_wp2
              go_meet
              case rel=>exact⟨[],hid (.inl rfl),hid bp,hid (by rw[List.append_nil];exact BJ.out)⟩
            |true=>
              have h1n:=ZG.out rfl
              have hl0:0<ks'.length:=by have:=tW.out;omega
              have hlk:(0:Int)<ks.length:=aB
              have hlk1:1<ks'.length:=by have:=tW.out;omega
              obtain⟨av,nv,cv,hn0,hbx,tV,hG⟩:=BJ.out.box
              have HNV:=hid hn0
              have jO:=hid hbx
              have HOW:=hid tV
              have HG:=hid hG
              obtain⟨⟨-, -, -,b3⟩, -⟩:=bC hbx
              have ny:Hid (b<wc.heap.size):=hid (by have:=BJ.out.lb;have:=BJ.out.turn.size;omega)
              obtain⟨g,hag, -⟩:=BJ.out.own.xQ hl0
              subst hag
              have hgb:g≠b:=by have:=(BJ.out.kb g rfl).1;omega
              have hsk:dX (some ⟨g,0,none⟩) ks.length:=fun _=>⟨_,_,rfl⟩
              obtain⟨-, -,c0, -⟩:=BJ.out.O1.at hl0
              simp only[fZ,f9,Nat.zero_add,Nat.zero_mul] at c0
              have HBY:Hid (ah.OQ ks' [ah.OP ks'[0].name]):=hid (.inr ⟨hlk1,by rw[ah.iR,jm,lE hl0];rfl⟩)
              generalize ks'[0].name=NU at*
              clear hn0 hbx tV hG
              go_upto_region 19 with fail
              have dG:=hid (RG.start b wc)
              have eM:=hid (BJ.out.mO.keep (aD.below (aI aF 1)))
              obtain⟨V0,sD⟩:=bB (wc.drewN 1)
              refine aZ 8 (.quiet 0 (.quiet 1 (.quiet 2 (.quiet 3 (.quiet 4 (.quiet 5 (.quiet 6 (.one 7 .done)))))))) (RG b wc []) oL (by kernel_rfl) dG.out ?_
              rw[<-sD] at dG eM ⊢
              clear sD
              refine fE ?_
              refine aV rfl ?_
              intro hne
              have hq:∀xh:Held (RG b wc []),xh.1.cell? ⟨K,3,none⟩=some (.slice av nv cv):=fun xh=>RG.old xh hKb b3
              go_big_quiet_step (fail)
              refine iL ?_
              clear hne hq
              iterate 3 refine fE ?_
              refine aV rfl ?_
              intro hne
              have hq:∀xh:Held (RG b wc []),xh.1.cell? ⟨g,0,none⟩=some (.string NU):=fun xh=>RG.old xh hgb c0
              go_big_quiet_step (fail)
              refine iL ?_
              clear hne hq
              refine fE ?_
              refine aT rfl ?_
              go_wp2
              refine aJ (RG b wc []) (fun _ h=>h) (dG.out.alloc _ _).tail ?_
              refine bh ?_
              try simp only[jZ,jP]
              have EC:=hid (HOW.out.keep bD (aD.dD dG.out.turn (fun x hx e=>by
                have hge:=BJ.out.ge
                have hlb:=BJ.out.lb
                rcases hx with hx|hx
                · have:K<x:=hx;omega
                · have:=(HOW.out.lt x hx).1;omega)))
              go_wp2_with (at_builtin;go_must (refine di bD rfl _ _ rfl Tryz.jt rfl EC.out (us:=cF (ah.OP NU) (.slice none 0 0) (.slice none 0 0)) rfl rfl rfl (ah.OP NU) (iH (f:=ah.OP NU) rfl rfl) (qg (f:=ah.OP NU)) aB abK ?_))
              intro v' w' how' ht' hn'
              obtain⟨a',c',hv', -⟩:=how'.form
              obtain⟨n',hnn⟩:=bB ((hs++[ah.OP NU]).length)
              rw[<-hnn] at hv'
              subst hv'
              have qh:=hid (KS.app (BJ.out) jO.out (fun x hx=>by have:=(HOW.out.lt x hx).1;omega) dG.out.turn eM.out HG.out how' hnn ht' hn')
              have yo:=(ht'.block K (fun e=>by have:=(HOW.out.lt K e.symm).1;omega) (aC (dG.out.block hKb jO.out))).trans (dG.out.block hKb jO.out)
              obtain⟨⟨-, -, -,d3⟩,dz⟩:=bC yo
              have Po:=dz 3
              have HNN:=hid hnn
              clear how' ht' hn' EC yo dz dG eM hnn
              go_wp2
              go_meet
              case rel=>exact⟨_,HBY,hid bp,qh⟩
          case rest=>
            obtain⟨y,HBy,HYL,yt⟩:=hcut
            clear BJ ZG
            have hyl:=HYL.out
            obtain⟨f0,hf0⟩:=bB (hs++y)
            rw[<-hf0] at yt
            have acE:f0.length<=5:=by rw[hf0];simp;omega
            have Uj:=hid hf0
            clear hf0
            go_wp2_with fail
            refine(OW b (N+21) aB _ yt.out.mO).mono ?_
            rintro e W2 ⟨v,p,rfl,hp,hfv,hm2,ht2⟩
            have HP:=hid hp
            have hpl:=hp.len
            have rC:=hid (yt.out.grow ht2 hm2)
            obtain⟨av,nv,cv,hn0,hbx,tV,hG⟩:=yt.out.box
            have TG:Hid (K<wc.heap.size):=hid (aC hbx)
            have HSZ:Hid (wc.heap.size<=W2.heap.size):=hid ht2.size
            have HOL:Hid (∀x,(Value.slice av nv cv).ownBlock=some x->x<wc.heap.size):=hid (fun x hx=>(tV.lt x hx).2)
            have G7:W2.heap[K]?=some (.cells #[.string (ah.bQ ks.length),.int .i64 lo,.int .i64 hi,.slice av nv cv] 49 (0,0)):=(ht2.block K hKb (aC hbx)).trans hbx
            have jO:=hid G7
            have HOW:=hid (tV.keep bD (aD.dD ht2 (fun x hx e=>by
              have h1:=yt.out.ge
              have h2:=yt.out.lb
              rcases hx with hx|hx
              · have:K<x:=hx;omega
              · have:=(tV.lt x hx).1;omega)))
            have HG:Hid (∀x,G=some x->K<x/\x<W2.heap.size/\(Value.slice av nv cv).ownBlock≠some x):=hid (fun x hx=>⟨(hG x hx).1,by have:=(hG x hx).2.1;have:=ht2.size;omega,(hG x hx).2.2⟩)
            have HNV:=hid hn0
            have NT:=hid (yt.out.grow ht2 hm2)
            obtain⟨⟨-, -, -,b3⟩, -⟩:=bC G7
            clear hn0 hbx G7 tV hG yt ht2 hm2
            obtain⟨ap,cp,rfl, -, -, -⟩:=hfv.form
            have GD:=hid hfv
            clear hfv hp rC
            go_wp2_with (at_builtin;go_must (refine gy bD rfl _ _ rfl Tryz.jt rfl HOW.out rfl GD.out (fun x hlt hx=>⟨abL,fun e=>by have:=HOL.out x e.symm;have h9:wc.heap.size<=x:=hx;omega⟩) (fun us y h=>kf h) (by first|omega|(simp;omega)) (by have:=TG.out;have:=HSZ.out;omega) ?_))
            intro v' w' how' ht' hn'
            obtain⟨fs,hfs⟩:=bB (f0++p)
            rw[<-hfs] at how'
            obtain⟨a',c',hv', -⟩:=how'.form
            obtain⟨n',hnn⟩:=bB fs.length
            rw[<-hnn] at hv'
            subst hv'
            have qh:=hid (KS.app NT.out jO.out (fun x hx=>by have:=(HOW.out.lt x hx).1;omega) (Turns.refl _ _) NT.out.mO HG.out (hfs▸how') (hfs▸hnn) ht' hn')
            have yo:=(ht'.block K (fun e=>by have:=(HOW.out.lt K e.symm).1;omega) (aC jO.out)).trans jO.out
            obtain⟨⟨-, -, -,d3⟩,dz⟩:=bC yo
            have Po:=dz 3
            rw[<-hfs] at qh
            have Ws:=hid hfs
            clear how' ht' hn' yo dz hnn hfs GD b3 NT HOW jO HG HNV TG HSZ HOL
            go_upto_region 22 with fail
            obtain⟨W5,hW5⟩:=bB (w'.setCell ⟨K,3,none⟩ (.slice a' n' c'))
            rw[<-hW5] at qh ⊢
            clear hW5 Po d3
            have hfl2:fs.length<=10:=by rw[Ws.out];simp;omega
            go_wp2_with fail
            refine(bE 2 aB aB b (N+41) aB _ qh.out.mO).mono ?_
            rintro e W6 ⟨t7,rfl,t7_lo,t7_hi,BA,rA, -⟩
            have oU:=hid (qh.out.grow rA BA)
            clear BA rA qh
            go_upto_if 162 with fail
            go_cut [] from 13 to 182 (fun wx=>∃q,Hid (ah.mY fs q)/\Hid (KS S b (N+70) B w G (.slice a ks.length c) ks' K (ah.bQ ks.length) lo hi (fs++q) wx))
            case first=>
              by_cases h70:t7=0
              · subst h70
                obtain⟨wc,acF⟩:=bB W6
                rw[<-acF] at oU ⊢
                clear acF
                go_wp2_with fail
                refine(OW b (N+42) aB _ oU.out.mO).mono ?_
                rintro e W7 ⟨v2,q,rfl,hq,PU,OZ,ye⟩
                have hql:=hq.len
                obtain⟨av,nv,cv,hn0,hbx,tV,hG⟩:=oU.out.box
                have TG:Hid (K<wc.heap.size):=hid (aC hbx)
                have HSZ:Hid (wc.heap.size<=W7.heap.size):=hid ye.size
                have HOL:Hid (∀x,(Value.slice av nv cv).ownBlock=some x->x<wc.heap.size):=hid (fun x hx=>(tV.lt x hx).2)
                have G7:W7.heap[K]?=some (.cells #[.string (ah.bQ ks.length),.int .i64 lo,.int .i64 hi,.slice av nv cv] 49 (0,0)):=(ye.block K hKb (aC hbx)).trans hbx
                have jO:=hid G7
                have HOW:=hid (tV.keep bD (aD.dD ye (fun x hx e=>by
                  have h1:=oU.out.ge
                  have h2:=oU.out.lb
                  rcases hx with hx|hx
                  · have:K<x:=hx;omega
                  · have:=(tV.lt x hx).1;omega)))
                have HG:Hid (∀x,G=some x->K<x/\x<W7.heap.size/\(Value.slice av nv cv).ownBlock≠some x):=hid (fun x hx=>⟨(hG x hx).1,by have:=(hG x hx).2.1;have:=ye.size;omega,(hG x hx).2.2⟩)
                have HNV:=hid hn0
                have NT:=hid (oU.out.grow ye OZ)
                obtain⟨⟨-, -, -,b3⟩, -⟩:=bC G7
                clear hn0 hbx G7 tV hG oU ye OZ
                obtain⟨ap,cp,rfl,hskp, -, -⟩:=PU.form
                by_cases wR:q.length=0
                · obtain rfl:q=[]:=List.eq_nil_of_length_eq_zero wR
                  clear wR PU
                  go_upto_region 24 with fail
                  go_quiet (fail)
                  exact WH
                · have hq1:0<q.length:=by omega
                  have Ta:(0:Int)<q.length:=aB
                  clear wR
                  obtain⟨-, -,c0, -⟩:=PU.at hq1
                  have HQ0:Hid (∀f,q.head?=some f->f=q[0]):=hid (fun f hf=>by
                    cases q with
                    |nil=>cases hf
                    |cons g l=>exact(mM hf).symm)
                  obtain⟨nmQ,hnq⟩:=bB (q[0].name)
                  rw[<-hnq] at c0
                  have HNQ:=hid hnq
                  simp only[Nat.zero_mul,Nat.add_zero] at c0
                  have HFK:Hid (dh (fun x=>K<x) W7 (.slice av nv cv) fs):=hid (HOW.out.sl bD (fun _ _ h=>h) (fun x hx=>by have:=(HOW.out.lt x hx).1;omega))
                  have HHS:=hid (fun m=>Calls.quiet_of (Bv (xB fs nmQ (.slice av nv cv) (fun x=>K<x) (W7.drewN m) (HFK.out.keep (aD.below (aI aF _))))))
                  have GD:=hid PU
                  have HQP:=hid hq
                  obtain⟨hI,Ug⟩:=bB (ah.AQ fs nmQ)
                  rw[<-Ug] at HHS
                  have HhI:=hid Ug
                  clear PU hq hnq Ug
                  go_upto_region 24 with fail
                  go_quiet ((exact HHS.out _))
                  rcases ah.iy (fun f:ah.cD=>decide (f.name=nmQ)) fs with⟨hc1,hc2⟩|⟨ci,hci,hc1,hc2, -⟩
                  · have oo:hI= -1:=HhI.out.trans hc1
                    subst oo
                    have HSO:Hid (ah.mY fs q):=hid (.inr ⟨HQP.out,fun f hf g hg=>by
                      obtain⟨j,hj,rfl⟩:=List.getElem_of_mem hg
                      have h1:=hc2 j hj
                      rw[HQ0.out f hf,<-HNQ.out]
                      simpa using h1⟩)
                    clear hc1 hc2 HHS c0
                    have hbD:BL W7 (W7.drewN nq):=aI aF nq
                    have htD:Turns (·=b) W7 (W7.drewN nq):=(Turns.refl _ _).drewN nq
                    have jO:=hid (show (W7.drewN nq).heap[K]?=_ from jO.out)
                    have HOW:=hid (HOW.out.below bD hbD)
                    have HG:Hid (∀x,G=some x->K<x/\x<(W7.drewN nq).heap.size/\(Value.slice av nv cv).ownBlock≠some x):=hid HG.out
                    have GD:=hid (GD.out.keep (aD.below hbD))
                    have NT:=hid (NT.out.grow htD (NT.out.mO.keep (aD.below hbD)))
                    obtain⟨⟨-, -, -,b3⟩, -⟩:=bC jO.out
                    clear hbD htD
                    go_wp2_with (at_builtin;go_must (refine gy bD rfl _ _ rfl Tryz.jt rfl HOW.out rfl GD.out (fun x hlt hx=>⟨abL,fun e=>by have:=HOL.out x e.symm;have h9:wc.heap.size<=x:=hx;omega⟩) (fun us y h=>kf h) (by first|omega|(simp;omega)) (by have:=TG.out;have:=HSZ.out;show K+1<=W7.heap.size;omega) ?_))
                    intro v' w' how' ht' hn'
                    obtain⟨fq,hfs⟩:=bB (fs++q)
                    rw[<-hfs] at how'
                    obtain⟨a',c',hv', -⟩:=how'.form
                    obtain⟨n',hnn⟩:=bB fq.length
                    rw[<-hnn] at hv'
                    subst hv'
                    have qh:=hid (KS.app NT.out jO.out (fun x hx=>by have:=(HOW.out.lt x hx).1;omega) (Turns.refl _ _) NT.out.mO HG.out (hfs▸how') (hfs▸hnn) ht' hn')
                    have yo:=(ht'.block K (fun e=>by have:=(HOW.out.lt K e.symm).1;omega) (aC jO.out)).trans jO.out
                    obtain⟨⟨-, -, -,d3⟩,dz⟩:=bC yo
                    have Po:=dz 3
                    rw[<-hfs] at qh
                    have HFQ:=hid hfs
                    clear how' ht' hn' yo dz hnn hfs GD b3 NT HOW jO HG HNV TG HSZ HOL
                    have acG:=hid (qh.out.more (N':=N+70) aB)
                    clear qh
                    rw[HFQ.out] at acG
                    go_wp2
                    go_meet
                    case rel=>exact⟨q,HSO,acG⟩
                  · have oo:hI=(ci:Int):=HhI.out.trans hc1
                    subst oo
                    clear hc1 hc2 HHS c0
                    have PD:¬(ci:Int)<0:=aB
                    exact WH
              · have oV:(t7==0)=false:=nU h70
                clear h70
                go_wp2
                go_meet
                case rel=>exact⟨[],hid (.inl rfl),hid (by rw[List.append_nil];exact oU.out.more aB)⟩
            case rest=>
              obtain⟨q,HQ,Al⟩:=hcut
              clear oU
              obtain⟨av,nv,cv,hn0,hbx,tV, -⟩:=Al.out.box
              obtain⟨⟨b0,b1,b2,b3⟩, -⟩:=bC hbx
              obtain⟨⟨r0,r1,r2,r3⟩,rz⟩:=bC Al.out.res
              have hS4:=Et Al.out.res (.string (ah.bQ ks.length)) (.int .i64 lo) (.int .i64 hi) (.slice av nv cv)
              have LG:=hid hS4
              have HOW:=hid tV
              have HKR:Hid (w.heap.size<K):=hid Al.out.ge
              clear hS4 hn0 hbx tV
              go_wp2
              refine bodyPost_ret (LJ LG.out.1 rfl) rfl ⟨ks',⟨ah.bQ ks.length,lo,hi,fs++q⟩,.slice av nv cv,rfl,?_,?_,?_,?_,?_⟩
              · exact⟨hk2,rfl,hlo0,HI.out.1,by have:=HI.out.2;show hi<=20;omega,hs,y,p,q,Xh.out,HBy.out,HP.out,by have:=HQ.out;rw[Ws.out,Uj.out] at this;exact this,by rw[Ws.out,Uj.out]⟩
              · exact dh.keep (HOW.out.sl bD (T:=fun x=>w.heap.size<x) (fun x _ h=>by have:=HKR.out;have h9:K<x:=h;show w.heap.size<x;omega) (fun x hx=>by have:=(HOW.out.lt x hx).1;have:=HKR.out;show w.heap.size<x;omega)) (aD.dD LG.out.2 (fun x hx e=>by have h9:w.heap.size<x:=hx;omega))|>.mono (fun x _ h=>by have h9:w.heap.size<x:=h;show _<=x;omega)
              · refine(Al.out.own.keep cC (aD.dD LG.out.2 (fun x hx e=>?_))).J5 cC (fun x _ hx=>hx.2.elim (fun h=>.inl h.1) (fun h1=>.inr (by
                  obtain⟨_,_,_,_,_,_,h2⟩:=Al.out.box
                  have:=(h2 x h1).1
                  have:=HKR.out
                  omega)))
                rcases hx with hx|hx
                · rcases hx.2 with⟨-,h1⟩|h1
                  · omega
                  · obtain⟨_,_,_,_,_,_,h2⟩:=Al.out.box
                    have:=(h2 x h1).1
                    have:=HKR.out
                    omega
                · have:=(Al.out.kb x hx).2;omega
              · exact(Al.out.mO.mono aB).keep (aD.dD LG.out.2 (fun x hx e=>by have:=Al.out.lb;omega))
              · exact Al.out.turn.into LG.out.2 (fun x hx e=>by omega)
end Go.Proofs.YtibacilhkciihaaGreatDoor
