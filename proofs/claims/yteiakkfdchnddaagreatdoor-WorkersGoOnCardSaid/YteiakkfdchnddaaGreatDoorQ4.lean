/- Part 4 of the walks and plain laws that the proof needs (packed). -/
import Derived.Deep.DeepCutAuto
import Derived.Deep.LoopGhost
import Derived.Test.YteiakkfdchnddaaGreatDoorQ1
import Derived.Test.YteiakkfdchnddaaGreatDoorQ3
set_option linter.all false
set_option maxRecDepth 100000
set_option maxHeartbeats 8000000
namespace Go.Proofs.YteiakkfdchnddaaGreatDoor
open Go.RowKit
abbrev oQ:Array Value:=#[.string {data:=#[]},.string {data:=#[]},.string {data:=#[]},.int .i64 0,.int .i64 0,.int .i64 0,.slice none 0 0,.slice none 0 0]
abbrev rD:Array Value:=#[.string {data:=#[112,101,114,115,111,110]},.string {data:=#[111,114,100,101,114]},.string {data:=#[105,116,101,109]}]
abbrev nE:Array Value:=#[.string {data:=#[]},.int .i64 0,.int .i64 0,.slice none 0 0]
abbrev qX:Array Value:=#[.int .i64 4,.int .i64 3,.int .i64 8,.int .i64 2]
abbrev Ko:Array Value:=#[.int .i64 0,.int .i64 1,.int .i64 100,.int .i64 (-3)]
abbrev tB(n:Nat):Array Value:=#[.string {data:=#[116,111,116,97,108]},.string (ah.bT n),.string {data:=#[]},.int .i64 6,.int .i64 0,.int .i64 0,.slice none 0 0,.slice none 0 0]
theorem Tryz.kB:jW Tryz.prog 93 92 8 120:=gE (z:=.agg #[.string ⟨#[]⟩,.string ⟨#[]⟩,.string ⟨#[]⟩,.int .i64 0,.int .i64 0,.int .i64 0,.slice none 0 0,.slice none 0 0]) (by kernel_rfl) (by kernel_rfl) rfl aC aC
def SG(b:Nat)(S:Nat->Prop)(w0:World)(G:Option Nat):Nat->Prop:=fun x=>b<x/\((S x/\x<w0.heap.size)\/G=some x)
theorem SG.lt{b:Nat}{S:Nat->Prop}{w0:World}{x:Nat}(h:SG b S w0 none x):b<x/\x<w0.heap.size:=⟨h.1,h.2.elim (·.2) (fun e=>by cases e)⟩
structure KS(S:Nat->Prop)(b N B:Nat)(w0:World)(G:Option Nat)(vK:Value)(ks:List ah.eZ)(K:Nat)(nm:ah.Nm)(lo hi:Int)(fs:List ah.dh)(W:World):Prop where
 oR:iB W b N
 own:bC 4 DF (SG b S w0 G) B 95 W vK ks
 res:W.heap[w0.heap.size]?=some (.cells #[.string ah.nil,.int .i64 0,.int .i64 0,.slice none 0 0] 95 (0,0))
 box:∃a n c,n=fs.length/\W.heap[K]?=some (.cells #[.string nm,.int .i64 lo,.int .i64 hi,.slice a n c] 95 (0,0))/\bC 8 jX (fun x=>K<x) (K+1) 92 W (.slice a n c) fs/\
  ∀x,G=some x->K<x/\x<W.heap.size/\(Value.slice a n c).ownBlock≠some x
 turn:Turns (fun x=>x=b\/vK.ownBlock=some x) w0 W
 ge:w0.heap.size<K
 lb:b<w0.heap.size
 kb:∀x,vK.ownBlock=some x->b<x/\x<w0.heap.size
theorem bC.acv{α:Type}{n:Nat}{RR:(Nat->Prop)->World->List Value->α->Prop}{S:Nat->Prop}{B:Nat}{e:TypeId}{w:World}{a:Option Addr}{m c:Nat}{xs:List α}(h:bC n RR S B e w (.slice a m c) xs):m=xs.length:=by
 obtain⟨a',c',e',_⟩:=h.form;injection e'
theorem _root_.Go.Proofs.YteiakkfdchnddaaGreatDoor.ah.ez.len{l:List ah.dh}(h:ah.ez l):l.length<=2:=by cases h<;>simp
theorem _root_.Go.Proofs.YteiakkfdchnddaaGreatDoor.ah.qp.len{ks ks':List ah.eZ}{nm:ah.Nm}{l:List ah.dh}(h:ah.qp ks nm ks' l):l.length<=4:=by
 obtain⟨a,_,_,⟨_,_,rfl⟩|⟨tt,_,lo,hi,s,p,_,_,_,_,hs,hp,rfl⟩⟩:=h
 ·simp
 ·have h1:s.length<=1:=by
   rcases hs with rfl|⟨c,h,_,rfl⟩
   ·simp
   ·simp
  have h2:p.length<=1:=by
   rcases hp with⟨rfl,_⟩|⟨_,_,_,_,_,rfl,_⟩
   ·simp
   ·simp
  simp;omega
theorem _root_.Go.Proofs.YteiakkfdchnddaaGreatDoor.ah.qn.len{k:ah.eZ}{l:List ah.dh}(h:ah.qn k l):l.length<=1:=by
 rcases h with rfl|⟨c,h,_,rfl⟩
 ·simp
 ·simp
theorem XW{f:ah.dh}(h:ah.uo f=true):ah.vX f:=by
 simp only[ah.uo,kJ,lE] at h;exact⟨h.1.1.1,h.1.1.2,h.1.2,h.2⟩
def ae5(S:Nat->Prop)(b N B:Nat)(w:World)(vK:Value)(ks:List ah.eZ)(e:Ending)(w':World):Prop:=
 ∃ks' k uf,e=.returned (.agg (lU k uf).toArray)/\ah.rS ks ks' k/\dJ (w.heap.size<=·) w' uf k.aA/\bC 4 DF (fun x=>S x\/w.heap.size<=x) B 95 w' vK ks'/\iB w' b (N+100)/\Turns (fun x=>x=b\/vK.ownBlock=some x) w w'
theorem KS.grow{S:Nat->Prop}{b N N' B K:Nat}{w W W':World}{G:Option Nat}{vK:Value}{ks:List ah.eZ}{nm:ah.Nm}{lo hi:Int}{fs:List ah.dh}(h:KS S b N B w G vK ks K nm lo hi fs W)(ht:Turns (·=b) W W')(hm:iB W' b N'):
  KS S b N' B w G vK ks K nm lo hi fs W':=by
 have hge:=h.ge;have hlb:=h.lb;obtain⟨a,n,c,h1,h2,h3,h4⟩:=h.box;refine⟨hm,h.own.keep cT (fun x hx hlt=>ht.block x (fun e=>?_) hlt),?_,⟨a,n,c,h1,?_,h3.keep bg (fun x hx hlt=>ht.block x (fun e=>?_) hlt),fun x hx=>?_⟩,h.turn.trans (ht.mono fun x _ e=>.inl e),hge,hlb,h.kb⟩
 ·rcases hx with hx|hx
  ·have:=hx.1;omega
  ·have:=(h.kb x hx).1;omega
 ·rw[ht.block _ aC (aj h.res)];exact h.res
 ·rw[ht.block _ aC (aj h2)];exact h2
 ·rcases hx with hx|hx
  ·have:K<x:=hx;omega
  ·have:=(h3.lt x hx).1;omega
 ·obtain⟨g1,g2,g3⟩:=h4 x hx
  have:=ht.size;exact⟨g1,by omega,g3⟩
theorem KS.more{S:Nat->Prop}{b N N' B K:Nat}{w W:World}{G:Option Nat}{vK:Value}{ks:List ah.eZ}{nm:ah.Nm}{lo hi:Int}{fs:List ah.dh}(h:KS S b N B w G vK ks K nm lo hi fs W)(hN:N<=N'):KS S b N' B w G vK ks K nm lo hi fs W:=
 h.grow (Turns.refl _ _) (h.oR.mono hN)
theorem KS.put{S:Nat->Prop}{b N N' B K:Nat}{w W W':World}{g n c:Nat}{ks:List ah.eZ}{nm:ah.Nm}{lo hi:Int}{fs fs':List ah.dh}(h:KS S b N B w none (.slice (some ⟨g,0,none⟩) n c) ks K nm lo hi fs W)(ht:Turns (·=b) W W')(hm:iB W' b N'){m:Nat}(hmn:m<ks.length)
  {g2 n2 c2:Nat}(ho:bC 8 jX (fun x=>SG b S w none x/\x≠g) W.heap.size 92 W' (.slice (some ⟨g2,0,none⟩) n2 c2) fs'){kd':ah.eZ}(hkd:kd'={ks[m] with aA:=fs'}):
  KS S b N' B w (some g2) (.slice (some ⟨g,0,none⟩) n c) (ks.set m kd') K nm lo hi fs (W'.setCell ⟨g,m*4+3,none⟩ (.slice (some ⟨g2,0,none⟩) n2 c2)):=by
 subst hkd;have hg:=h.kb g rfl;have hge:=h.ge;have hlb:=h.lb;have hg2:=ho.lt g2 rfl;have xR:=h.turn.size;have h1:=h.grow ht hm;obtain⟨a,n0,c0,q1,q2,q3,q4⟩:=h1.box;have XY:∀x,x≠g->(W'.setCell ⟨g,m*4+3,none⟩ (.slice (some ⟨g2,0,none⟩) n2 c2)).heap[x]?=W'.heap[x]?:=fun x hx=>nZ _ _ _ _ hx;obtain⟨a',n0',c0',q1',q2',q3', -⟩:=h.box;have hKl:=aj q2'
 have heq:a=a'/\n0=n0'/\c0=c0':=by
  rw[ht.block K aC hKl,q2'] at q2;simp at q2;exact⟨q2.1.symm,q2.2.1.symm,q2.2.2.symm⟩
 refine⟨h1.oR.keep (fun x hx _=>XY x aC),?_,(XY _ aC).trans h1.res,⟨a,n0,c0,q1,(XY _ aC).trans q2,q3.keep bg (fun x hx _=>XY x ?_),fun x hx=>?_⟩,?_,hge,hlb,h.kb⟩
 ·refine bC.put (i:=3) cT (h1.own.MI cT (S':=SG b S w (some g2)) (fun x _ hx=>⟨hx.1,hx.2.elim .inl (fun e=>by cases e)⟩)) h1.own.acv hmn aC _ _ (fun us vJ=>?_)
  obtain⟨uf,rfl,hf⟩:=vJ;refine⟨.slice (some ⟨g2,0,none⟩) n2 c2,rfl,ho.sl bg (fun x _ hx=>⟨⟨hx.1.1,hx.1.2.elim .inl (fun e=>by cases e)⟩,hx.2⟩) (fun x hx=>?_)⟩;obtain rfl:g2=x:=qf hx;exact⟨⟨by omega,.inr rfl⟩,by omega⟩
 ·rcases hx with hx|hx
  ·have:K<x:=hx;omega
  ·have:=(q3.lt x hx).1;omega
 ·obtain rfl:g2=x:=qf hx
  refine⟨by omega,by simp only[World.size_setCell];exact hg2.2,fun e=>?_⟩;obtain⟨e1,e2,e3⟩:=heq;rw[e1,e2,e3] at e;have:=(q3'.lt _ e).2;omega
 ·exact h1.turn.trans (((Turns.refl (·=g) W').setCell ⟨g,m*4+3,none⟩ _ rfl).mono fun x _ e=>.inr Ox)
theorem KS.Sc{S:Nat->Prop}{b N B K:Nat}{w W:World}{G:Option Nat}{vK:Value}{ks:List ah.eZ}{nm:ah.Nm}{lo hi:Int}{fs:List ah.dh}(h:KS S b N B w G vK ks K nm lo hi fs W):gJ (fun x=>b<x) W vK ks:=
 h.own.sl cT (fun _ _ hx=>hx.1) (fun x hx=>(h.kb x hx).1)
theorem aB.eG{S T:Nat->Prop}{w w':World}(h:Turns T w w')(hS:∀x,S x->¬T x):aB S w w':=fun b hb hlt=>h.block b (hS b hb) hlt
theorem tC{f:ah.dh}:∀u∈cV f (.slice none 0 0) (.slice none 0 0),u.oneCell'=true:=by
 exact aal
def rW(l:List Int):Array Value:=(l.map (Value.int .i64)).toArray
theorem rX(l:List Int)(i:Int)(h0:0<=i)(h1:i<l.length):∃x,x∈l/\(rW l)[i.toNat]?=some (.int .i64 x):=
 ⟨l[i.toNat]' aC,gY _,by simp[rW]⟩
theorem Sd(W:World)(l:List Int)(t:TypeId)(i:Int)(h0:0<=i)(h1:i<l.length):∃x,x∈l/\(W.alloc (.cells (rW l) t)).cell? ⟨W.heap.size,i.toNat,none⟩=some (.int .i64 x):=
 ⟨l[i.toNat]' aC,gY _,by
  have:=jL W (rW l) t i.toNat (.int .i64 (l[i.toNat]' aC)) (by simp[rW])
  rwa [Nat.zero_add] at this⟩
theorem KS.mk3{S:Nat->Prop}{b N B K:Nat}{w w1 V V':World}{a:Option Addr}{c:Nat}{ks:List ah.eZ}{nm:ah.Nm}{lo hi:Int}(hb:b<w.heap.size)(hR:w1.heap[w.heap.size]?=some (.cells #[.string ah.nil,.int .i64 0,.int .i64 0,.slice none 0 0] 95 (0,0)))
  (hs:w1.heap.size=w.heap.size+2)(ht:Turns (·=b) w w1)(hSb:∀x,S x->b<x)(ho:bC 4 DF S B 95 w (.slice a ks.length c) ks)(hbB:b<B)(hg:Turns (·=b) w1 V)(hm:iB V b N)(hge:w1.heap.size<=K)
  (hb4:V'.heap[K]?=some (.cells #[.string nm,.int .i64 lo,.int .i64 hi,.slice none 0 0] 95 (0,0)))(Df:Turns (·=K) V V'):KS S b N B w none (.slice a ks.length c) ks K nm lo hi [] V' where
 oR:=hm.keep (Df.keep (fun x hx e=>by omega))
 own:=by
  refine(ho.MI cT (S':=SG b S w none) (fun x hlt hx=>⟨hSb x hx,.inl ⟨hx,hlt⟩⟩)).keep cT (fun x hx hlt=>?_)
  have Rb:b<x:=by
   rcases hx with hx|hx
   ·exact hx.1
   ·have:=(ho.lt x hx).1;omega
  have h1:=ht.block x aC hlt;have h2:=hg.block x aC aC;have h3:=Df.block x aC (by have:=hg.size;omega);rw[h3,h2,h1]
 res:=by
  have h2:=hg.block w.heap.size aC aC;have h3:=Df.block w.heap.size aC (by have:=hg.size;omega);rw[h3,h2,hR]
 box:=⟨none,0,0,rfl,hb4,bC.nil _ _ _ _ _ _,fun _ h=>by cases h⟩
 turn:=((ht.trans hg).mono (fun x _ h=>.inl h)).into Df (fun x hx e=>by omega)
 ge:=by omega
 lb:=hb
 kb:=fun x hx=>⟨by have:=(ho.lt x hx).1;omega,(ho.lt x hx).2⟩
theorem KS.app{S:Nat->Prop}{b N N' B K:Nat}{w W V V':World}{G:Option Nat}{vK:Value}{ks:List ah.eZ}{nm:ah.Nm}{lo hi:Int}{fs gs:List ah.dh}{a a':Option Addr}{n n' c c':Nat}(h:KS S b N B w G vK ks K nm lo hi fs W)
  (hbx:W.heap[K]?=some (.cells #[.string nm,.int .i64 lo,.int .i64 hi,.slice a n c] 95 (0,0)))(Bm:∀x,(Value.slice a n c).ownBlock=some x->K<x)(hV:Turns (·=b) W V)(hm:iB V b N')
  (hG:∀x,G=some x->K<x/\x<W.heap.size/\(Value.slice a n c).ownBlock≠some x)
  (how:bC 8 jX (fun x=>K<x) (K+1) 92 V' (.slice a' n' c') (fs++gs))(hn:n'=(fs++gs).length)(ht:Turns (fun x=>some x=(Value.slice a n c).ownBlock) V V')
  (hnew:(Value.slice a' n' c').ownBlock=(Value.slice a n c).ownBlock\/∃x,(Value.slice a' n' c').ownBlock=some x/\V.heap.size<=x):
  KS S b N' B w G vK ks K nm lo hi (fs++gs) (V'.setCell ⟨K,3,none⟩ (.slice a' n' c')):=by
 have hge:=h.ge;have hlb:=h.lb;have hKl:=aj hbx;have hs1:=hV.size;have hs2:=ht.size
 have hX:Turns (fun x=>x=b\/(K<=x/\(x=K\/(Value.slice a n c).ownBlock=some x))) W (V'.setCell ⟨K,3,none⟩ (.slice a' n' c')):=
  (((hV.mono fun x _ h=>.inl h).trans (ht.mono fun x _ h=>.inr (by have:=Bm x h.symm;exact⟨by omega,.inr h.symm⟩)))).trans (((Turns.refl (·=K) V').setCell ⟨K,3,none⟩ _ rfl).mono fun x _ h=>.inr ⟨by omega,.inl h⟩)
 have hK:V'.heap[K]?=some (.cells #[.string nm,.int .i64 lo,.int .i64 hi,.slice a n c] 95 (0,0)):=by
  rw[ht.block K (fun e=>by have:=Bm K e.symm;omega) aC,hV.block K aC hKl,hbx]
 refine⟨?_,?_,?_,⟨a',n',c',hn,heap_setCell_same _ K 3 _ _ _ hK,?_,fun x hx=>?_⟩,?_,hge,hlb,h.kb⟩
 ·exact(hm.keep (ht.keep (fun x hx e=>by have:=Bm x e.symm;omega))).keep (fun x hx _=>nZ _ _ _ _ (show x≠K by omega))
 ·refine h.own.keep cT (fun x hx hlt=>hX.block x (fun e=>?_) hlt)
  have hxx:b<x/\(x<w.heap.size\/G=some x):=by
   rcases hx with hx|hx
   ·exact⟨hx.1,hx.2.elim (fun h=>.inl h.2) .inr⟩
   ·exact⟨(h.kb x hx).1,.inl (h.kb x hx).2⟩
  rcases e with e|⟨e1,e⟩
  ·omega
  ·rcases hxx.2 with h1|h1
   ·omega
   ·have:=hG x h1
    rcases e with e|e
    ·omega
    ·exact this.2.2 e
 ·rw[hX.block _ aC (aj h.res)];exact h.res
 ·exact how.keep bg (fun x hx _=>nZ _ _ _ _ (by
   rcases hx with hx|hx
   ·have:K<x:=hx;show x≠K;omega
   ·have:=(how.lt x hx).1;show x≠K;omega))
 ·obtain⟨g1,g2,g3⟩:=hG x hx
  refine⟨g1,by simp only[World.size_setCell];omega,fun e=>?_⟩;rcases hnew with h1|⟨y,h1,h2⟩
  ·rw[h1] at e;exact g3 e
  ·rw[h1] at e;have:=qf e;omega
 ·exact h.turn.into hX (fun x hx e=>by
   rcases e with e|e
   ·exact .inl e
   ·omega)
theorem OJ{w:World}{g:Nat}{x y z u:Value}{tmps:Array Value}(h:w.heap[g]?=some (.cells #[x,y,z,u] 95 (0,0)))(hp:tmps[4]?=some (.pointer (some ⟨g,0,none⟩))):
  (results Tryz.f39 tmps).run Tryz.prog w=.ok (.agg #[x,y,z,u]) w:=by
 obtain⟨⟨h0,h1,h2,h3⟩, -⟩:=aW h;simp[results,Tryz.results39,go_sem,hp,h0,h1,h2,h3]
theorem Sg{p:Prop}(h:p:=by
  go_wp2
  go_meet
  case rel=>exact⟨some g2,ks.set m (ah.fB kd (ah.bT ks.length)),[ah.nD t6 (t6+t')],hid aZ,hid (.inr ⟨t6,t6+t',by omega,by omega,by omega,rfl,by rw[<-HKA.out];exact HNT'.out,by rw[<-HKA.out]⟩),hid zT85⟩):p:=h
theorem Ej{p:Prop}(h:p:=by
  go_wp2
  go_meet
  case rel=>exact⟨_,h',rfl,hid ⟨hx3,yd⟩,HRG,HMK⟩):p:=h
theorem aam{p:Prop}(h:p:=by
  have Dg:Hid (KS S b (N+62) B w G (.slice a ks.length c) ks' K (ah.bT ks.length) lo hi fs (W7.drewN nq)):=hid (Rc.out.grow ((Turns.refl _ _).drewN nq) (Rc.out.oR.keep (aB.below (aG ay nq))))
  go_wp2
  go_meet
  case rel=>exact⟨[],hid (.inl rfl),hid (by rw[List.append_nil];exact Dg.out.more aC)⟩):p:=h
theorem Sh{p:Prop}(h:p:=by
  exact⟨⟨_,(World.cell?_of_block (w:=W8) (a:=⟨g,m*4+3,none⟩) e1).trans c3⟩,by simp only[World.frozen?,e1];exact OL.out.own.free _⟩):p:=h
theorem El{p:Prop}(h:p:=by
  go_wp2
  go_meet
  case rel=>exact⟨_,_,rfl,hid aC,tD⟩):p:=h
theorem Sl(b N B:Nat)(hN:N<=80000)(w:World)(hm:iB w b N)(a:Option Addr)(c:Nat)(ks:List ah.eZ)(hk2:ks.length<=2)(hkf:∀k∈ks,k.aA.length<=1000000)(S:Nat->Prop)(hSb:∀x,S x->b<x)(hown:bC 4 DF S B 95 w (.slice a ks.length c) ks)(hbB:b<B):
    Calls Tryz.prog 39 #[.pointer (some ⟨b,0,none⟩),.slice a ks.length c] w (ae5 S b N B w (.slice a ks.length c) ks):=by
  have HM:=hid hm
  have HO:=hid hown
  have HKF:=hid hkf
  clear hkf
  clear hm hown
  go_enter Tryz.func39,Tryz.ntmps39
  go_wp2_with fail
  refine(bn 6 aC aC b N aC _ (HM.out.keep (aB.below ((ay.alloc aH _).alloc aZ _)))).mono ?_
  rintro e w1 ⟨t,rfl,h0,h6,hm1,ht1,hs1⟩
  obtain⟨lo,hlo,hcell⟩:=Sd (w.alloc (.cells #[.string ah.nil,.int .i64 0,.int .i64 0,.slice none 0 0] 95)) [0,1,2,4,1,2] 3 t h0 (by simpa using h6)
  have hc1:w1.cell? ⟨w.heap.size+1,t.toNat,none⟩=some (.int .i64 lo):=by
    rw[World.cell?_of_block (ht1.block (w.heap.size+1) (show ¬_=b by have:=HM.out.lt;omega) aZ)]
    rw[World.size_alloc] at hcell
    exact hcell
  have ae6:0<=lo/\lo<=4:=by
    simp only[kM,vE,or_false] at hlo
    omega
  obtain⟨hlo0,ae6⟩:=ae6
  have HR:Hid (w1.heap[w.heap.size]?=some (.cells #[.string ah.nil,.int .i64 0,.int .i64 0,.slice none 0 0] 95 (0,0))):=hid (by
    rw[ht1.block w.heap.size (show ¬_=b by have:=HM.out.lt;omega) mV]
    exact aY _ (aP w _ rfl))
  have xZ:Hid (w1.heap.size=w.heap.size+2):=hid (by rw[hs1];simp)
  have Dc:Hid (Turns (·=b) w w1):=hid ((((Turns.refl _ w).alloc _).alloc _).trans ht1)
  have Gw:=hid hm1
  have hsk:dI (some ⟨w.heap.size+1,0,none⟩) 6:=fun _=>⟨_,_,rfl⟩
  clear hm1 ht1 hs1 hlo hcell
  go_upto_region 3 with fail
  clear hc1 hsk
  obtain⟨HbR,HlenK⟩:Hid (b<w.heap.size)/\((ks.length:Int)<3/\(0:Int)<=ks.length):=⟨hid HM.out.lt,by omega,by omega⟩
  go_cut [7] from 7 to 30 (fun k wx=>∃K,∃hi:Int,k=.pointer (some ⟨K,0,none⟩)/\Hid (lo<=hi/\hi<=lo+4)/\Hid (KS S b (N+2) B w none (.slice a ks.length c) ks K (ah.bT ks.length) lo hi [] wx))
  case first=>
    have py:Hid (b<w1.heap.size):=hid (by have:=HbR.out;have:=xZ.out;omega)
    have Rf:Hid ((rD:Array Value)[ks.length]?=some (.string (ah.bT ks.length))):=hid (by
      have:ks.length=0\/ks.length=1\/ks.length=2:=by omega
      rcases this with h|h|h<;>rw[h]<;>rfl)
    have dF:=hid (RG.start b w1)
    have fJ:=hid (Gw.out.keep (aB.below (aG ay 1)))
    obtain⟨V0,rY⟩:=aV (w1.drewN 1)
    refine cE 11 (.quiet 1 (.quiet 4 (.quiet 5 (.quiet 6 (.three 0 7 10 (.quiet 2 (.quiet 3 (.two 7 10 (.quiet 8 (.quiet 9 (.one 10 .done))) (.one 7 (.quiet 8 (.quiet 9 .done)))))) (.quiet 8 (.two 0 10 (.quiet 2 (.quiet 3 (.quiet 9 (.one 10 .done)))) (.one 0 (.quiet 2 (.quiet 3 (.quiet 9 .done)))))) (.two 0 7 (.quiet 2 (.quiet 3 (.one 7 (.quiet 8 (.quiet 9 .done))))) (.quiet 8 (.one 0 (.quiet 2 (.quiet 3 (.quiet 9 .done))))))))))) (RG b w1 []) lN (by kernel_rfl) dF.out ?_
    rw[<-rY] at dF fJ ⊢
    clear rY
    iterate 4 refine eB ?_
    refine rV rfl rfl rfl ?p1 ?p2 ?p3
    case p1=>
      go_wp2
      obtain⟨V4,WW⟩:=aV (V0.alloc (.cells rD 9))
      have DI:=hid (dF.out.alloc rD 9)
      have Sm:=hid (fJ.out.keep (aB.below (ay.alloc aH (.cells rD 9))))
      rw[<-WW] at DI Sm ⊢
      refine aD (RG b w1 [(V0.heap.size,rD,9)]) (fun _ h=>h.tail) DI.out ?_
      clear WW fJ
      refine aL rfl ?_
      intro hne
      have hq:dI (some ⟨V0.heap.size,0,none⟩) 3:=fun _=>⟨_,_,rfl⟩
      go_big_quiet_step (fail)
      refine fS ?_
      clear hne hq
      refine aL rfl ?_
      intro hne
      have hq:∀x:Held (RG b w1 [(V0.heap.size,rD,9)]),x.1.cell? ⟨V0.heap.size,ks.length,none⟩=some (.string (ah.bT ks.length)):=fun x=>RG.cell x V0.heap.size rD 9 aZ Rf.out
      go_big_quiet_step (fail)
      refine fS ?_
      clear hne hq
      refine dG rfl rfl ?p5 ?p6
      case p5=>
        go_wp2_with fail
        refine(bn 5 aC aC b (N+1) aC _ Sm.out).mono ?_
        rintro e V7 ⟨t',rfl,jf,mD,hm',ht', -⟩
        have FH:=hid (DI.out.take py.out ht')
        have ae7:=hid hm'
        clear hm' ht' DI Sm
        go_wp2
        refine aD (RG b w1 [(V0.heap.size,rD,9)]) (fun _ h=>h) FH.out ?_
        refine aL rfl ?_
        intro hne
        have hq:IntKind.i64.wrap (lo+t')=lo+t':=IntWalk.i64_in _ aC
        go_big_quiet_step (fail)
        refine fS ?_
        clear hne hq
        refine eB ?_
        refine aM rfl ?_
        go_wp2
        obtain⟨V8,WX⟩:=aV (V7.alloc (.cells nE 95))
        have uU:=hid (FH.out.alloc nE 95)
        have acw:=hid (ae7.out.keep (aB.below (ay.alloc aH (.cells nE 95))))
        rw[<-WX] at uU acw ⊢
        refine aD (RG b w1 [(V7.heap.size,nE,95),(V0.heap.size,rD,9)]) (fun _ h=>h.tail) uU.out ?_
        clear WX ae7
        refine aT ?_
        try simp only[iW,iX]
        obtain⟨hb4,Df⟩:=DA (uU.out.blocks (V7.heap.size,nE,95) aZ).2 (.string (ah.bT ks.length)) (.int .i64 lo) (.int .i64 (lo+t')) (.slice none 0 0)
        have hge:=(uU.out.blocks (V7.heap.size,nE,95) aZ).1
        have yd:=aW (uU.out.blocks (V7.heap.size,nE,95) aZ).2
        obtain⟨⟨b0,b1,b2,b3⟩,bz⟩:=yd
        have tD:=hid (KS.mk3 HbR.out HR.out xZ.out Dc.out hSb HO.out hbB uU.out.turn acw.out hge hb4 Df)
        clear hb4 Df hge uU acw
        exact El
      case p6=>
        go_wp2
        obtain⟨V9,hV9⟩:=aV (V4.alloc (.cells nE 95))
        have Hf:=hid (DI.out.alloc nE 95)
        have acy:=hid (Sm.out.keep (aB.below (ay.alloc aH (.cells nE 95))))
        rw[<-hV9] at Hf acy ⊢
        refine aD (RG b w1 [(V4.heap.size,nE,95),(V0.heap.size,rD,9)]) (fun _ h=>h.tail) Hf.out ?_
        clear hV9 Sm
        refine aM rfl ?_
        go_wp2_with fail
        refine(bn 5 aC aC b (N+1) aC _ acy.out).mono ?_
        rintro e V10 ⟨t',rfl,jf,mD,hm',ht', -⟩
        have qY:=hid (Hf.out.take py.out ht')
        have aan:=hid hm'
        clear hm' ht' Hf acy
        go_wp2
        refine aD (RG b w1 [(V4.heap.size,nE,95),(V0.heap.size,rD,9)]) (fun _ h=>h) qY.out ?_
        refine aL rfl ?_
        intro hne
        have hq:IntKind.i64.wrap (lo+t')=lo+t':=IntWalk.i64_in _ aC
        go_big_quiet_step (fail)
        refine fS ?_
        clear hne hq
        refine eB ?_
        refine aT ?_
        try simp only[iW,iX]
        obtain⟨hb4,Df⟩:=DA (qY.out.blocks (V4.heap.size,nE,95) aZ).2 (.string (ah.bT ks.length)) (.int .i64 lo) (.int .i64 (lo+t')) (.slice none 0 0)
        have hge:=(qY.out.blocks (V4.heap.size,nE,95) aZ).1
        have yd:=aW (qY.out.blocks (V4.heap.size,nE,95) aZ).2
        obtain⟨⟨b0,b1,b2,b3⟩,bz⟩:=yd
        have tD:=hid (KS.mk3 HbR.out HR.out xZ.out Dc.out hSb HO.out hbB qY.out.turn aan.out hge hb4 Df)
        clear hb4 Df hge qY aan
        exact El
    case p2=>
      go_wp2_with fail
      refine(bn 5 aC aC b (N+1) aC _ fJ.out).mono ?_
      rintro e yj ⟨t',rfl,jf,mD,hm',ht', -⟩
      have zu:=hid (dF.out.take py.out ht')
      have MR:=hid hm'
      clear hm' ht' dF fJ
      go_wp2
      refine aD (RG b w1 []) (fun _ h=>h) zu.out ?_
      refine aL rfl ?_
      intro hne
      have hq:IntKind.i64.wrap (lo+t')=lo+t':=IntWalk.i64_in _ aC
      go_big_quiet_step (fail)
      refine fS ?_
      clear hne hq
      refine dG rfl rfl ?p12 ?p13
      case p12=>
        go_wp2
        obtain⟨XZ,Sn⟩:=aV (yj.alloc (.cells rD 9))
        have Bn:=hid (zu.out.alloc rD 9)
        have Sq:=hid (MR.out.keep (aB.below (ay.alloc aH (.cells rD 9))))
        rw[<-Sn] at Bn Sq ⊢
        refine aD (RG b w1 [(yj.heap.size,rD,9)]) (fun _ h=>h.tail) Bn.out ?_
        clear Sn MR
        refine aL rfl ?_
        intro hne
        have hq:dI (some ⟨yj.heap.size,0,none⟩) 3:=fun _=>⟨_,_,rfl⟩
        go_big_quiet_step (fail)
        refine fS ?_
        clear hne hq
        refine aL rfl ?_
        intro hne
        have hq:∀x:Held (RG b w1 [(yj.heap.size,rD,9)]),x.1.cell? ⟨yj.heap.size,ks.length,none⟩=some (.string (ah.bT ks.length)):=fun x=>RG.cell x yj.heap.size rD 9 aZ Rf.out
        go_big_quiet_step (fail)
        refine fS ?_
        clear hne hq
        refine eB ?_
        refine aM rfl ?_
        go_wp2
        obtain⟨V15,Sr⟩:=aV (XZ.alloc (.cells nE 95))
        have pE:=hid (Bn.out.alloc nE 95)
        have Ss:=hid (Sq.out.keep (aB.below (ay.alloc aH (.cells nE 95))))
        rw[<-Sr] at pE Ss ⊢
        refine aD (RG b w1 [(XZ.heap.size,nE,95),(yj.heap.size,rD,9)]) (fun _ h=>h.tail) pE.out ?_
        clear Sr Sq
        refine aT ?_
        try simp only[iW,iX]
        obtain⟨hb4,Df⟩:=DA (pE.out.blocks (XZ.heap.size,nE,95) aZ).2 (.string (ah.bT ks.length)) (.int .i64 lo) (.int .i64 (lo+t')) (.slice none 0 0)
        have hge:=(pE.out.blocks (XZ.heap.size,nE,95) aZ).1
        have yd:=aW (pE.out.blocks (XZ.heap.size,nE,95) aZ).2
        obtain⟨⟨b0,b1,b2,b3⟩,bz⟩:=yd
        have tD:=hid (KS.mk3 HbR.out HR.out xZ.out Dc.out hSb HO.out hbB pE.out.turn Ss.out hge hb4 Df)
        clear hb4 Df hge pE Ss
        exact El
      case p13=>
        go_wp2
        obtain⟨OM,Sw⟩:=aV (yj.alloc (.cells nE 95))
        have Bo:=hid (zu.out.alloc nE 95)
        have Sy:=hid (MR.out.keep (aB.below (ay.alloc aH (.cells nE 95))))
        rw[<-Sw] at Bo Sy ⊢
        refine aD (RG b w1 [(yj.heap.size,nE,95)]) (fun _ h=>h.tail) Bo.out ?_
        clear Sw MR
        refine aM rfl ?_
        go_wp2
        obtain⟨V17,Sz⟩:=aV (OM.alloc (.cells rD 9))
        have pF:=hid (Bo.out.alloc rD 9)
        have SA:=hid (Sy.out.keep (aB.below (ay.alloc aH (.cells rD 9))))
        rw[<-Sz] at pF SA ⊢
        refine aD (RG b w1 [(OM.heap.size,rD,9),(yj.heap.size,nE,95)]) (fun _ h=>h.tail) pF.out ?_
        clear Sz Sy
        refine aL rfl ?_
        intro hne
        have hq:dI (some ⟨OM.heap.size,0,none⟩) 3:=fun _=>⟨_,_,rfl⟩
        go_big_quiet_step (fail)
        refine fS ?_
        clear hne hq
        refine aL rfl ?_
        intro hne
        have hq:∀x:Held (RG b w1 [(OM.heap.size,rD,9),(yj.heap.size,nE,95)]),x.1.cell? ⟨OM.heap.size,ks.length,none⟩=some (.string (ah.bT ks.length)):=fun x=>RG.cell x OM.heap.size rD 9 aZ Rf.out
        go_big_quiet_step (fail)
        refine fS ?_
        clear hne hq
        refine eB ?_
        refine aT ?_
        try simp only[iW,iX]
        obtain⟨hb4,Df⟩:=DA (pF.out.blocks (yj.heap.size,nE,95) aZ).2 (.string (ah.bT ks.length)) (.int .i64 lo) (.int .i64 (lo+t')) (.slice none 0 0)
        have hge:=(pF.out.blocks (yj.heap.size,nE,95) aZ).1
        have yd:=aW (pF.out.blocks (yj.heap.size,nE,95) aZ).2
        obtain⟨⟨b0,b1,b2,b3⟩,bz⟩:=yd
        have tD:=hid (KS.mk3 HbR.out HR.out xZ.out Dc.out hSb HO.out hbB pF.out.turn SA.out hge hb4 Df)
        clear hb4 Df hge pF SA
        exact El
    case p3=>
      go_wp2
      obtain⟨AP,SB⟩:=aV (V0.alloc (.cells nE 95))
      have uy:=hid (dF.out.alloc nE 95)
      have Hg:=hid (fJ.out.keep (aB.below (ay.alloc aH (.cells nE 95))))
      rw[<-SB] at uy Hg ⊢
      refine aD (RG b w1 [(V0.heap.size,nE,95)]) (fun _ h=>h.tail) uy.out ?_
      clear SB fJ
      refine dG rfl rfl ?p19 ?p20
      case p19=>
        go_wp2
        obtain⟨V21,SC⟩:=aV (AP.alloc (.cells rD 9))
        have zw:=hid (uy.out.alloc rD 9)
        have SE:=hid (Hg.out.keep (aB.below (ay.alloc aH (.cells rD 9))))
        rw[<-SC] at zw SE ⊢
        refine aD (RG b w1 [(AP.heap.size,rD,9),(V0.heap.size,nE,95)]) (fun _ h=>h.tail) zw.out ?_
        clear SC Hg
        refine aL rfl ?_
        intro hne
        have hq:dI (some ⟨AP.heap.size,0,none⟩) 3:=fun _=>⟨_,_,rfl⟩
        go_big_quiet_step (fail)
        refine fS ?_
        clear hne hq
        refine aL rfl ?_
        intro hne
        have hq:∀x:Held (RG b w1 [(AP.heap.size,rD,9),(V0.heap.size,nE,95)]),x.1.cell? ⟨AP.heap.size,ks.length,none⟩=some (.string (ah.bT ks.length)):=fun x=>RG.cell x AP.heap.size rD 9 aZ Rf.out
        go_big_quiet_step (fail)
        refine fS ?_
        clear hne hq
        refine aM rfl ?_
        go_wp2_with fail
        refine(bn 5 aC aC b (N+1) aC _ SE.out).mono ?_
        rintro e V22 ⟨t',rfl,jf,mD,hm',ht', -⟩
        have qZ:=hid (zw.out.take py.out ht')
        have aao:=hid hm'
        clear hm' ht' zw SE
        go_wp2
        refine aD (RG b w1 [(AP.heap.size,rD,9),(V0.heap.size,nE,95)]) (fun _ h=>h) qZ.out ?_
        refine aL rfl ?_
        intro hne
        have hq:IntKind.i64.wrap (lo+t')=lo+t':=IntWalk.i64_in _ aC
        go_big_quiet_step (fail)
        refine fS ?_
        clear hne hq
        refine eB ?_
        refine aT ?_
        try simp only[iW,iX]
        obtain⟨hb4,Df⟩:=DA (qZ.out.blocks (V0.heap.size,nE,95) aZ).2 (.string (ah.bT ks.length)) (.int .i64 lo) (.int .i64 (lo+t')) (.slice none 0 0)
        have hge:=(qZ.out.blocks (V0.heap.size,nE,95) aZ).1
        have yd:=aW (qZ.out.blocks (V0.heap.size,nE,95) aZ).2
        obtain⟨⟨b0,b1,b2,b3⟩,bz⟩:=yd
        have tD:=hid (KS.mk3 HbR.out HR.out xZ.out Dc.out hSb HO.out hbB qZ.out.turn aao.out hge hb4 Df)
        clear hb4 Df hge qZ aao
        exact El
      case p20=>
        go_wp2_with fail
        refine(bn 5 aC aC b (N+1) aC _ Hg.out).mono ?_
        rintro e OO ⟨t',rfl,jf,mD,hm',ht', -⟩
        have Em:=hid (uy.out.take py.out ht')
        have aap:=hid hm'
        clear hm' ht' uy Hg
        go_wp2
        refine aD (RG b w1 [(V0.heap.size,nE,95)]) (fun _ h=>h) Em.out ?_
        refine aL rfl ?_
        intro hne
        have hq:IntKind.i64.wrap (lo+t')=lo+t':=IntWalk.i64_in _ aC
        go_big_quiet_step (fail)
        refine fS ?_
        clear hne hq
        refine aM rfl ?_
        go_wp2
        obtain⟨V24,SF⟩:=aV (OO.alloc (.cells rD 9))
        have pG:=hid (Em.out.alloc rD 9)
        have SH:=hid (aap.out.keep (aB.below (ay.alloc aH (.cells rD 9))))
        rw[<-SF] at pG SH ⊢
        refine aD (RG b w1 [(OO.heap.size,rD,9),(V0.heap.size,nE,95)]) (fun _ h=>h.tail) pG.out ?_
        clear SF aap
        refine aL rfl ?_
        intro hne
        have hq:dI (some ⟨OO.heap.size,0,none⟩) 3:=fun _=>⟨_,_,rfl⟩
        go_big_quiet_step (fail)
        refine fS ?_
        clear hne hq
        refine aL rfl ?_
        intro hne
        have hq:∀x:Held (RG b w1 [(OO.heap.size,rD,9),(V0.heap.size,nE,95)]),x.1.cell? ⟨OO.heap.size,ks.length,none⟩=some (.string (ah.bT ks.length)):=fun x=>RG.cell x OO.heap.size rD 9 aZ Rf.out
        go_big_quiet_step (fail)
        refine fS ?_
        clear hne hq
        refine eB ?_
        refine aT ?_
        try simp only[iW,iX]
        obtain⟨hb4,Df⟩:=DA (pG.out.blocks (V0.heap.size,nE,95) aZ).2 (.string (ah.bT ks.length)) (.int .i64 lo) (.int .i64 (lo+t')) (.slice none 0 0)
        have hge:=(pG.out.blocks (V0.heap.size,nE,95) aZ).1
        have yd:=aW (pG.out.blocks (V0.heap.size,nE,95) aZ).2
        obtain⟨⟨b0,b1,b2,b3⟩,bz⟩:=yd
        have tD:=hid (KS.mk3 HbR.out HR.out xZ.out Dc.out hSb HO.out hbB pG.out.turn SH.out hge hb4 Df)
        clear hb4 Df hge pG SH
        exact El
  case rest=>
    obtain⟨K,hi,rfl,HI,HK⟩:=hcut
    clear Gw Dc xZ HR HM HO h0 h6
    obtain⟨av,nv,cv,hn0,hbx,yo,hG⟩:=HK.out.box
    have hn1:nv=0:=hn0
    subst hn1
    have lD:=hid hbx
    have HOW:=hid yo
    have HG:=hid hG
    obtain⟨⟨-, -, -,b3⟩, -⟩:=aW hbx
    have py:Hid (b<wc.heap.size):=hid (by have:=HK.out.lb;have:=HK.out.turn.size;omega)
    have hKb:K≠b:=by have:=HK.out.lb;have:=HK.out.ge;omega
    clear hn0 hbx yo hG
    go_upto_region 4 with fail
    go_cut [] from 31 to 42 (fun wx=>∃x:Int,Hid (-3<=x/\x<=100)/\Hid (KS S b (N+3) B w none (.slice a ks.length c) ks K (ah.bT ks.length) lo hi [ah.xO x] wx))
    case first=>
      have dF:=hid (RG.start b wc)
      have fJ:=hid (HK.out.oR.keep (aB.below (aG ay 1)))
      obtain⟨V0,rY⟩:=aV (wc.drewN 1)
      refine cE 9 (.quiet 0 (.quiet 1 (.quiet 3 (.two 2 4 (.one 4 (.quiet 5 (.quiet 6 (.quiet 7 (.one 8 .done))))) (.one 2 (.quiet 5 (.quiet 6 (.quiet 7 (.one 8 .done))))))))) (RG b wc []) lN (by kernel_rfl) dF.out ?_
      rw[<-rY] at dF fJ ⊢
      clear rY
      refine eB ?_
      refine aL rfl ?_
      intro hne
      have hq:∀x:Held (RG b wc []),x.1.cell? ⟨K,3,none⟩=some (.slice av 0 cv):=fun x=>RG.old x hKb b3
      go_big_quiet_step (fail)
      refine fS ?_
      clear hne hq
      refine eB ?_
      refine dG rfl rfl ?p25 ?p26
      case p25=>
        go_wp2
        obtain⟨V27,ae8⟩:=aV (V0.alloc (.cells Ko 3))
        have MS:=hid (dF.out.alloc Ko 3)
        have SI:=hid (fJ.out.keep (aB.below (ay.alloc aH (.cells Ko 3))))
        rw[<-ae8] at MS SI ⊢
        refine aD (RG b wc [(V0.heap.size,Ko,3)]) (fun _ h=>h.tail) MS.out ?_
        clear ae8 fJ
        refine aM rfl ?_
        go_wp2_with fail
        refine(bn 4 aC aC b (N+2) aC _ SI.out).mono ?_
        rintro e V28 ⟨t',rfl,jf,mD,hm',ht', -⟩
        have zx:=hid (MS.out.take py.out ht')
        have aaq:=hid hm'
        clear hm' ht' MS SI
        go_wp2
        refine aD (RG b wc [(V0.heap.size,Ko,3)]) (fun _ h=>h) zx.out ?_
        refine aL rfl ?_
        intro hne
        have hq:dI (some ⟨V0.heap.size,0,none⟩) 4:=fun _=>⟨_,_,rfl⟩
        go_big_quiet_step (fail)
        refine fS ?_
        clear hne hq
        refine aL rfl ?_
        intro hne
        obtain⟨x,hx,hxc⟩:=rX [0,1,100, -3] t' jf GR
        have hx2: -3<=x/\x<=100:=by simp only[kM,vE,or_false] at hx;omega
        obtain⟨hx3,yd⟩:=hx2
        have FI:=hid hxc
        clear hx hxc
        have hq:∀x1:Held (RG b wc [(V0.heap.size,Ko,3)]),x1.1.cell? ⟨V0.heap.size,t'.toNat,none⟩=some (.int .i64 x):=fun x1=>RG.cell x1 V0.heap.size Ko 3 aZ FI.out
        go_big_quiet_step (fail)
        refine fS ?_
        clear hne hq
        refine eB ?_
        refine aM rfl ?_
        go_wp2
        refine aD (RG b wc [(V0.heap.size,Ko,3)]) (fun _ h=>h) (zx.out.alloc _ _).tail ?_
        refine aT ?_
        try simp only[iW,iX]
        have Hh:=hid (HOW.out.keep bg (aB.eG zx.out.turn (fun x hx e=>by
          have hge:=HK.out.ge
          have hlb:=HK.out.lb
          rcases hx with hx|hx
          · have:K<x:=hx;omega
          · have:=(HOW.out.lt x hx).1;omega)))
        go_wp2_with (at_builtin;go_must (refine cF bg rfl _ _ rfl Tryz.kB rfl Hh.out (us:=cV (ah.xO x) (.slice none 0 0) (.slice none 0 0)) rfl rfl rfl (ah.xO x) (jo (f:=ah.xO x) rfl rfl) (tC (f:=ah.xO x)) aZ (by have:=(zx.out.turn).size;have:=aj lD.out;omega) ?_))
        intro v' w' how' ht' hn'
        obtain⟨a',c',hv', -⟩:=how'.form
        simp only[List.nil_append,List.length_cons,List.length_nil,Nat.zero_add] at hv'
        subst hv'
        have tD:=hid (KS.app (HK.out) lD.out (fun x hx=>by have:=(HOW.out.lt x hx).1;omega) zx.out.turn aaq.out HG.out how' rfl ht' hn')
        have Bp:=(ht'.block K (fun e=>by have:=(HOW.out.lt K e.symm).1;omega) (aj (zx.out.block hKb lD.out))).trans (zx.out.block hKb lD.out)
        obtain⟨⟨-, -, -,d3⟩,dz⟩:=aW Bp
        have SK:=dz 3
        clear how' ht' hn' Hh Bp dz zx aaq
        go_wp2
        go_meet
        case rel=>exact⟨x,hid ⟨hx3,yd⟩,tD⟩
      case p26=>
        go_wp2_with fail
        refine(bn 4 aC aC b (N+2) aC _ fJ.out).mono ?_
        rintro e V29 ⟨t',rfl,jf,mD,hm',ht', -⟩
        have aar:=hid (dF.out.take py.out ht')
        have aas:=hid hm'
        clear hm' ht' dF fJ
        go_wp2
        refine aD (RG b wc []) (fun _ h=>h) aar.out ?_
        refine aM rfl ?_
        go_wp2
        obtain⟨V30,ae9⟩:=aV (V29.alloc (.cells Ko 3))
        have wh:=hid (aar.out.alloc Ko 3)
        have SL:=hid (aas.out.keep (aB.below (ay.alloc aH (.cells Ko 3))))
        rw[<-ae9] at wh SL ⊢
        refine aD (RG b wc [(V29.heap.size,Ko,3)]) (fun _ h=>h.tail) wh.out ?_
        clear ae9 aas
        refine aL rfl ?_
        intro hne
        have hq:dI (some ⟨V29.heap.size,0,none⟩) 4:=fun _=>⟨_,_,rfl⟩
        go_big_quiet_step (fail)
        refine fS ?_
        clear hne hq
        refine aL rfl ?_
        intro hne
        obtain⟨x,hx,hxc⟩:=rX [0,1,100, -3] t' jf GR
        have hx2: -3<=x/\x<=100:=by simp only[kM,vE,or_false] at hx;omega
        obtain⟨hx3,yd⟩:=hx2
        have FI:=hid hxc
        clear hx hxc
        have hq:∀x1:Held (RG b wc [(V29.heap.size,Ko,3)]),x1.1.cell? ⟨V29.heap.size,t'.toNat,none⟩=some (.int .i64 x):=fun x1=>RG.cell x1 V29.heap.size Ko 3 aZ FI.out
        go_big_quiet_step (fail)
        refine fS ?_
        clear hne hq
        refine eB ?_
        refine aM rfl ?_
        go_wp2
        refine aD (RG b wc [(V29.heap.size,Ko,3)]) (fun _ h=>h) (wh.out.alloc _ _).tail ?_
        refine aT ?_
        try simp only[iW,iX]
        have Hh:=hid (HOW.out.keep bg (aB.eG wh.out.turn (fun x hx e=>by
          have hge:=HK.out.ge
          have hlb:=HK.out.lb
          rcases hx with hx|hx
          · have:K<x:=hx;omega
          · have:=(HOW.out.lt x hx).1;omega)))
        go_wp2_with (at_builtin;go_must (refine cF bg rfl _ _ rfl Tryz.kB rfl Hh.out (us:=cV (ah.xO x) (.slice none 0 0) (.slice none 0 0)) rfl rfl rfl (ah.xO x) (jo (f:=ah.xO x) rfl rfl) (tC (f:=ah.xO x)) aZ (by have:=(wh.out.turn).size;have:=aj lD.out;omega) ?_))
        intro v' w' how' ht' hn'
        obtain⟨a',c',hv', -⟩:=how'.form
        simp only[List.nil_append,List.length_cons,List.length_nil,Nat.zero_add] at hv'
        subst hv'
        have tD:=hid (KS.app (HK.out) lD.out (fun x hx=>by have:=(HOW.out.lt x hx).1;omega) wh.out.turn SL.out HG.out how' rfl ht' hn')
        have Bp:=(ht'.block K (fun e=>by have:=(HOW.out.lt K e.symm).1;omega) (aj (wh.out.block hKb lD.out))).trans (wh.out.block hKb lD.out)
        obtain⟨⟨-, -, -,d3⟩,dz⟩:=aW Bp
        have SK:=dz 3
        clear how' ht' hn' Hh Bp dz wh SL
        go_wp2
        go_meet
        case rel=>exact⟨x,hid ⟨hx3,yd⟩,tD⟩
    case rest=>
      obtain⟨x,HX,HK4⟩:=hcut
      clear HK lD HOW HG py b3
      go_upto_if 43 with fail
      go_cut [] from 8 to 135 (fun wx=>∃G ks' hs,Hid (ks'.length=ks.length)/\Hid (ah.qp ks (ah.bT ks.length) ks' hs)/\Hid (KS S b (N+20) B w G (.slice a ks.length c) ks' K (ah.bT ks.length) lo hi hs wx))
      case first=>
        by_cases hn:ks.length=0
        · have hn1:¬(0:Int)<ks.length:=by omega
          have HE:=hid hn
          clear hn
          go_wp2
          go_meet
          case rel=>exact⟨none,ks,[ah.xO x],hid rfl,hid ⟨x,HX.out.1,HX.out.2,.inl ⟨List.eq_nil_of_length_eq_zero HE.out,rfl,rfl⟩⟩,hid (HK4.out.more aC)⟩
        · have hn1:(0:Int)<ks.length:=by omega
          have hn2:0<ks.length:=by omega
          clear hn
          obtain⟨g,hag, -,hBg, -, -⟩:=HK4.out.own.vM hn2
          subst hag
          go_wp2_with fail
          refine(bn ks.length aC aC b (N+3) aC _ HK4.out.oR).mono ?_
          rintro e W2 ⟨t,rfl,Hl,Ho,hm2,ht2, -⟩
          obtain⟨m,rfl⟩:∃m:Nat,t=(m:Int):=⟨t.toNat,by omega⟩
          have hmn:m<ks.length:=by omega
          have rE:=hid (HK4.out.grow ht2 hm2)
          clear hm2 ht2 HK4
          obtain⟨av,nv,cv,hn0,hbx,yo, -⟩:=rE.out.box
          have acz:nv=1:=hn0
          subst acz
          have lD:=hid hbx
          have HOW:=hid yo
          have py:Hid (b<W2.heap.size):=hid (by have:=rE.out.lb;have:=rE.out.turn.size;omega)
          have hgb:g≠b:=by omega
          obtain⟨-, -,c0, -, -, -⟩:=rE.out.Sc.at hmn
          simp only[gZ,ig,Nat.zero_add] at c0
          have hsk:dI (some ⟨g,0,none⟩) ks.length:=fun _=>⟨_,_,rfl⟩
          obtain⟨kd,hkd⟩:=aV (ks[m])
          rw[<-hkd] at c0
          have OP:=hid hkd
          have HKA:Hid (kd=ah.jC ks m):=hid (by rw[hkd,ah.jC,jA,kK hmn];rfl)
          clear hn0 hbx yo hkd
          go_upto_region 7 with fail
          go_cut [9] from 9 to 57 (fun f wx=>∃F,∃h':Int,f=.pointer (some ⟨F,0,none⟩)/\Hid (2<=h'/\h'<=8)/\Hid (RG b W2 [(F,(cV (ah.Da kd.name 0 h') (.slice none 0 0) (.slice none 0 0)).toArray,92)] wx)/\Hid (iB wx b (N+5)))
          case first=>
            have dF:=hid (RG.start b W2)
            have fJ:=hid (rE.out.oR.keep (aB.below (aG ay 1)))
            obtain⟨V0,rY⟩:=aV (W2.drewN 1)
            refine cE 12 (.quiet 0 (.quiet 1 (.quiet 2 (.quiet 3 (.quiet 4 (.quiet 6 (.three 5 7 11 (.two 7 11 (.quiet 8 (.quiet 9 (.quiet 10 (.one 11 .done)))) (.one 7 (.quiet 8 (.quiet 9 (.quiet 10 .done))))) (.two 5 11 (.quiet 8 (.quiet 9 (.quiet 10 (.one 11 .done)))) (.one 5 (.quiet 8 (.quiet 9 (.quiet 10 .done))))) (.two 5 7 (.one 7 (.quiet 8 (.quiet 9 (.quiet 10 .done)))) (.one 5 (.quiet 8 (.quiet 9 (.quiet 10 .done)))))))))))) (RG b W2 []) lN (by kernel_rfl) dF.out ?_
            rw[<-rY] at dF fJ ⊢
            clear rY
            iterate 4 refine eB ?_
            refine aL rfl ?_
            intro hne
            have hq:∀x:Held (RG b W2 []),x.1.cell? ⟨g,m*4,none⟩=some (.string kd.name):=fun x=>RG.old x hgb c0
            go_big_quiet_step (fail)
            refine fS ?_
            clear hne hq
            refine eB ?_
            refine rV rfl rfl rfl ?p31 ?p32 ?p33
            case p31=>
              go_wp2
              obtain⟨Kq,afa⟩:=aV (V0.alloc (.cells qX 3))
              have Hp:=hid (dF.out.alloc qX 3)
              have Hq:=hid (fJ.out.keep (aB.below (ay.alloc aH (.cells qX 3))))
              rw[<-afa] at Hp Hq ⊢
              refine aD (RG b W2 [(V0.heap.size,qX,3)]) (fun _ h=>h.tail) Hp.out ?_
              clear afa fJ
              refine dG rfl rfl ?p35 ?p36
              case p35=>
                go_wp2_with fail
                refine(bn 4 aC aC b (N+4) aC _ Hq.out).mono ?_
                rintro e OQ ⟨t',rfl,jf,mD,hm',ht', -⟩
                have aat:=hid (Hp.out.take py.out ht')
                have aau:=hid hm'
                clear hm' ht' Hp Hq
                go_wp2
                refine aD (RG b W2 [(V0.heap.size,qX,3)]) (fun _ h=>h) aat.out ?_
                refine aL rfl ?_
                intro hne
                have hq:dI (some ⟨V0.heap.size,0,none⟩) 4:=fun _=>⟨_,_,rfl⟩
                go_big_quiet_step (fail)
                refine fS ?_
                clear hne hq
                refine aL rfl ?_
                intro hne
                obtain⟨h',hx,hxc⟩:=rX [4,3,8,2] t' jf GR
                have hx2:2<=h'/\h'<=8:=by simp only[kM,vE,or_false] at hx;omega
                obtain⟨hx3,yd⟩:=hx2
                have FI:=hid hxc
                clear hx hxc
                have hq:∀x1:Held (RG b W2 [(V0.heap.size,qX,3)]),x1.1.cell? ⟨V0.heap.size,t'.toNat,none⟩=some (.int .i64 h'):=fun x1=>RG.cell x1 V0.heap.size qX 3 aZ FI.out
                go_big_quiet_step (fail)
                refine fS ?_
                clear hne hq
                refine eB ?_
                refine aM rfl ?_
                go_wp2
                obtain⟨V38,afb⟩:=aV (OQ.alloc (.cells oQ 92))
                have Hr:=hid (aat.out.alloc oQ 92)
                have SN:=hid (aau.out.keep (aB.below (ay.alloc aH (.cells oQ 92))))
                rw[<-afb] at Hr SN ⊢
                refine aD (RG b W2 [(OQ.heap.size,oQ,92),(V0.heap.size,qX,3)]) (fun _ h=>h.tail) Hr.out ?_
                clear afb aau
                refine aT ?_
                try simp only[iW,iX]
                have hbl:=Hr.out.blocks (OQ.heap.size,oQ,92) aZ
                have Hs:RG b W2 [(OQ.heap.size,oQ,92)] V38:=Hr.out.sub (fun y hy=>by obtain rfl:=nU.1 hy;simp)
                have HRG:=hid (Hs.yh (.string ah.vW) (.string kd.name) (.string ah.nil) (.int .i64 1) (.int .i64 0) (.int .i64 h') (.slice none 0 0) (.slice none 0 0))
                have HMK:=hid (SN.out.keep (w':=(((((((V38.setCell ⟨OQ.heap.size,0,none⟩ (.string ah.vW)).setCell ⟨OQ.heap.size,1,none⟩ (.string kd.name)).setCell ⟨OQ.heap.size,2,none⟩ (.string ah.nil)).setCell ⟨OQ.heap.size,3,none⟩ (.int .i64 1)).setCell ⟨OQ.heap.size,4,none⟩ (.int .i64 0)).setCell ⟨OQ.heap.size,5,none⟩ (.int .i64 h')).setCell ⟨OQ.heap.size,6,none⟩ (.slice none 0 0)).setCell ⟨OQ.heap.size,7,none⟩ (.slice none 0 0)) (fun y hy _=>oW () (show y≠OQ.heap.size by have:=py.out;have:=hbl.1;omega) _ _ _ _ _ _ _ _))
                obtain⟨⟨y0,y1,y2,y3,y4,y5,y6,y7⟩,yz⟩:=dY hbl.2
                clear hbl Hs Hr SN
                exact Ej
              case p36=>
                go_wp2
                obtain⟨V39,afc⟩:=aV (Kq.alloc (.cells oQ 92))
                have MT:=hid (Hp.out.alloc oQ 92)
                have SQ:=hid (Hq.out.keep (aB.below (ay.alloc aH (.cells oQ 92))))
                rw[<-afc] at MT SQ ⊢
                refine aD (RG b W2 [(Kq.heap.size,oQ,92),(V0.heap.size,qX,3)]) (fun _ h=>h.tail) MT.out ?_
                clear afc Hq
                refine aM rfl ?_
                go_wp2_with fail
                refine(bn 4 aC aC b (N+4) aC _ SQ.out).mono ?_
                rintro e V40 ⟨t',rfl,jf,mD,hm',ht', -⟩
                have MU:=hid (MT.out.take py.out ht')
                have aav:=hid hm'
                clear hm' ht' MT SQ
                go_wp2
                refine aD (RG b W2 [(Kq.heap.size,oQ,92),(V0.heap.size,qX,3)]) (fun _ h=>h) MU.out ?_
                refine aL rfl ?_
                intro hne
                have hq:dI (some ⟨V0.heap.size,0,none⟩) 4:=fun _=>⟨_,_,rfl⟩
                go_big_quiet_step (fail)
                refine fS ?_
                clear hne hq
                refine aL rfl ?_
                intro hne
                obtain⟨h',hx,hxc⟩:=rX [4,3,8,2] t' jf GR
                have hx2:2<=h'/\h'<=8:=by simp only[kM,vE,or_false] at hx;omega
                obtain⟨hx3,yd⟩:=hx2
                have FI:=hid hxc
                clear hx hxc
                have hq:∀x1:Held (RG b W2 [(Kq.heap.size,oQ,92),(V0.heap.size,qX,3)]),x1.1.cell? ⟨V0.heap.size,t'.toNat,none⟩=some (.int .i64 h'):=fun x1=>RG.cell x1 V0.heap.size qX 3 aZ FI.out
                go_big_quiet_step (fail)
                refine fS ?_
                clear hne hq
                refine eB ?_
                refine aT ?_
                try simp only[iW,iX]
                have hbl:=MU.out.blocks (Kq.heap.size,oQ,92) aZ
                have Hs:RG b W2 [(Kq.heap.size,oQ,92)] V40:=MU.out.sub (fun y hy=>by obtain rfl:=nU.1 hy;simp)
                have HRG:=hid (Hs.yh (.string ah.vW) (.string kd.name) (.string ah.nil) (.int .i64 1) (.int .i64 0) (.int .i64 h') (.slice none 0 0) (.slice none 0 0))
                have HMK:=hid (aav.out.keep (w':=(((((((V40.setCell ⟨Kq.heap.size,0,none⟩ (.string ah.vW)).setCell ⟨Kq.heap.size,1,none⟩ (.string kd.name)).setCell ⟨Kq.heap.size,2,none⟩ (.string ah.nil)).setCell ⟨Kq.heap.size,3,none⟩ (.int .i64 1)).setCell ⟨Kq.heap.size,4,none⟩ (.int .i64 0)).setCell ⟨Kq.heap.size,5,none⟩ (.int .i64 h')).setCell ⟨Kq.heap.size,6,none⟩ (.slice none 0 0)).setCell ⟨Kq.heap.size,7,none⟩ (.slice none 0 0)) (fun y hy _=>oW () (show y≠Kq.heap.size by have:=py.out;have:=hbl.1;omega) _ _ _ _ _ _ _ _))
                obtain⟨⟨y0,y1,y2,y3,y4,y5,y6,y7⟩,yz⟩:=dY hbl.2
                clear hbl Hs MU aav
                exact Ej
            case p32=>
              go_wp2_with fail
              refine(bn 4 aC aC b (N+4) aC _ fJ.out).mono ?_
              rintro e Dh ⟨t',rfl,jf,mD,hm',ht', -⟩
              have SV:=hid (dF.out.take py.out ht')
              have MV:=hid hm'
              clear hm' ht' dF fJ
              go_wp2
              refine aD (RG b W2 []) (fun _ h=>h) SV.out ?_
              refine dG rfl rfl ?p42 ?p43
              case p42=>
                go_wp2
                obtain⟨OT,afd⟩:=aV (Dh.alloc (.cells qX 3))
                have SX:=hid (SV.out.alloc qX 3)
                have SY:=hid (MV.out.keep (aB.below (ay.alloc aH (.cells qX 3))))
                rw[<-afd] at SX SY ⊢
                refine aD (RG b W2 [(Dh.heap.size,qX,3)]) (fun _ h=>h.tail) SX.out ?_
                clear afd MV
                refine aL rfl ?_
                intro hne
                have hq:dI (some ⟨Dh.heap.size,0,none⟩) 4:=fun _=>⟨_,_,rfl⟩
                go_big_quiet_step (fail)
                refine fS ?_
                clear hne hq
                refine aL rfl ?_
                intro hne
                obtain⟨h',hx,hxc⟩:=rX [4,3,8,2] t' jf GR
                have hx2:2<=h'/\h'<=8:=by simp only[kM,vE,or_false] at hx;omega
                obtain⟨hx3,yd⟩:=hx2
                have FI:=hid hxc
                clear hx hxc
                have hq:∀x1:Held (RG b W2 [(Dh.heap.size,qX,3)]),x1.1.cell? ⟨Dh.heap.size,t'.toNat,none⟩=some (.int .i64 h'):=fun x1=>RG.cell x1 Dh.heap.size qX 3 aZ FI.out
                go_big_quiet_step (fail)
                refine fS ?_
                clear hne hq
                refine eB ?_
                refine aM rfl ?_
                go_wp2
                obtain⟨V45,afe⟩:=aV (OT.alloc (.cells oQ 92))
                have Ht:=hid (SX.out.alloc oQ 92)
                have SZ:=hid (SY.out.keep (aB.below (ay.alloc aH (.cells oQ 92))))
                rw[<-afe] at Ht SZ ⊢
                refine aD (RG b W2 [(OT.heap.size,oQ,92),(Dh.heap.size,qX,3)]) (fun _ h=>h.tail) Ht.out ?_
                clear afe SY
                refine aT ?_
                try simp only[iW,iX]
                have hbl:=Ht.out.blocks (OT.heap.size,oQ,92) aZ
                have Hs:RG b W2 [(OT.heap.size,oQ,92)] V45:=Ht.out.sub (fun y hy=>by obtain rfl:=nU.1 hy;simp)
                have HRG:=hid (Hs.yh (.string ah.vW) (.string kd.name) (.string ah.nil) (.int .i64 1) (.int .i64 0) (.int .i64 h') (.slice none 0 0) (.slice none 0 0))
                have HMK:=hid (SZ.out.keep (w':=(((((((V45.setCell ⟨OT.heap.size,0,none⟩ (.string ah.vW)).setCell ⟨OT.heap.size,1,none⟩ (.string kd.name)).setCell ⟨OT.heap.size,2,none⟩ (.string ah.nil)).setCell ⟨OT.heap.size,3,none⟩ (.int .i64 1)).setCell ⟨OT.heap.size,4,none⟩ (.int .i64 0)).setCell ⟨OT.heap.size,5,none⟩ (.int .i64 h')).setCell ⟨OT.heap.size,6,none⟩ (.slice none 0 0)).setCell ⟨OT.heap.size,7,none⟩ (.slice none 0 0)) (fun y hy _=>oW () (show y≠OT.heap.size by have:=py.out;have:=hbl.1;omega) _ _ _ _ _ _ _ _))
                obtain⟨⟨y0,y1,y2,y3,y4,y5,y6,y7⟩,yz⟩:=dY hbl.2
                clear hbl Hs Ht SZ
                exact Ej
              case p43=>
                go_wp2
                obtain⟨V46,aff⟩:=aV (Dh.alloc (.cells oQ 92))
                have S9:=hid (SV.out.alloc oQ 92)
                have Ta:=hid (MV.out.keep (aB.below (ay.alloc aH (.cells oQ 92))))
                rw[<-aff] at S9 Ta ⊢
                refine aD (RG b W2 [(Dh.heap.size,oQ,92)]) (fun _ h=>h.tail) S9.out ?_
                clear aff MV
                refine aM rfl ?_
                go_wp2
                obtain⟨V47,afg⟩:=aV (V46.alloc (.cells qX 3))
                have Hu:=hid (S9.out.alloc qX 3)
                have Tb:=hid (Ta.out.keep (aB.below (ay.alloc aH (.cells qX 3))))
                rw[<-afg] at Hu Tb ⊢
                refine aD (RG b W2 [(V46.heap.size,qX,3),(Dh.heap.size,oQ,92)]) (fun _ h=>h.tail) Hu.out ?_
                clear afg Ta
                refine aL rfl ?_
                intro hne
                have hq:dI (some ⟨V46.heap.size,0,none⟩) 4:=fun _=>⟨_,_,rfl⟩
                go_big_quiet_step (fail)
                refine fS ?_
                clear hne hq
                refine aL rfl ?_
                intro hne
                obtain⟨h',hx,hxc⟩:=rX [4,3,8,2] t' jf GR
                have hx2:2<=h'/\h'<=8:=by simp only[kM,vE,or_false] at hx;omega
                obtain⟨hx3,yd⟩:=hx2
                have FI:=hid hxc
                clear hx hxc
                have hq:∀x1:Held (RG b W2 [(V46.heap.size,qX,3),(Dh.heap.size,oQ,92)]),x1.1.cell? ⟨V46.heap.size,t'.toNat,none⟩=some (.int .i64 h'):=fun x1=>RG.cell x1 V46.heap.size qX 3 aZ FI.out
                go_big_quiet_step (fail)
                refine fS ?_
                clear hne hq
                refine eB ?_
                refine aT ?_
                try simp only[iW,iX]
                have hbl:=Hu.out.blocks (Dh.heap.size,oQ,92) aZ
                have Hs:RG b W2 [(Dh.heap.size,oQ,92)] V47:=Hu.out.sub (fun y hy=>by obtain rfl:=nU.1 hy;simp)
                have HRG:=hid (Hs.yh (.string ah.vW) (.string kd.name) (.string ah.nil) (.int .i64 1) (.int .i64 0) (.int .i64 h') (.slice none 0 0) (.slice none 0 0))
                have HMK:=hid (Tb.out.keep (w':=(((((((V47.setCell ⟨Dh.heap.size,0,none⟩ (.string ah.vW)).setCell ⟨Dh.heap.size,1,none⟩ (.string kd.name)).setCell ⟨Dh.heap.size,2,none⟩ (.string ah.nil)).setCell ⟨Dh.heap.size,3,none⟩ (.int .i64 1)).setCell ⟨Dh.heap.size,4,none⟩ (.int .i64 0)).setCell ⟨Dh.heap.size,5,none⟩ (.int .i64 h')).setCell ⟨Dh.heap.size,6,none⟩ (.slice none 0 0)).setCell ⟨Dh.heap.size,7,none⟩ (.slice none 0 0)) (fun y hy _=>oW () (show y≠Dh.heap.size by have:=py.out;have:=hbl.1;omega) _ _ _ _ _ _ _ _))
                obtain⟨⟨y0,y1,y2,y3,y4,y5,y6,y7⟩,yz⟩:=dY hbl.2
                clear hbl Hs Hu Tb
                exact Ej
            case p33=>
              go_wp2
              obtain⟨V48,afh⟩:=aV (V0.alloc (.cells oQ 92))
              have Hv:=hid (dF.out.alloc oQ 92)
              have Hw:=hid (fJ.out.keep (aB.below (ay.alloc aH (.cells oQ 92))))
              rw[<-afh] at Hv Hw ⊢
              refine aD (RG b W2 [(V0.heap.size,oQ,92)]) (fun _ h=>h.tail) Hv.out ?_
              clear afh fJ
              refine dG rfl rfl ?p49 ?p50
              case p49=>
                go_wp2
                obtain⟨V51,afi⟩:=aV (V48.alloc (.cells qX 3))
                have MW:=hid (Hv.out.alloc qX 3)
                have Tc:=hid (Hw.out.keep (aB.below (ay.alloc aH (.cells qX 3))))
                rw[<-afi] at MW Tc ⊢
                refine aD (RG b W2 [(V48.heap.size,qX,3),(V0.heap.size,oQ,92)]) (fun _ h=>h.tail) MW.out ?_
                clear afi Hw
                refine aM rfl ?_
                go_wp2_with fail
                refine(bn 4 aC aC b (N+4) aC _ Tc.out).mono ?_
                rintro e V52 ⟨t',rfl,jf,mD,hm',ht', -⟩
                have MX:=hid (MW.out.take py.out ht')
                have aaw:=hid hm'
                clear hm' ht' MW Tc
                go_wp2
                refine aD (RG b W2 [(V48.heap.size,qX,3),(V0.heap.size,oQ,92)]) (fun _ h=>h) MX.out ?_
                refine aL rfl ?_
                intro hne
                have hq:dI (some ⟨V48.heap.size,0,none⟩) 4:=fun _=>⟨_,_,rfl⟩
                go_big_quiet_step (fail)
                refine fS ?_
                clear hne hq
                refine aL rfl ?_
                intro hne
                obtain⟨h',hx,hxc⟩:=rX [4,3,8,2] t' jf GR
                have hx2:2<=h'/\h'<=8:=by simp only[kM,vE,or_false] at hx;omega
                obtain⟨hx3,yd⟩:=hx2
                have FI:=hid hxc
                clear hx hxc
                have hq:∀x1:Held (RG b W2 [(V48.heap.size,qX,3),(V0.heap.size,oQ,92)]),x1.1.cell? ⟨V48.heap.size,t'.toNat,none⟩=some (.int .i64 h'):=fun x1=>RG.cell x1 V48.heap.size qX 3 aZ FI.out
                go_big_quiet_step (fail)
                refine fS ?_
                clear hne hq
                refine eB ?_
                refine aT ?_
                try simp only[iW,iX]
                have hbl:=MX.out.blocks (V0.heap.size,oQ,92) aZ
                have Hs:RG b W2 [(V0.heap.size,oQ,92)] V52:=MX.out.sub (fun y hy=>by obtain rfl:=nU.1 hy;simp)
                have HRG:=hid (Hs.yh (.string ah.vW) (.string kd.name) (.string ah.nil) (.int .i64 1) (.int .i64 0) (.int .i64 h') (.slice none 0 0) (.slice none 0 0))
                have HMK:=hid (aaw.out.keep (w':=(((((((V52.setCell ⟨V0.heap.size,0,none⟩ (.string ah.vW)).setCell ⟨V0.heap.size,1,none⟩ (.string kd.name)).setCell ⟨V0.heap.size,2,none⟩ (.string ah.nil)).setCell ⟨V0.heap.size,3,none⟩ (.int .i64 1)).setCell ⟨V0.heap.size,4,none⟩ (.int .i64 0)).setCell ⟨V0.heap.size,5,none⟩ (.int .i64 h')).setCell ⟨V0.heap.size,6,none⟩ (.slice none 0 0)).setCell ⟨V0.heap.size,7,none⟩ (.slice none 0 0)) (fun y hy _=>oW () (show y≠V0.heap.size by have:=py.out;have:=hbl.1;omega) _ _ _ _ _ _ _ _))
                obtain⟨⟨y0,y1,y2,y3,y4,y5,y6,y7⟩,yz⟩:=dY hbl.2
                clear hbl Hs MX aaw
                exact Ej
              case p50=>
                go_wp2_with fail
                refine(bn 4 aC aC b (N+4) aC _ Hw.out).mono ?_
                rintro e V53 ⟨t',rfl,jf,mD,hm',ht', -⟩
                have aax:=hid (Hv.out.take py.out ht')
                have aay:=hid hm'
                clear hm' ht' Hv Hw
                go_wp2
                refine aD (RG b W2 [(V0.heap.size,oQ,92)]) (fun _ h=>h) aax.out ?_
                refine aM rfl ?_
                go_wp2
                obtain⟨V54,afj⟩:=aV (V53.alloc (.cells qX 3))
                have Hx:=hid (aax.out.alloc qX 3)
                have Td:=hid (aay.out.keep (aB.below (ay.alloc aH (.cells qX 3))))
                rw[<-afj] at Hx Td ⊢
                refine aD (RG b W2 [(V53.heap.size,qX,3),(V0.heap.size,oQ,92)]) (fun _ h=>h.tail) Hx.out ?_
                clear afj aay
                refine aL rfl ?_
                intro hne
                have hq:dI (some ⟨V53.heap.size,0,none⟩) 4:=fun _=>⟨_,_,rfl⟩
                go_big_quiet_step (fail)
                refine fS ?_
                clear hne hq
                refine aL rfl ?_
                intro hne
                obtain⟨h',hx,hxc⟩:=rX [4,3,8,2] t' jf GR
                have hx2:2<=h'/\h'<=8:=by simp only[kM,vE,or_false] at hx;omega
                obtain⟨hx3,yd⟩:=hx2
                have FI:=hid hxc
                clear hx hxc
                have hq:∀x1:Held (RG b W2 [(V53.heap.size,qX,3),(V0.heap.size,oQ,92)]),x1.1.cell? ⟨V53.heap.size,t'.toNat,none⟩=some (.int .i64 h'):=fun x1=>RG.cell x1 V53.heap.size qX 3 aZ FI.out
                go_big_quiet_step (fail)
                refine fS ?_
                clear hne hq
                refine eB ?_
                refine aT ?_
                try simp only[iW,iX]
                have hbl:=Hx.out.blocks (V0.heap.size,oQ,92) aZ
                have Hs:RG b W2 [(V0.heap.size,oQ,92)] V54:=Hx.out.sub (fun y hy=>by obtain rfl:=nU.1 hy;simp)
                have HRG:=hid (Hs.yh (.string ah.vW) (.string kd.name) (.string ah.nil) (.int .i64 1) (.int .i64 0) (.int .i64 h') (.slice none 0 0) (.slice none 0 0))
                have HMK:=hid (Td.out.keep (w':=(((((((V54.setCell ⟨V0.heap.size,0,none⟩ (.string ah.vW)).setCell ⟨V0.heap.size,1,none⟩ (.string kd.name)).setCell ⟨V0.heap.size,2,none⟩ (.string ah.nil)).setCell ⟨V0.heap.size,3,none⟩ (.int .i64 1)).setCell ⟨V0.heap.size,4,none⟩ (.int .i64 0)).setCell ⟨V0.heap.size,5,none⟩ (.int .i64 h')).setCell ⟨V0.heap.size,6,none⟩ (.slice none 0 0)).setCell ⟨V0.heap.size,7,none⟩ (.slice none 0 0)) (fun y hy _=>oW () (show y≠V0.heap.size by have:=py.out;have:=hbl.1;omega) _ _ _ _ _ _ _ _))
                obtain⟨⟨y0,y1,y2,y3,y4,y5,y6,y7⟩,yz⟩:=dY hbl.2
                clear hbl Hs Hx Td
                exact Ej
          case rest=>
            obtain⟨F,h',rfl,HH,HR7,MZ⟩:=hcut
            go_wp2_with fail
            refine(bn 5 aC aC b (N+5) aC _ MZ.out).mono ?_
            rintro e W3 ⟨t5,rfl,t5_lo,t5_hi,He,ht3, -⟩
            have WY:=hid (HR7.out.take py.out ht3)
            have Te:=hid He
            clear He ht3 HR7 MZ c0
            go_upto_if 60 with fail
            go_cut [] from 61 to 61 (fun wx=>∃l':Int,Hid (0<=l'/\l'<=1)/\Hid (RG b W2 [(F,(cV (ah.Da kd.name l' h') (.slice none 0 0) (.slice none 0 0)).toArray,92)] wx)/\Hid (iB wx b (N+6)))
            case first=>
              by_cases Ag:t5=0
              · subst Ag
                have hF:=WY.out.blocks (F,(cV (ah.Da kd.name 0 h') (.slice none 0 0) (.slice none 0 0)).toArray,92) aZ
                obtain⟨⟨-, -, -, -,y4, -, -, -⟩,yz⟩:=dY hF.2
                have yz4:=yz 4
                have Bq:=hid (WY.out.store 4 (.int .i64 1))
                have HM9:=hid (Te.out.keep (w':=W3.setCell ⟨F,4,none⟩ (.int .i64 1)) (fun x hx _=>nZ _ _ _ _ (show x≠F by have:=py.out;have:=hF.1;omega)))
                clear hF yz WY Te
                go_wp2
                go_meet
                case rel=>exact⟨1,hid ⟨by omega,by omega⟩,Bq,HM9⟩
              · have jR:(t5==0)=false:=GW Ag
                clear Ag
                go_wp2
                go_meet
                case rel=>exact⟨0,hid ⟨by omega,by omega⟩,WY,Te⟩
            case rest=>
              obtain⟨l',HL,Bq,HM9⟩:=hcut
              clear WY Te
              obtain⟨⟨y0,y1,y2,y3,y4,y5,y6,y7⟩, -⟩:=dY (Bq.out.blocks (F,(cV (ah.Da kd.name l' h') (.slice none 0 0) (.slice none 0 0)).toArray,92) aZ).2
              have Hh:=hid (HOW.out.keep bg (aB.eG Bq.out.turn (fun x hx e=>by
                have hge:=rE.out.ge
                have hlb:=rE.out.lb
                rcases hx with hx|hx
                · have:K<x:=hx;omega
                · have:=(HOW.out.lt x hx).1;omega)))
              have hKW:=Bq.out.block hKb lD.out
              obtain⟨⟨-, -, -,e3⟩, -⟩:=aW hKW
              go_wp2_with (at_builtin;go_must (refine cF bg rfl _ _ rfl Tryz.kB rfl Hh.out (us:=cV (ah.Da kd.name l' h') (.slice none 0 0) (.slice none 0 0)) rfl rfl rfl (ah.Da kd.name l' h') (jo (f:=ah.Da kd.name l' h') rfl rfl) (tC (f:=ah.Da kd.name l' h')) aZ (by have:=(Bq.out.turn).size;have:=aj lD.out;omega) ?_))
              intro v' w' how' ht' hn'
              obtain⟨a',c',hv', -⟩:=how'.form
              simp only[rG,List.length_cons,List.length_nil,Nat.zero_add,Nat.reduceAdd] at hv'
              subst hv'
              have tD:=hid (KS.app (rE.out) lD.out (fun x hx=>by have:=(HOW.out.lt x hx).1;omega) Bq.out.turn HM9.out (fun _ h=>by cases h) how' rfl ht' hn')
              have Bp:=(ht'.block K (fun e=>by have:=(HOW.out.lt K e.symm).1;omega) (aj hKW)).trans hKW
              obtain⟨⟨-, -, -,d3⟩,dz⟩:=aW Bp
              have SK:=dz 3
              clear how' ht' hn' Hh Bp dz hKW e3
              go_upto_region 11 with fail
              obtain⟨W4,hW4⟩:=aV (w'.setCell ⟨K,3,none⟩ (.slice a' 2 c'))
              rw[<-hW4] at tD ⊢
              clear hW4 SK d3
              obtain⟨-, -,d0,d1,d2,uf,d3,hfl⟩:=tD.out.Sc.at hmn
              simp only[gZ,ig,Nat.zero_add] at d0 d1 d2 d3
              rw[<-OP.out] at d0 d1 d2 hfl
              have OU:=hid hfl
              clear hfl
              go_wp2_with fail
              refine(Kn kd (lU kd uf) (fun x=>b<x) W4 ⟨uf,rfl,OU.out⟩ _ rfl).mono ?_
              rintro e W5 ⟨rfl,jR⟩
              have Gy:=hid (tD.out.grow (Turns.aQ jR) (tD.out.oR.keep (aB.below jR)))
              clear jR tD d0 d1 d2 d3 Bq HM9 OU lD HOW y0 y1 y2 y3 y4 y5 y6 y7
              obtain⟨cI,hcI⟩:=aV (ah.ML kd.aA)
              rw[<-hcI]
              have HcI:=hid hcI
              clear hcI
              go_upto_region 12 with fail
              go_cut [79] from 73 to 79 (fun s wx=>∃bd:Bool,s=.bool bd/\Hid (bd=true->∃ci,∃h:ci<kd.aA.length,cI=(ci:Int)/\ah.vX kd.aA[ci])/\Hid (KS S b (N+7) B w none (.slice (some ⟨g,0,none⟩) ks.length c) ks K (ah.bT ks.length) lo hi ([ah.xO x]++[ah.Da kd.name l' h']) wx))
              case first=>
                rcases ah.iE ah.uo kd.aA with⟨hc1, -⟩|⟨ci,hci,hc1,hc2, -⟩
                · have qu:cI= -1:=HcI.out.trans hc1
                  subst qu
                  clear hc1
                  go_wp2
                  go_meet
                  case rel=>exact⟨false,rfl,hid (fun h=>by cases h),hid (Gy.out.more aC)⟩
                · have qu:cI=(ci:Int):=HcI.out.trans hc1
                  subst qu
                  have HCI:Hid (∃cj,∃h:cj<kd.aA.length,(ci:Int)=(cj:Int)/\ah.vX kd.aA[cj]):=hid ⟨ci,hci,rfl,XW hc2⟩
                  clear hc1 hc2
                  have Tf:(0:Int)<=ci:=by omega
                  go_wp2_with fail
                  refine(bn 2 aC aC b (N+6) aC _ Gy.out.oR).mono ?_
                  rintro e W6 ⟨t6,rfl,Tg,Ti,xQ,xP, -⟩
                  have Hy:=hid (Gy.out.grow xP xQ)
                  clear xQ xP Gy
                  go_wp2
                  go_meet
                  case rel=>exact⟨_,rfl,hid (fun _=>HCI.out),Hy⟩
              case rest=>
               obtain⟨bd,rfl,HBD,Hy⟩:=hcut;clear Gy HcI;go_upto_if 79 with fail;go_cut [] from 80 to 94 (fun wx=>∃s,Hid (ah.qn kd s)/\Hid (KS S b (N+7) B w none (.slice (some ⟨g,0,none⟩) ks.length c) ks K (ah.bT ks.length) lo hi ([ah.xO x]++[ah.Da kd.name l' h']++s) wx))
               case first=>
                  cases bd with
                  |false=>
                    go_wp2
                    go_meet
                    case rel=>exact⟨[],hid (.inl rfl),hid (by rw[List.append_nil];exact Hy.out)⟩
                  |true=>
                    obtain⟨ci,hci,hce,hcc⟩:=HBD.out rfl
                    subst hce
                    have HSM:Hid (ah.qn kd [ah.qW kd.aA[ci].name]):=hid (.inr ⟨ci,hci,hcc,rfl⟩)
                    clear hcc HBD
                    have Tf:(0:Int)<=ci:=by omega
                    obtain⟨av,nv,cv,hn0,hbx,yo, -⟩:=Hy.out.box
                    have acz:nv=2:=hn0
                    subst acz
                    have lD:=hid hbx
                    have HOW:=hid yo
                    obtain⟨⟨-, -, -,b3⟩, -⟩:=aW hbx
                    have py:Hid (b<wc.heap.size):=hid (by have:=Hy.out.lb;have:=Hy.out.turn.size;omega)
                    obtain⟨-, -, -, -, -,uf,c3,hfl⟩:=Hy.out.Sc.at hmn
                    simp only[gZ,ig,Nat.zero_add] at c3
                    rw[<-OP.out] at hfl
                    obtain⟨au,cu,rfl,hsk2, -, -⟩:=hfl.form
                    obtain⟨-,hbu,c10, -⟩:=hfl.at hci
                    have hbu2:bD au≠b:=by omega
                    have hci1:(ci:Int)<kd.aA.length:=by omega
                    generalize kd.aA[ci].name=Rg at*
                    clear hn0 hbx yo hfl hbu
                    go_upto_region 13 with fail
                    have dF:=hid (RG.start b wc)
                    have fJ:=hid (Hy.out.oR.keep (aB.below (aG ay 1)))
                    obtain⟨V0,rY⟩:=aV (wc.drewN 1)
                    refine cE 13 (.quiet 0 (.quiet 1 (.quiet 2 (.quiet 3 (.quiet 4 (.quiet 5 (.quiet 6 (.quiet 7 (.quiet 8 (.quiet 9 (.quiet 10 (.quiet 11 (.one 12 .done))))))))))))) (RG b wc []) lN (by kernel_rfl) dF.out ?_
                    rw[<-rY] at dF fJ ⊢
                    clear rY
                    refine eB ?_
                    refine aL rfl ?_
                    intro hne
                    have hq:∀xh:Held (RG b wc []),xh.1.cell? ⟨K,3,none⟩=some (.slice av 2 cv):=fun xh=>RG.old xh hKb b3
                    go_big_quiet_step (fail)
                    refine fS ?_
                    clear hne hq
                    iterate 4 refine eB ?_
                    refine aL rfl ?_
                    intro hne
                    have hq:∀xh:Held (RG b wc []),xh.1.cell? ⟨g,m*4+3,none⟩=some (.slice au kd.aA.length cu):=fun xh=>RG.old xh hgb c3
                    go_big_quiet_step (fail)
                    refine fS ?_
                    clear hne hq
                    iterate 3 refine eB ?_
                    refine aL rfl ?_
                    intro hne
                    have hq:∀xh:Held (RG b wc []),xh.1.cell? ⟨bD au,bJ au+ci*8,none⟩=some (.string Rg):=fun xh=>RG.old xh hbu2 c10
                    go_big_quiet_step (fail)
                    refine fS ?_
                    clear hne hq
                    refine eB ?_
                    refine aM rfl ?_
                    go_wp2
                    refine aD (RG b wc []) (fun _ h=>h) (dF.out.alloc _ _).tail ?_
                    refine aT ?_
                    try simp only[iW,iX]
                    have Hh:=hid (HOW.out.keep bg (aB.eG dF.out.turn (fun x hx e=>by
                      have hge:=Hy.out.ge
                      have hlb:=Hy.out.lb
                      rcases hx with hx|hx
                      · have:K<x:=hx;omega
                      · have:=(HOW.out.lt x hx).1;omega)))
                    go_wp2_with (at_builtin;go_must (refine cF bg rfl _ _ rfl Tryz.kB rfl Hh.out (us:=cV (ah.qW Rg) (.slice none 0 0) (.slice none 0 0)) rfl rfl rfl (ah.qW Rg) (jo (f:=ah.qW Rg) rfl rfl) (tC (f:=ah.qW Rg)) aZ aeS ?_))
                    intro v' w' how' ht' hn'
                    obtain⟨a',c',hv', -⟩:=how'.form
                    simp only[rG,List.length_cons,List.length_nil,Nat.zero_add,Nat.reduceAdd] at hv'
                    subst hv'
                    have tD:=hid (KS.app (Hy.out) lD.out (fun x hx=>by have:=(HOW.out.lt x hx).1;omega) dF.out.turn fJ.out (fun _ h=>by cases h) how' rfl ht' hn')
                    have Bp:=(ht'.block K (fun e=>by have:=(HOW.out.lt K e.symm).1;omega) (aj (dF.out.block hKb lD.out))).trans (dF.out.block hKb lD.out)
                    obtain⟨⟨-, -, -,d3⟩,dz⟩:=aW Bp
                    have SK:=dz 3
                    clear how' ht' hn' Hh Bp dz dF fJ
                    go_wp2
                    go_meet
                    case rel=>exact⟨_,HSM,tD⟩
               case rest=>
                 obtain⟨s,wj,Di⟩:=hcut
                 clear Hy
                 obtain⟨-, -, -, -, -,uf,d3,hfl⟩:=Di.out.Sc.at hmn
                 simp only[gZ,ig,Nat.zero_add] at d3
                 rw[<-OP.out] at hfl
                 have OU:=hid hfl
                 clear hfl
                 go_upto_region 14 with fail
                 go_cut [106] from 95 to 106 (fun q wx=>∃bd:Bool,q=.bool bd/\Hid (bd=true->∀f∈kd.aA,f.name≠ah.fH)/\Hid (KS S b (N+8) B w none (.slice (some ⟨g,0,none⟩) ks.length c) ks K (ah.bT ks.length) lo hi ([ah.xO x]++[ah.Da kd.name l' h']++s) wx))
                 case first=>
                   go_wp2_with fail
                   refine(AO kd.aA ah.fH uf (fun x=>b<x) wc OU.out).mono ?_
                   rintro e w' ⟨rfl,rfl⟩
                   obtain⟨hI,X0⟩:=aV (ah.DE kd.aA ah.fH)
                   rw[<-X0]
                   rcases ah.iE (fun f:ah.dh=>decide (f.name=ah.fH)) kd.aA with⟨hc1,hc2⟩|⟨ci,hci,hc1,hc2, -⟩
                   · have qu:hI= -1:=X0.trans hc1
                     subst qu
                     have HNT:Hid (∀f∈kd.aA,f.name≠ah.fH):=hid (fun f hf=>by
                       obtain⟨j,hj,rfl⟩:=List.getElem_of_mem hf
                       simpa using hc2 j hj)
                     clear hc1 hc2 X0
                     go_wp2_with fail
                     refine(bn 3 aC aC b (N+7) aC _ Di.out.oR).mono ?_
                     rintro e W6 ⟨t6,rfl,Tg,Ti,xQ,xP, -⟩
                     have FJ:=hid (Di.out.grow xP xQ)
                     clear xQ xP Di OU d3
                     go_wp2
                     go_meet
                     case rel=>exact⟨_,rfl,hid (fun _=>HNT.out),FJ⟩
                   · have qu:hI=(ci:Int):=X0.trans hc1
                     subst qu
                     clear hc1 hc2 X0
                     have Tf:¬(ci:Int)<0:=by omega
                     go_wp2
                     go_meet
                     case rel=>exact⟨false,rfl,hid (fun h=>by cases h),hid (Di.out.more aC)⟩
                 case rest=>
                  obtain⟨bd,rfl,HNT,FJ⟩:=hcut;clear Di OU d3;go_upto_if 106 with fail;go_cut [] from 11 to 135 (fun wx=>∃G ks' p,Hid (ks'.length=ks.length)/\Hid (ah.xY ks m (ah.bT ks.length) ks' p)/\Hid (KS S b (N+20) B w G (.slice (some ⟨g,0,none⟩) ks.length c) ks' K (ah.bT ks.length) lo hi (([ah.xO x]++[ah.Da kd.name l' h']++s)++p) wx))
                  case first=>
                    cases bd with
                    |false=>
                      go_wp2
                      go_meet
                      case rel=>exact⟨none,ks,[],hid rfl,hid (.inl ⟨rfl,rfl⟩),hid (by rw[List.append_nil];exact FJ.out.more aC)⟩
                    |true=>
                      have HNT':=hid (HNT.out rfl)
                      clear HNT
                      go_wp2_with fail
                      refine(bn 3 aC aC b (N+8) aC _ FJ.out.oR).mono ?_
                      rintro e W6 ⟨t6,rfl,Tg,Ti,xQ,xP, -⟩
                      have FK:=hid (FJ.out.grow xP xQ)
                      clear xQ xP FJ
                      go_upto_region 16 with fail
                      obtain⟨fs,hfs⟩:=aV ([ah.xO x]++[ah.Da kd.name l' h']++s)
                      rw[<-hfs] at FK
                      have hs1:fs.length<=3:=by
                        have:=wj.out.len
                        rw[hfs]
                        simp
                        omega
                      have HFS:=hid hfs
                      clear hfs
                      obtain⟨av,nv,cv,hn0,hbx,yo, -⟩:=FK.out.box
                      have HNV:=hid hn0
                      clear hn0
                      have lD:=hid hbx
                      have HOW:=hid yo
                      obtain⟨⟨-, -, -,b3⟩, -⟩:=aW hbx
                      have py:Hid (b<W6.heap.size):=hid (by have:=FK.out.lb;have:=FK.out.turn.size;omega)
                      clear hbx yo
                      have dF:=hid (RG.start b W6)
                      have fJ:=hid (FK.out.oR.keep (aB.below (aG ay 1)))
                      obtain⟨V0,rY⟩:=aV (W6.drewN 1)
                      refine cE 9 (.quiet 0 (.quiet 1 (.quiet 2 (.quiet 3 (.quiet 4 (.one 5 (.quiet 6 (.quiet 7 (.one 8 .done))))))))) (RG b W6 []) lN (by kernel_rfl) dF.out ?_
                      rw[<-rY] at dF fJ ⊢
                      clear rY
                      refine eB ?_
                      refine aL rfl ?_
                      intro hne
                      have hq:∀xh:Held (RG b W6 []),xh.1.cell? ⟨K,3,none⟩=some (.slice av nv cv):=fun xh=>RG.old xh hKb b3
                      go_big_quiet_step (fail)
                      refine fS ?_
                      clear hne hq
                      iterate 3 refine eB ?_
                      refine aM rfl ?_
                      go_wp2_with fail
                      refine(bn 8 aC aC b (N+9) aC _ fJ.out).mono ?_
                      rintro e V55 ⟨t',rfl,jf,mD,hm',ht', -⟩
                      have zy:=hid (dF.out.take py.out ht')
                      have aaz:=hid hm'
                      clear hm' ht' dF fJ
                      go_wp2
                      refine aD (RG b W6 []) (fun _ h=>h) zy.out ?_
                      refine aL rfl ?_
                      intro hne
                      have hq:IntKind.i64.wrap (t6+t')=t6+t':=IntWalk.i64_in _ aC
                      go_big_quiet_step (fail)
                      refine fS ?_
                      clear hne hq
                      refine eB ?_
                      refine aM rfl ?_
                      go_wp2
                      refine aD (RG b W6 []) (fun _ h=>h) (zy.out.alloc _ _).tail ?_
                      refine aT ?_
                      try simp only[iW,iX]
                      have Hh:=hid (HOW.out.keep bg (aB.eG zy.out.turn (fun x hx e=>by
                        have hge:=FK.out.ge
                        have hlb:=FK.out.lb
                        rcases hx with hx|hx
                        · have:K<x:=hx;omega
                        · have:=(HOW.out.lt x hx).1;omega)))
                      go_wp2_with (at_builtin;go_must (refine cF bg rfl _ _ rfl Tryz.kB rfl Hh.out (us:=cV (ah.nD t6 (t6+t')) (.slice none 0 0) (.slice none 0 0)) rfl rfl rfl (ah.nD t6 (t6+t')) (jo (f:=ah.nD t6 (t6+t')) rfl rfl) (tC (f:=ah.nD t6 (t6+t'))) aC (by have:=(zy.out.turn).size;have:=aj lD.out;omega) ?_))
                      intro v' w' how' ht' hn'
                      obtain⟨a',c',hv', -⟩:=how'.form
                      obtain⟨n',hnn⟩:=aV ((fs++[ah.nD t6 (t6+t')]).length)
                      rw[<-hnn] at hv'
                      subst hv'
                      have tD:=hid (KS.app (FK.out) lD.out (fun x hx=>by have:=(HOW.out.lt x hx).1;omega) zy.out.turn aaz.out (fun _ h=>by cases h) how' hnn ht' hn')
                      have Bp:=(ht'.block K (fun e=>by have:=(HOW.out.lt K e.symm).1;omega) (aj (zy.out.block hKb lD.out))).trans (zy.out.block hKb lD.out)
                      obtain⟨⟨-, -, -,d3⟩,dz⟩:=aW Bp
                      have SK:=dz 3
                      have HNN:=hid hnn
                      clear how' ht' hn' Hh Bp dz zy aaz hnn
                      go_upto_region 17 with fail
                      obtain⟨W8,X4⟩:=aV (w'.setCell ⟨K,3,none⟩ (.slice a' n' c'))
                      rw[<-X4] at tD ⊢
                      clear X4 SK d3 lD HOW b3
                      have OL:=tD
                      clear tD FK HNV HNN
                      obtain⟨us, -,afk,M4⟩:=OL.out.own.at hmn
                      obtain⟨uf,rfl,Ai⟩:=M4
                      have c3:=afk 3 uf rfl
                      rw[<-OP.out] at Ai
                      obtain⟨au,cu,rfl, -, -, -⟩:=Ai.form
                      have HFF:=hid Ai
                      obtain⟨av,nv,cv, -,hbx, -, -⟩:=OL.out.box
                      obtain⟨⟨b0, -, -, -⟩, -⟩:=aW hbx
                      have M5:Hid (w.heap.size<=W8.heap.size):=hid OL.out.turn.size
                      have py:Hid (b<W8.heap.size):=hid (by have:=OL.out.lb;have:=OL.out.turn.size;omega)
                      have hbg:g≠b:=hgb
                      have hfl10:kd.aA.length<=1000000:=HKF.out _ (by rw[OP.out];exact gY _)
                      clear afk Ai hbx
                      have dF:=hid (RG.start b W8)
                      have fJ:=hid (OL.out.oR.keep (aB.below (aG ay 1)))
                      obtain⟨V0,rY⟩:=aV (W8.drewN 1)
                      refine cE 14 (.quiet 0 (.quiet 1 (.quiet 3 (.quiet 4 (.quiet 5 (.quiet 6 (.quiet 7 (.quiet 9 (.quiet 10 (.quiet 11 (.two 2 12 (.two 8 12 (.one 12 (.one 13 .done)) (.one 8 (.one 13 .done))) (.one 2 (.one 8 (.one 13 .done)))))))))))))) (RG b W8 []) lN (by kernel_rfl) dF.out ?_
                      rw[<-rY] at dF fJ ⊢
                      clear rY
                      iterate 6 refine eB ?_
                      refine aL rfl ?_
                      intro hne
                      have hq:∀xh:Held (RG b W8 []),xh.1.cell? ⟨g,m*4+3,none⟩=some (.slice au kd.aA.length cu):=fun xh=>RG.old xh hgb c3
                      go_big_quiet_step (fail)
                      refine fS ?_
                      clear hne hq
                      refine eB ?_
                      refine aL rfl ?_
                      intro hne
                      have hq:∀xh:Held (RG b W8 []),xh.1.cell? ⟨K,0,none⟩=some (.string (ah.bT ks.length)):=fun xh=>RG.old xh hKb b0
                      go_big_quiet_step (fail)
                      refine fS ?_
                      clear hne hq
                      refine eB ?_
                      refine dG rfl rfl ?p56 ?p57
                      case p56=>
                        go_wp2
                        obtain⟨JT,afl⟩:=aV (V0.alloc (.cells #[] 92))
                        have Br:=hid (dF.out.alloc #[] 92).tail
                        have zA:Hid (W8.heap.size<=V0.heap.size/\(V0.alloc (.cells #[] 92)).heap[V0.heap.size]?=some (.cells #[] 92 (0,0))):=hid ⟨dF.out.turn.size,aP V0 _ rfl⟩
                        have Hz:=hid (fJ.out.keep (aB.below (ay.alloc aH (.cells #[] 92))))
                        rw[<-afl] at Br Hz zA ⊢
                        refine aD (RG b W8 []) (fun _ h=>h) Br.out ?_
                        clear afl fJ
                        refine dG rfl rfl ?p59 ?p60
                        case p59=>
                          have JU:=hid (dJ.keep (S:=fun x=>SG b S w none x/\x≠g) (dO.mono (S':=fun x=>SG b S w none x/\x≠g) aC bg HFF.out (fun _ _ h=>h)) (aB.eG Br.out.turn (fun x hx e=>by have:=(SG.lt hx.1).1;omega)))
                          go_wp2_with (at_builtin;go_must (refine eY (S:=fun x=>SG b S w none x/\x≠g) (B:=W8.heap.size) bg rfl _ _ rfl Tryz.kB rfl (bC.Be zA.out.2 zA.out.1) rfl JU.out (fun x hlt hx=>⟨hx,fun e=>by have:=SG.lt hx.1;have h9:x=V0.heap.size:=qf e;have:=zA.out.1;have:=M5.out;omega⟩) (fun us y h=>lV h) mV (by have:=(Br.out.turn).size;omega) ?_))
                          intro v8 WZ Bs Dj W9
                          obtain⟨a8,c8,hv8, -⟩:=Bs.form
                          subst hv8
                          have aaA:Hid (RG b W8 [] WZ):=hid ⟨(Br.out.turn).into Dj (fun x hx e=>by have h9:x=V0.heap.size:=qf e;have:=zA.out.1;omega),fun y hy=>absurd hy aZ⟩
                          have aaB:=hid (Hz.out.keep (Dj.keep (fun x hx e=>by have h9:x=V0.heap.size:=qf e;have:=zA.out.1;have:=py.out;omega)))
                          have DJ:=hid Bs
                          clear Bs Dj W9 JU Br Hz zA
                          go_wp2
                          refine aD (RG b W8 []) (fun _ h=>h) aaA.out ?_
                          refine aM rfl ?_
                          go_wp2
                          obtain⟨V62,acA⟩:=aV (WZ.alloc (.cells (tB ks.length) 92))
                          have En:=hid (aaA.out.alloc (tB ks.length) 92)
                          have Tj:=hid (aaB.out.keep (aB.below (ay.alloc aH (.cells (tB ks.length) 92))))
                          rw[<-acA] at En Tj ⊢
                          refine aD (RG b W8 [(WZ.heap.size,(tB ks.length),92)]) (fun _ h=>h.tail) En.out ?_
                          have HO8x:Hid (∀x,(Value.slice a8 kd.aA.length c8).ownBlock=some x->x<WZ.heap.size):=hid (fun x hx=>(DJ.out.lt x hx).2)
                          have DJ:=hid (DJ.out.below bg (show BL WZ V62 by rw[acA];exact ay.alloc aH _))
                          clear acA aaB
                          refine aM rfl ?_
                          have HNB:Hid (∀x,some x=(Value.slice a8 kd.aA.length c8).ownBlock->x≠WZ.heap.size):=hid (fun x e h9=>by have h1:=(HO8x.out x e.symm);omega)
                          have Aj:=(En.out.blocks (WZ.heap.size,(tB ks.length),92) aZ)
                          go_wp2_with (at_builtin;go_must (refine eY (T:=fun _=>False) (T':=mJ) bg rfl _ _ rfl Tryz.kB rfl DJ.out rfl (rT (f:=ah.gL (ah.bT ks.length)) Aj.2 rfl rfl trivial) (fun x hlt hx=>hx.elim) (fun us y h=>lV h) mV (by have:=(En.out.turn).size;omega) ?_))
                          intro v9 V63 wu Bt hn9
                          have M6:=hid ((En.out.turn).into Bt (fun x hx e=>by have:=(DJ.out.lt x e.symm).1;omega))
                          have afm:Hid (RG b W8 [(WZ.heap.size,(tB ks.length),92)] V63):=hid ⟨M6.out,fun y hy=>by obtain rfl:=nU.1 hy;exact⟨Aj.1,(Bt.block (WZ.heap.size) (fun e=>HNB.out _ e rfl) (aj Aj.2)).trans Aj.2⟩⟩
                          have aaC:=hid (Tj.out.keep (Bt.keep (fun x hx e=>by have:=(DJ.out.lt x e.symm).1;have:=py.out;omega)))
                          obtain⟨a9,c9,hv9, -⟩:=wu.form
                          have hl9:(kd.aA++[ah.gL (ah.bT ks.length)]).length=kd.aA.length+1:=by simp
                          rw[hl9] at hv9
                          subst hv9
                          obtain⟨g2,hag, -⟩:=wu.vM aZ
                          subst hag
                          have HO9:=hid wu
                          clear wu Bt hn9 Aj DJ En Tj hl9 HNB
                          go_wp2
                          refine aD (RG b W8 [(WZ.heap.size,(tB ks.length),92)]) (fun _ h=>h) afm.out ?_
                          refine aT ?_
                          try simp only[iW,iX]
                          obtain⟨z3,zf⟩:(∃z,V63.cell? ⟨g,m*4+3,none⟩=some z)/\V63.frozen? ⟨g,m*4+3,none⟩=false:=by
                            have hgl:=(OL.out.own.lt g rfl).2
                            have e1:=M6.out.block g aC hgl
                            exact Sh
                          obtain⟨z3,Eo⟩:=z3
                          have hKP:=OL.out.put M6.out aaC.out hmn HO9.out (kd':=ah.fB kd (ah.bT ks.length)) (by rw[<-OP.out];rfl)
                          have ach:=hid hKP
                          clear hKP M6 aaC HO9
                          exact Sg
                        case p60=>
                          go_wp2
                          obtain⟨V64,acB⟩:=aV (JT.alloc (.cells (tB ks.length) 92))
                          have rZ:=hid (Br.out.alloc (tB ks.length) 92)
                          have Tk:=hid (Hz.out.keep (aB.below (ay.alloc aH (.cells (tB ks.length) 92))))
                          rw[<-acB] at rZ Tk ⊢
                          refine aD (RG b W8 [(JT.heap.size,(tB ks.length),92)]) (fun _ h=>h.tail) rZ.out ?_
                          have zA:Hid (W8.heap.size<=V0.heap.size/\V64.heap[V0.heap.size]?=some (.cells #[] 92 (0,0))):=hid ⟨zA.out.1,by rw[acB];exact aY _ zA.out.2⟩
                          clear acB Hz
                          refine aM rfl ?_
                          have HNE:Hid (JT.heap.size≠V0.heap.size):=hid (fun e=>by have h1:=(rZ.out.blocks (JT.heap.size,(tB ks.length),92) aZ).2;rw[e,zA.out.2] at h1;cases h1)
                          have JU:=hid (dJ.keep (S:=fun x=>SG b S w none x/\x≠g) (dO.mono (S':=fun x=>SG b S w none x/\x≠g) aC bg HFF.out (fun _ _ h=>h)) (aB.eG rZ.out.turn (fun x hx e=>by have:=(SG.lt hx.1).1;omega)))
                          go_wp2_with (at_builtin;go_must (refine eY (S:=fun x=>SG b S w none x/\x≠g) (B:=W8.heap.size) bg rfl _ _ rfl Tryz.kB rfl (bC.Be zA.out.2 zA.out.1) rfl JU.out (fun x hlt hx=>⟨hx,fun e=>by have:=SG.lt hx.1;have h9:x=V0.heap.size:=qf e;have:=zA.out.1;have:=M5.out;omega⟩) (fun us y h=>lV h) mV (by have:=(rZ.out.turn).size;omega) ?_))
                          intro v8 V65 Bs Dj W9
                          obtain⟨a8,c8,hv8, -⟩:=Bs.form
                          subst hv8
                          have H9:Hid (RG b W8 [(JT.heap.size,(tB ks.length),92)] V65):=hid ⟨(rZ.out.turn).into Dj (fun x hx e=>by have h9:x=V0.heap.size:=qf e;have:=zA.out.1;omega),fun y hy=>by obtain rfl:=nU.1 hy;exact⟨(rZ.out.blocks _ aZ).1,(Dj.block (JT.heap.size) (fun e=>by have h9:JT.heap.size=V0.heap.size:=qf e;have h10:=HNE.out;omega) (aj (rZ.out.blocks (JT.heap.size,(tB ks.length),92) aZ).2)).trans (rZ.out.blocks (JT.heap.size,(tB ks.length),92) aZ).2⟩⟩
                          have aaD:=hid (Tk.out.keep (Dj.keep (fun x hx e=>by have h9:x=V0.heap.size:=qf e;have:=zA.out.1;have:=py.out;omega)))
                          have HNB:Hid (∀x,some x=(Value.slice a8 kd.aA.length c8).ownBlock->x≠JT.heap.size):=hid (fun x e h9=>W9.elim (fun h1=>by rw[<-e] at h1;have h3:x=V0.heap.size:=qf h1;have h10:=HNE.out;omega) (fun⟨y,h1,h2⟩=>by rw[<-e] at h1;have h3:=qf h1;have h4:=aj (rZ.out.blocks (JT.heap.size,(tB ks.length),92) aZ).2;omega))
                          have DJ:=hid Bs
                          clear Bs Dj W9 JU rZ Tk zA
                          go_wp2
                          refine aD (RG b W8 [(JT.heap.size,(tB ks.length),92)]) (fun _ h=>h) H9.out ?_
                          refine aM rfl ?_
                          have Aj:=(H9.out.blocks (JT.heap.size,(tB ks.length),92) aZ)
                          go_wp2_with (at_builtin;go_must (refine eY (T:=fun _=>False) (T':=mJ) bg rfl _ _ rfl Tryz.kB rfl DJ.out rfl (rT (f:=ah.gL (ah.bT ks.length)) Aj.2 rfl rfl trivial) (fun x hlt hx=>hx.elim) (fun us y h=>lV h) mV (by have:=(H9.out.turn).size;omega) ?_))
                          intro v9 V66 wu Bt hn9
                          have M7:=hid ((H9.out.turn).into Bt (fun x hx e=>by have:=(DJ.out.lt x e.symm).1;omega))
                          have afn:Hid (RG b W8 [(JT.heap.size,(tB ks.length),92)] V66):=hid ⟨M7.out,fun y hy=>by obtain rfl:=nU.1 hy;exact⟨Aj.1,(Bt.block (JT.heap.size) (fun e=>HNB.out _ e rfl) (aj Aj.2)).trans Aj.2⟩⟩
                          have aaE:=hid (aaD.out.keep (Bt.keep (fun x hx e=>by have:=(DJ.out.lt x e.symm).1;have:=py.out;omega)))
                          obtain⟨a9,c9,hv9, -⟩:=wu.form
                          have hl9:(kd.aA++[ah.gL (ah.bT ks.length)]).length=kd.aA.length+1:=by simp
                          rw[hl9] at hv9
                          subst hv9
                          obtain⟨g2,hag, -⟩:=wu.vM aZ
                          subst hag
                          have HO9:=hid wu
                          clear wu Bt hn9 Aj DJ H9 aaD hl9 HNB
                          go_wp2
                          refine aD (RG b W8 [(JT.heap.size,(tB ks.length),92)]) (fun _ h=>h) afn.out ?_
                          refine aT ?_
                          try simp only[iW,iX]
                          obtain⟨z3,zf⟩:(∃z,V66.cell? ⟨g,m*4+3,none⟩=some z)/\V66.frozen? ⟨g,m*4+3,none⟩=false:=by
                            have hgl:=(OL.out.own.lt g rfl).2
                            have e1:=M7.out.block g aC hgl
                            exact Sh
                          obtain⟨z3,Eo⟩:=z3
                          have hKP:=OL.out.put M7.out aaE.out hmn HO9.out (kd':=ah.fB kd (ah.bT ks.length)) (by rw[<-OP.out];rfl)
                          have ach:=hid hKP
                          clear hKP M7 aaE HO9
                          exact Sg
                      case p57=>
                        go_wp2
                        obtain⟨Tl,afo⟩:=aV (V0.alloc (.cells (tB ks.length) 92))
                        have M8:=hid (dF.out.alloc (tB ks.length) 92)
                        have Tn:=hid (fJ.out.keep (aB.below (ay.alloc aH (.cells (tB ks.length) 92))))
                        rw[<-afo] at M8 Tn ⊢
                        refine aD (RG b W8 [(V0.heap.size,(tB ks.length),92)]) (fun _ h=>h.tail) M8.out ?_
                        clear afo fJ
                        refine aM rfl ?_
                        go_wp2
                        obtain⟨V68,afp⟩:=aV (Tl.alloc (.cells #[] 92))
                        have r8:=hid (M8.out.alloc #[] 92).tail
                        have zA:Hid (W8.heap.size<=Tl.heap.size/\(Tl.alloc (.cells #[] 92)).heap[Tl.heap.size]?=some (.cells #[] 92 (0,0))):=hid ⟨M8.out.turn.size,aP Tl _ rfl⟩
                        have Tp:=hid (Tn.out.keep (aB.below (ay.alloc aH (.cells #[] 92))))
                        rw[<-afp] at r8 Tp zA ⊢
                        refine aD (RG b W8 [(V0.heap.size,(tB ks.length),92)]) (fun _ h=>h) r8.out ?_
                        clear afp Tn
                        refine aM rfl ?_
                        have HNE:Hid (V0.heap.size≠Tl.heap.size):=hid (fun e=>by have h1:=(r8.out.blocks (V0.heap.size,(tB ks.length),92) aZ).2;rw[e,zA.out.2] at h1;cases h1)
                        have JU:=hid (dJ.keep (S:=fun x=>SG b S w none x/\x≠g) (dO.mono (S':=fun x=>SG b S w none x/\x≠g) aC bg HFF.out (fun _ _ h=>h)) (aB.eG r8.out.turn (fun x hx e=>by have:=(SG.lt hx.1).1;omega)))
                        go_wp2_with (at_builtin;go_must (refine eY (S:=fun x=>SG b S w none x/\x≠g) (B:=W8.heap.size) bg rfl _ _ rfl Tryz.kB rfl (bC.Be zA.out.2 zA.out.1) rfl JU.out (fun x hlt hx=>⟨hx,fun e=>by have:=SG.lt hx.1;have h9:x=Tl.heap.size:=qf e;have:=zA.out.1;have:=M5.out;omega⟩) (fun us y h=>lV h) mV (by have:=(r8.out.turn).size;omega) ?_))
                        intro v8 V69 Bs Dj W9
                        obtain⟨a8,c8,hv8, -⟩:=Bs.form
                        subst hv8
                        have Ia:Hid (RG b W8 [(V0.heap.size,(tB ks.length),92)] V69):=hid ⟨(r8.out.turn).into Dj (fun x hx e=>by have h9:x=Tl.heap.size:=qf e;have:=zA.out.1;omega),fun y hy=>by obtain rfl:=nU.1 hy;exact⟨(r8.out.blocks _ aZ).1,(Dj.block (V0.heap.size) (fun e=>by have h9:V0.heap.size=Tl.heap.size:=qf e;have h10:=HNE.out;omega) (aj (r8.out.blocks (V0.heap.size,(tB ks.length),92) aZ).2)).trans (r8.out.blocks (V0.heap.size,(tB ks.length),92) aZ).2⟩⟩
                        have aaF:=hid (Tp.out.keep (Dj.keep (fun x hx e=>by have h9:x=Tl.heap.size:=qf e;have:=zA.out.1;have:=py.out;omega)))
                        have HNB:Hid (∀x,some x=(Value.slice a8 kd.aA.length c8).ownBlock->x≠V0.heap.size):=hid (fun x e h9=>W9.elim (fun h1=>by rw[<-e] at h1;have h3:x=Tl.heap.size:=qf h1;have h10:=HNE.out;omega) (fun⟨y,h1,h2⟩=>by rw[<-e] at h1;have h3:=qf h1;have h4:=aj (r8.out.blocks (V0.heap.size,(tB ks.length),92) aZ).2;omega))
                        have DJ:=hid Bs
                        clear Bs Dj W9 JU r8 Tp zA
                        go_wp2
                        refine aD (RG b W8 [(V0.heap.size,(tB ks.length),92)]) (fun _ h=>h) Ia.out ?_
                        refine aM rfl ?_
                        have Aj:=(Ia.out.blocks (V0.heap.size,(tB ks.length),92) aZ)
                        go_wp2_with (at_builtin;go_must (refine eY (T:=fun _=>False) (T':=mJ) bg rfl _ _ rfl Tryz.kB rfl DJ.out rfl (rT (f:=ah.gL (ah.bT ks.length)) Aj.2 rfl rfl trivial) (fun x hlt hx=>hx.elim) (fun us y h=>lV h) mV (by have:=(Ia.out.turn).size;omega) ?_))
                        intro v9 V70 wu Bt hn9
                        have M9:=hid ((Ia.out.turn).into Bt (fun x hx e=>by have:=(DJ.out.lt x e.symm).1;omega))
                        have afq:Hid (RG b W8 [(V0.heap.size,(tB ks.length),92)] V70):=hid ⟨M9.out,fun y hy=>by obtain rfl:=nU.1 hy;exact⟨Aj.1,(Bt.block (V0.heap.size) (fun e=>HNB.out _ e rfl) (aj Aj.2)).trans Aj.2⟩⟩
                        have aaG:=hid (aaF.out.keep (Bt.keep (fun x hx e=>by have:=(DJ.out.lt x e.symm).1;have:=py.out;omega)))
                        obtain⟨a9,c9,hv9, -⟩:=wu.form
                        have hl9:(kd.aA++[ah.gL (ah.bT ks.length)]).length=kd.aA.length+1:=by simp
                        rw[hl9] at hv9
                        subst hv9
                        obtain⟨g2,hag, -⟩:=wu.vM aZ
                        subst hag
                        have HO9:=hid wu
                        clear wu Bt hn9 Aj DJ Ia aaF hl9 HNB
                        go_wp2
                        refine aD (RG b W8 [(V0.heap.size,(tB ks.length),92)]) (fun _ h=>h) afq.out ?_
                        refine aT ?_
                        try simp only[iW,iX]
                        obtain⟨z3,zf⟩:(∃z,V70.cell? ⟨g,m*4+3,none⟩=some z)/\V70.frozen? ⟨g,m*4+3,none⟩=false:=by
                          have hgl:=(OL.out.own.lt g rfl).2
                          have e1:=M9.out.block g aC hgl
                          exact Sh
                        obtain⟨z3,Eo⟩:=z3
                        have hKP:=OL.out.put M9.out aaG.out hmn HO9.out (kd':=ah.fB kd (ah.bT ks.length)) (by rw[<-OP.out];rfl)
                        have ach:=hid hKP
                        clear hKP M9 aaG HO9
                        exact Sg
                  case rest=>
                    obtain⟨G,ks',p,Ak,afr,HK12⟩:=hcut
                    clear FJ HNT
                    go_wp2
                    go_meet
                    case rel=>exact⟨G,ks',_,Ak,hid ⟨x,HX.out.1,HX.out.2,.inr ⟨m,hmn,l',h',s,p,HL.out.1,HL.out.2,HH.out.1,HH.out.2,by rw[<-HKA.out];exact wj.out,afr.out,rfl⟩⟩,hid (by rw[<-HKA.out];simpa using HK12.out)⟩
      case rest=>
        obtain⟨G,ks',hs,Ak,aaH,HKB⟩:=hcut
        clear HK4
        have hhl:=aaH.out.len
        go_upto_region 18 with fail
        go_cut [142] from 136 to 142 (fun q wx=>∃bd:Bool,q=.bool bd/\Hid (bd=true->1<ks.length)/\Hid (KS S b (N+21) B w G (.slice a ks.length c) ks' K (ah.bT ks.length) lo hi hs wx))
        case first=>
          by_cases hn:(1:Int)<ks.length
          · have Rh:Hid (1<ks.length):=hid aC
            go_wp2_with fail
            refine(bn 3 aC aC b (N+20) aC _ HKB.out.oR).mono ?_
            rintro e W6 ⟨t6,rfl,Tg,Ti,xQ,xP, -⟩
            have FJ:=hid (HKB.out.grow xP xQ)
            clear xQ xP HKB
            go_wp2
            go_meet
            case rel=>exact⟨_,rfl,hid (fun _=>Rh.out),FJ⟩
          · go_wp2
            go_meet
            case rel=>exact⟨false,rfl,hid (fun h=>by cases h),hid (HKB.out.more aC)⟩
        case rest=>
          obtain⟨bd,rfl,HBD,Gz⟩:=hcut
          clear HKB
          go_upto_if 142 with fail
          go_cut [] from 143 to 152 (fun wx=>∃y,Hid (ah.RY ks' y)/\Hid (y.length<=1)/\Hid (KS S b (N+21) B w G (.slice a ks.length c) ks' K (ah.bT ks.length) lo hi (hs++y) wx))
          case first=>
            cases bd with
            |false=>
              go_wp2
              go_meet
              case rel=>exact⟨[],hid (.inl rfl),hid aZ,hid (by rw[List.append_nil];exact Gz.out)⟩
            |true=>
              have h1n:=HBD.out rfl
              have hl0:0<ks'.length:=by have:=Ak.out;omega
              have hlk:(0:Int)<ks.length:=by omega
              have hlk1:1<ks'.length:=by have:=Ak.out;omega
              obtain⟨av,nv,cv,hn0,hbx,yo,hG⟩:=Gz.out.box
              have HNV:=hid hn0
              have lD:=hid hbx
              have HOW:=hid yo
              have HG:=hid hG
              obtain⟨⟨-, -, -,b3⟩, -⟩:=aW hbx
              have py:Hid (b<wc.heap.size):=hid (by have:=Gz.out.lb;have:=Gz.out.turn.size;omega)
              obtain⟨g,hag, -⟩:=Gz.out.own.vM hl0
              subst hag
              have hgb:g≠b:=by have:=(Gz.out.kb g rfl).1;omega
              have hsk:dI (some ⟨g,0,none⟩) ks.length:=fun _=>⟨_,_,rfl⟩
              obtain⟨-, -,c0, -⟩:=Gz.out.Sc.at hl0
              simp only[gZ,ig,Nat.zero_add,Nat.zero_mul] at c0
              have HBY:Hid (ah.RY ks' [ah.RX ks'[0].name]):=hid (.inr ⟨hlk1,by rw[ah.jC,jA,kK hl0];rfl⟩)
              generalize ks'[0].name=Rg at*
              clear hn0 hbx yo hG
              go_upto_region 19 with fail
              have dF:=hid (RG.start b wc)
              have fJ:=hid (Gz.out.oR.keep (aB.below (aG ay 1)))
              obtain⟨V0,rY⟩:=aV (wc.drewN 1)
              refine cE 8 (.quiet 0 (.quiet 1 (.quiet 2 (.quiet 3 (.quiet 4 (.quiet 5 (.quiet 6 (.one 7 .done)))))))) (RG b wc []) lN (by kernel_rfl) dF.out ?_
              rw[<-rY] at dF fJ ⊢
              clear rY
              refine eB ?_
              refine aL rfl ?_
              intro hne
              have hq:∀xh:Held (RG b wc []),xh.1.cell? ⟨K,3,none⟩=some (.slice av nv cv):=fun xh=>RG.old xh hKb b3
              go_big_quiet_step (fail)
              refine fS ?_
              clear hne hq
              iterate 3 refine eB ?_
              refine aL rfl ?_
              intro hne
              have hq:∀xh:Held (RG b wc []),xh.1.cell? ⟨g,0,none⟩=some (.string Rg):=fun xh=>RG.old xh hgb c0
              go_big_quiet_step (fail)
              refine fS ?_
              clear hne hq
              refine eB ?_
              refine aM rfl ?_
              go_wp2
              refine aD (RG b wc []) (fun _ h=>h) (dF.out.alloc _ _).tail ?_
              refine aT ?_
              try simp only[iW,iX]
              have Hh:=hid (HOW.out.keep bg (aB.eG dF.out.turn (fun x hx e=>by
                have hge:=Gz.out.ge
                have hlb:=Gz.out.lb
                rcases hx with hx|hx
                · have:K<x:=hx;omega
                · have:=(HOW.out.lt x hx).1;omega)))
              go_wp2_with (at_builtin;go_must (refine cF bg rfl _ _ rfl Tryz.kB rfl Hh.out (us:=cV (ah.RX Rg) (.slice none 0 0) (.slice none 0 0)) rfl rfl rfl (ah.RX Rg) (jo (f:=ah.RX Rg) rfl rfl) (tC (f:=ah.RX Rg)) aC aeS ?_))
              intro v' w' how' ht' hn'
              obtain⟨a',c',hv', -⟩:=how'.form
              obtain⟨n',hnn⟩:=aV ((hs++[ah.RX Rg]).length)
              rw[<-hnn] at hv'
              subst hv'
              have tD:=hid (KS.app (Gz.out) lD.out (fun x hx=>by have:=(HOW.out.lt x hx).1;omega) dF.out.turn fJ.out HG.out how' hnn ht' hn')
              have Bp:=(ht'.block K (fun e=>by have:=(HOW.out.lt K e.symm).1;omega) (aj (dF.out.block hKb lD.out))).trans (dF.out.block hKb lD.out)
              obtain⟨⟨-, -, -,d3⟩,dz⟩:=aW Bp
              have SK:=dz 3
              have HNN:=hid hnn
              clear how' ht' hn' Hh Bp dz dF fJ hnn
              go_wp2
              go_meet
              case rel=>exact⟨_,HBY,hid aZ,tD⟩
          case rest=>
            obtain⟨y,HBy,HYL,vF⟩:=hcut
            clear Gz HBD
            have hyl:=HYL.out
            obtain⟨f0,hf0⟩:=aV (hs++y)
            rw[<-hf0] at vF
            have hfl0:f0.length<=5:=by rw[hf0];simp;omega
            have HF0:=hid hf0
            clear hf0
            go_wp2_with fail
            refine(R5 b (N+21) aC _ vF.out.oR).mono ?_
            rintro e W2 ⟨v,p,rfl,hp,Ri,hm2,ht2⟩
            have HP:=hid hp
            have hpl:=hp.len
            have uD:=hid (vF.out.grow ht2 hm2)
            obtain⟨av,nv,cv,hn0,hbx,yo,hG⟩:=vF.out.box
            have Xa:Hid (K<wc.heap.size):=hid (aj hbx)
            have HSZ:Hid (wc.heap.size<=W2.heap.size):=hid ht2.size
            have HOL:Hid (∀x,(Value.slice av nv cv).ownBlock=some x->x<wc.heap.size):=hid (fun x hx=>(yo.lt x hx).2)
            have Kr:W2.heap[K]?=some (.cells #[.string (ah.bT ks.length),.int .i64 lo,.int .i64 hi,.slice av nv cv] 95 (0,0)):=(ht2.block K hKb (aj hbx)).trans hbx
            have lD:=hid Kr
            have HOW:=hid (yo.keep bg (aB.eG ht2 (fun x hx e=>by
              have h1:=vF.out.ge
              have h2:=vF.out.lb
              rcases hx with hx|hx
              · have:K<x:=hx;omega
              · have:=(yo.lt x hx).1;omega)))
            have HG:Hid (∀x,G=some x->K<x/\x<W2.heap.size/\(Value.slice av nv cv).ownBlock≠some x):=hid (fun x hx=>⟨(hG x hx).1,by have:=(hG x hx).2.1;have:=ht2.size;omega,(hG x hx).2.2⟩)
            have HNV:=hid hn0
            have Rc:=hid (vF.out.grow ht2 hm2)
            obtain⟨⟨-, -, -,b3⟩, -⟩:=aW Kr
            clear hn0 hbx Kr yo hG vF ht2 hm2
            obtain⟨ap,cp,rfl, -, -, -⟩:=Ri.form
            have JU:=hid Ri
            clear Ri hp uD
            go_wp2_with (at_builtin;go_must (refine eY bg rfl _ _ rfl Tryz.kB rfl HOW.out rfl JU.out (fun x hlt hx=>⟨by have:=Xa.out;have h9:wc.heap.size<=x:=hx;show K<x;omega,fun e=>by have:=HOL.out x e.symm;have h9:wc.heap.size<=x:=hx;omega⟩) (fun us y h=>lV h) (by first|omega|(simp;omega)) (by have:=Xa.out;have:=HSZ.out;omega) ?_))
            intro v' w' how' ht' hn'
            obtain⟨fs,hfs⟩:=aV (f0++p)
            rw[<-hfs] at how'
            obtain⟨a',c',hv', -⟩:=how'.form
            obtain⟨n',hnn⟩:=aV fs.length
            rw[<-hnn] at hv'
            subst hv'
            have tD:=hid (KS.app Rc.out lD.out (fun x hx=>by have:=(HOW.out.lt x hx).1;omega) (Turns.refl _ _) Rc.out.oR HG.out (hfs▸how') (hfs▸hnn) ht' hn')
            have Bp:=(ht'.block K (fun e=>by have:=(HOW.out.lt K e.symm).1;omega) (aj lD.out)).trans lD.out
            obtain⟨⟨-, -, -,d3⟩,dz⟩:=aW Bp
            have SK:=dz 3
            rw[<-hfs] at tD
            have HFS:=hid hfs
            clear how' ht' hn' Bp dz hnn hfs JU b3 Rc HOW lD HG HNV Xa HSZ HOL
            go_upto_region 22 with fail
            obtain⟨W5,hW5⟩:=aV (w'.setCell ⟨K,3,none⟩ (.slice a' n' c'))
            rw[<-hW5] at tD ⊢
            clear hW5 SK d3
            have acC:fs.length<=10:=by rw[HFS.out];simp;omega
            go_wp2_with fail
            refine(bn 2 aC aC b (N+41) aC _ tD.out.oR).mono ?_
            rintro e W6 ⟨t7,rfl,t7_lo,t7_hi,xQ,xP, -⟩
            have rE:=hid (tD.out.grow xP xQ)
            clear xQ xP tD
            go_upto_if 162 with fail
            go_cut [] from 13 to 182 (fun wx=>∃q,Hid (ah.pu fs q)/\Hid (KS S b (N+70) B w G (.slice a ks.length c) ks' K (ah.bT ks.length) lo hi (fs++q) wx))
            case first=>
              by_cases h70:t7=0
              · subst h70
                obtain⟨wc,afs⟩:=aV W6
                rw[<-afs] at rE ⊢
                clear afs
                go_wp2_with fail
                refine(R5 b (N+42) aC _ rE.out.oR).mono ?_
                rintro e W7 ⟨v2,q,rfl,hq,Tq,OG,rI⟩
                have hql:=hq.len
                obtain⟨av,nv,cv,hn0,hbx,yo,hG⟩:=rE.out.box
                have Xa:Hid (K<wc.heap.size):=hid (aj hbx)
                have HSZ:Hid (wc.heap.size<=W7.heap.size):=hid rI.size
                have HOL:Hid (∀x,(Value.slice av nv cv).ownBlock=some x->x<wc.heap.size):=hid (fun x hx=>(yo.lt x hx).2)
                have Kr:W7.heap[K]?=some (.cells #[.string (ah.bT ks.length),.int .i64 lo,.int .i64 hi,.slice av nv cv] 95 (0,0)):=(rI.block K hKb (aj hbx)).trans hbx
                have lD:=hid Kr
                have HOW:=hid (yo.keep bg (aB.eG rI (fun x hx e=>by
                  have h1:=rE.out.ge
                  have h2:=rE.out.lb
                  rcases hx with hx|hx
                  · have:K<x:=hx;omega
                  · have:=(yo.lt x hx).1;omega)))
                have HG:Hid (∀x,G=some x->K<x/\x<W7.heap.size/\(Value.slice av nv cv).ownBlock≠some x):=hid (fun x hx=>⟨(hG x hx).1,by have:=(hG x hx).2.1;have:=rI.size;omega,(hG x hx).2.2⟩)
                have HNV:=hid hn0
                have Rc:=hid (rE.out.grow rI OG)
                obtain⟨⟨-, -, -,b3⟩, -⟩:=aW Kr
                clear hn0 hbx Kr yo hG rE rI OG
                obtain⟨ap,cp,rfl,hskp, -, -⟩:=Tq.form
                by_cases Dk:q.length=0
                · obtain rfl:q=[]:=List.eq_nil_of_length_eq_zero Dk
                  clear Dk Tq
                  go_upto_region 24 with fail
                  go_quiet (fail)
                  exact aam
                · have hq1:0<q.length:=by omega
                  have uE:(0:Int)<q.length:=by omega
                  clear Dk
                  obtain⟨-, -,c0, -⟩:=Tq.at hq1
                  have HQ0:Hid (∀f,q.head?=some f->f=q[0]):=hid (fun f hf=>by
                    cases q with
                    |nil=>cases hf
                    |cons g l=>exact(qf hf).symm)
                  obtain⟨nmQ,hnq⟩:=aV (q[0].name)
                  rw[<-hnq] at c0
                  have HNQ:=hid hnq
                  simp only[Nat.zero_mul,Nat.add_zero] at c0
                  have HFK:Hid (dJ (fun x=>K<x) W7 (.slice av nv cv) fs):=hid (HOW.out.sl bg (fun _ _ h=>h) (fun x hx=>by have:=(HOW.out.lt x hx).1;omega))
                  have HHS:=hid (fun m=>Calls.quiet_of (Ee (AO fs nmQ (.slice av nv cv) (fun x=>K<x) (W7.drewN m) (HFK.out.keep (aB.below (aG ay _))))))
                  have JU:=hid Tq
                  have HQP:=hid hq
                  obtain⟨hI,X0⟩:=aV (ah.DE fs nmQ)
                  rw[<-X0] at HHS
                  have HhI:=hid X0
                  clear Tq hq hnq X0
                  go_upto_region 24 with fail
                  go_quiet ((exact HHS.out _))
                  rcases ah.iE (fun f:ah.dh=>decide (f.name=nmQ)) fs with⟨hc1,hc2⟩|⟨ci,hci,hc1,hc2, -⟩
                  · have qu:hI= -1:=HhI.out.trans hc1
                    subst qu
                    have HSO:Hid (ah.pu fs q):=hid (.inr ⟨HQP.out,fun f hf g hg=>by
                      obtain⟨j,hj,rfl⟩:=List.getElem_of_mem hg
                      have h1:=hc2 j hj
                      rw[HQ0.out f hf,<-HNQ.out]
                      simpa using h1⟩)
                    clear hc1 hc2 HHS c0
                    have hbD:BL W7 (W7.drewN nq):=aG ay nq
                    have htD:Turns (·=b) W7 (W7.drewN nq):=(Turns.refl _ _).drewN nq
                    have lD:=hid (show (W7.drewN nq).heap[K]?=_ from lD.out)
                    have HOW:=hid (HOW.out.below bg hbD)
                    have HG:Hid (∀x,G=some x->K<x/\x<(W7.drewN nq).heap.size/\(Value.slice av nv cv).ownBlock≠some x):=hid HG.out
                    have JU:=hid (JU.out.keep (aB.below hbD))
                    have Rc:=hid (Rc.out.grow htD (Rc.out.oR.keep (aB.below hbD)))
                    obtain⟨⟨-, -, -,b3⟩, -⟩:=aW lD.out
                    clear hbD htD
                    go_wp2_with (at_builtin;go_must (refine eY bg rfl _ _ rfl Tryz.kB rfl HOW.out rfl JU.out (fun x hlt hx=>⟨by have:=Xa.out;have h9:wc.heap.size<=x:=hx;show K<x;omega,fun e=>by have:=HOL.out x e.symm;have h9:wc.heap.size<=x:=hx;omega⟩) (fun us y h=>lV h) (by first|omega|(simp;omega)) (by have:=Xa.out;have:=HSZ.out;show K+1<=W7.heap.size;omega) ?_))
                    intro v' w' how' ht' hn'
                    obtain⟨fq,hfs⟩:=aV (fs++q)
                    rw[<-hfs] at how'
                    obtain⟨a',c',hv', -⟩:=how'.form
                    obtain⟨n',hnn⟩:=aV fq.length
                    rw[<-hnn] at hv'
                    subst hv'
                    have tD:=hid (KS.app Rc.out lD.out (fun x hx=>by have:=(HOW.out.lt x hx).1;omega) (Turns.refl _ _) Rc.out.oR HG.out (hfs▸how') (hfs▸hnn) ht' hn')
                    have Bp:=(ht'.block K (fun e=>by have:=(HOW.out.lt K e.symm).1;omega) (aj lD.out)).trans lD.out
                    obtain⟨⟨-, -, -,d3⟩,dz⟩:=aW Bp
                    have SK:=dz 3
                    rw[<-hfs] at tD
                    have HFQ:=hid hfs
                    clear how' ht' hn' Bp dz hnn hfs JU b3 Rc HOW lD HG HNV Xa HSZ HOL
                    have aft:=hid (tD.out.more (N':=N+70) aC)
                    clear tD
                    rw[HFQ.out] at aft
                    go_wp2
                    go_meet
                    case rel=>exact⟨q,HSO,aft⟩
                  · have qu:hI=(ci:Int):=HhI.out.trans hc1
                    subst qu
                    clear hc1 hc2 HHS c0
                    have Tf:¬(ci:Int)<0:=by omega
                    exact aam
              · have mr:(t7==0)=false:=GW h70
                clear h70
                go_wp2
                go_meet
                case rel=>exact⟨[],hid (.inl rfl),hid (by rw[List.append_nil];exact rE.out.more aC)⟩
            case rest=>
              obtain⟨q,HQ,Di⟩:=hcut
              clear rE
              obtain⟨av,nv,cv,hn0,hbx,yo, -⟩:=Di.out.box
              obtain⟨⟨b0,b1,b2,b3⟩, -⟩:=aW hbx
              obtain⟨⟨r0,r1,r2,r3⟩,rz⟩:=aW Di.out.res
              have hS4:=DA Di.out.res (.string (ah.bT ks.length)) (.int .i64 lo) (.int .i64 hi) (.slice av nv cv)
              have ye:=hid hS4
              have HOW:=hid yo
              have HKR:Hid (w.heap.size<K):=hid Di.out.ge
              clear hS4 hn0 hbx yo
              go_wp2
              refine bodyPost_ret (OJ ye.out.1 rfl) rfl ⟨ks',⟨ah.bT ks.length,lo,hi,fs++q⟩,.slice av nv cv,rfl,?_,?_,?_,?_,?_⟩
              · exact⟨hk2,rfl,hlo0,HI.out.1,by have:=HI.out.2;show hi<=20;omega,hs,y,p,q,aaH.out,HBy.out,HP.out,by have:=HQ.out;rw[HFS.out,HF0.out] at this;exact this,by rw[HFS.out,HF0.out]⟩
              · exact dJ.keep (HOW.out.sl bg (T:=fun x=>w.heap.size<x) (fun x _ h=>by have:=HKR.out;have h9:K<x:=h;show w.heap.size<x;omega) (fun x hx=>by have:=(HOW.out.lt x hx).1;have:=HKR.out;show w.heap.size<x;omega)) (aB.eG ye.out.2 (fun x hx e=>by have h9:w.heap.size<x:=hx;omega))|>.mono (fun x _ h=>by have h9:w.heap.size<x:=h;show _<=x;omega)
              · refine(Di.out.own.keep cT (aB.eG ye.out.2 (fun x hx e=>?_))).MI cT (fun x _ hx=>hx.2.elim (fun h=>.inl h.1) (fun h1=>.inr (by
                  obtain⟨_,_,_,_,_,_,h2⟩:=Di.out.box
                  have:=(h2 x h1).1
                  have:=HKR.out
                  omega)))
                rcases hx with hx|hx
                · rcases hx.2 with⟨-,h1⟩|h1
                  · omega
                  · obtain⟨_,_,_,_,_,_,h2⟩:=Di.out.box
                    have:=(h2 x h1).1
                    have:=HKR.out
                    omega
                · have:=(Di.out.kb x hx).2;omega
              · exact(Di.out.oR.mono aC).keep (aB.eG ye.out.2 (fun x hx e=>by have:=Di.out.lb;omega))
              · exact Di.out.turn.into ye.out.2 (fun x hx e=>by omega)
end Go.Proofs.YteiakkfdchnddaaGreatDoor
