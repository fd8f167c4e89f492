/- Part 5 of the walks and plain laws that the proof needs (packed). -/
import Derived.Deep.DeepCutAuto
import Derived.Deep.LoopGhost
import Derived.Test.YtohddpbgflgiaaaGreatDoorQ1
import Derived.Test.YtohddpbgflgiaaaGreatDoorQ4
set_option linter.all false
set_option maxRecDepth 100000
set_option maxHeartbeats 8000000
variable{p:Prop}
namespace Go.Proofs.YtohddpbgflgiaaaGreatDoor
open Go.RowKit
abbrev qA:Array Value:=#[.string {data:=#[]},.string {data:=#[]},.string {data:=#[]},.int .i64 0,.int .i64 0,.int .i64 0,.slice none 0 0,.slice none 0 0]
abbrev tj:Array Value:=#[.string {data:=#[112,101,114,115,111,110]},.string {data:=#[111,114,100,101,114]},.string {data:=#[105,116,101,109]}]
abbrev o7:Array Value:=#[.string {data:=#[]},.int .i64 0,.int .i64 0,.slice none 0 0]
abbrev sR:Array Value:=#[.int .i64 4,.int .i64 3,.int .i64 8,.int .i64 2]
abbrev NK:Array Value:=#[.int .i64 0,.int .i64 1,.int .i64 100,.int .i64 (-3)]
abbrev vg(n:Nat):Array Value:=#[.string {data:=#[116,111,116,97,108]},.string (aC.cZ n),.string {data:=#[]},.int .i64 6,.int .i64 0,.int .i64 0,.slice none 0 0,.slice none 0 0]
theorem Tryz.lW:kF Tryz.prog 51 85 8 120:=jV (z:=.agg #[.string ⟨#[]⟩,.string ⟨#[]⟩,.string ⟨#[]⟩,.int .i64 0,.int .i64 0,.int .i64 0,.slice none 0 0,.slice none 0 0]) zK zK rfl aD aD
theorem RG.step{b N:Nat}{c V:World}{L:List (Nat×Array Value×TypeId)}{cs:Array Value}{t:TypeId}(h:Hid (RG b c L V))(d:Hid (jl V b N)):∃(a:World) (g:Nat),a=V.alloc (.cells cs t)/\g=V.heap.size/\Hid (RG b c ((g,cs,t)::L) a)/\Hid (jl a b N):=
 ⟨_,_,rfl,rfl,hid (h.out.alloc cs t),hid (d.out.keep (aH.below (aG.alloc aL (.cells cs t))))⟩
def SG(b:Nat)(S:Nat->Prop)(w0:World)(G:Option Nat):Nat->Prop:=fun x=>b<x/\((S x/\x<w0.heap.size)\/G=some x)
theorem SG.lt{b:Nat}{S:Nat->Prop}{w0:World}{x:Nat}(h:SG b S w0 none x):b<x/\x<w0.heap.size:=⟨h.1,h.2.elim (·.2) (fun e=>by cases e)⟩
structure KS(S:Nat->Prop)(b N B:Nat)(w0:World)(G:Option Nat)(vK:Value)(ks:List aC.fT)(K:Nat)(nm:aC.Nm)(lo hi:Int)(fs:List aC.dA)(W:World):Prop where
 qB:jl W b N
 own:dX 4 Fj (SG b S w0 G) B 53 W vK ks
 res:W.heap[w0.heap.size]?=some (.cells #[.string aC.nil,.int .i64 0,.int .i64 0,.slice none 0 0] 53 (0,0))
 box:∃a n c,n=fs.length/\W.heap[K]?=some (.cells #[.string nm,.int .i64 lo,.int .i64 hi,.slice a n c] 53 (0,0))/\dX 8 lI (fun x=>K<x) (K+1) 85 W (.slice a n c) fs/\
  ∀x,G=some x->K<x/\x<W.heap.size/\(Value.slice a n c).ownBlock≠some x
 turn:Turns (fun x=>x=b\/vK.ownBlock=some x) w0 W
 ge:w0.heap.size<K
 lb:b<w0.heap.size
 kb:∀x,vK.ownBlock=some x->b<x/\x<w0.heap.size
theorem dX.afG{α:Type}{n:Nat}{b:(Nat->Prop)->World->List Value->α->Prop}{S:Nat->Prop}{B:Nat}{e:TypeId}{w:World}{a:Option Addr}{m c:Nat}{xs:List α}(h:dX n b S B e w (.slice a m c) xs):m=xs.length:=by
 obtain⟨f,g,d,_⟩:=h.form;injection d
theorem _root_.Go.Proofs.YtohddpbgflgiaaaGreatDoor.aC.fN.len{l:List aC.dA}(h:aC.fN l):l.length<=2:=by cases h<;>simp
theorem _root_.Go.Proofs.YtohddpbgflgiaaaGreatDoor.aC.rP.len{ks b:List aC.fT}{d:aC.Nm}{l:List aC.dA}(h:aC.rP ks d b l):l.length<=4:=by
 obtain⟨a,_,_,⟨_,_,rfl⟩|⟨g,_,i,j,s,p,_,_,_,_,e,f,rfl⟩⟩:=h
 ·simp
 ·have k:s.length<=1:=by
   rcases e with rfl|⟨c,h,_,rfl⟩
   ·simp
   ·simp
  have m:p.length<=1:=by
   rcases f with⟨rfl,_⟩|⟨_,_,_,_,_,rfl,_⟩
   ·simp
   ·simp
  simp;omega
theorem _root_.Go.Proofs.YtohddpbgflgiaaaGreatDoor.aC.rM.len{k:aC.fT}{l:List aC.dA}(h:aC.rM k l):l.length<=1:=by
 rcases h with rfl|⟨c,h,_,rfl⟩
 ·simp
 ·simp
theorem abI{f:aC.dA}(h:aC.wH f=true):aC.yC f:=by
 simp only[aC.wH,pR,oW] at h;exact⟨h.1.1.1,h.1.1.2,h.1.2,h.2⟩
def aim(S:Nat->Prop)(b N B:Nat)(w:World)(c:Value)(ks:List aC.fT)(e:Ending)(w':World):Prop:=
 ∃a k d,e=.returned (.agg (kH k d).toArray)/\aC.tR ks a k/\dx (w.heap.size<=·) w' d k.aF/\dX 4 Fj (fun x=>S x\/w.heap.size<=x) B 53 w' c a/\jl w' b (N+100)/\Turns (fun x=>x=b\/c.ownBlock=some x) w w'
theorem KS.grow{S:Nat->Prop}{b N N' B K:Nat}{w W W':World}{G:Option Nat}{j:Value}{ks:List aC.fT}{k:aC.Nm}{l m:Int}{fs:List aC.dA}(h:KS S b N B w G j ks K k l m fs W)(f:Turns (·=b) W W')(q:jl W' b N'):
 KS S b N' B w G j ks K k l m fs W':=by
 have g:=h.ge;have i:=h.lb;obtain⟨a,n,c,r,o,p,s⟩:=h.box;refine⟨q,h.own.keep dF (fun x hx d=>f.block x (fun e=>?_) d),?_,⟨a,n,c,r,?_,p.keep bQ (fun x hx d=>f.block x (fun e=>?_) d),fun x hx=>?_⟩,h.turn.trans (f.mono fun x _ e=>.inl e),g,i,h.kb⟩
 ·rcases hx with hx|hx
  ·have:=hx.1;omega
  ·have:=(h.kb x hx).1;omega
 ·rw[f.block _ aD (aI h.res)];exact h.res
 ·rw[f.block _ aD (aI o)];exact o
 ·rcases hx with hx|hx
  ·have:K<x:=hx;omega
  ·have:=(p.lt x hx).1;omega
 ·obtain⟨t,v,u⟩:=s x hx
  have:=f.size;exact⟨t,aD,u⟩
theorem KS.more{S:Nat->Prop}{b N N' B K:Nat}{w W:World}{G:Option Nat}{a:Value}{ks:List aC.fT}{c:aC.Nm}{d e:Int}{fs:List aC.dA}(h:KS S b N B w G a ks K c d e fs W)(f:N<=N'):KS S b N' B w G a ks K c d e fs W:=
 h.grow (Turns.refl _ _) (h.qB.mono f)
theorem KS.put{S:Nat->Prop}{b N N' B K:Nat}{w W W':World}{g n c:Nat}{ks:List aC.fT}{C:aC.Nm}{D E:Int}{fs k:List aC.dA}(h:KS S b N B w none (.slice (some ⟨g,0,none⟩) n c) ks K C D E fs W)(F:Turns (·=b) W W')(J:jl W' b N'){m:Nat}(p:m<ks.length)
 {g2 o c2:Nat}(G:dX 8 lI (fun x=>SG b S w none x/\x≠g) W.heap.size 85 W' (.slice (some ⟨g2,0,none⟩) o c2) k){kd':aC.fT}(q:kd'={ks[m] with aF:=k}):
 KS S b N' B w (some g2) (.slice (some ⟨g,0,none⟩) n c) (ks.set m kd') K C D E fs (W'.setCell ⟨g,m*4+3,none⟩ (.slice (some ⟨g2,0,none⟩) o c2)):=by
 subst q;have U:=h.kb g rfl;have r:=h.ge;have s:=h.lb;have t:=G.lt g2 rfl;have V:=h.turn.size;have f:=h.grow F J;obtain⟨a,H,c0,L,j,I,X⟩:=f.box;have d:∀x,x≠g->(W'.setCell ⟨g,m*4+3,none⟩ (.slice (some ⟨g2,0,none⟩) o c2)).heap[x]?=W'.heap[x]?:=fun x hx=>mO _ _ _ _ hx;obtain⟨M,u,v,O,l,y, -⟩:=h.box;have z:=aI l
 have A:a=M/\H=u/\c0=v:=by
  rw[F.block K aD z,l] at j;simp at j;exact⟨j.1.symm,j.2.1.symm,j.2.2.symm⟩
 refine⟨f.qB.keep (fun x hx _=>d x aD),?_,(d _ aD).trans f.res,⟨a,H,c0,L,(d _ aD).trans j,I.keep bQ (fun x hx _=>d x ?_),fun x hx=>?_⟩,?_,r,s,h.kb⟩
 ·refine dX.put (i:=3) dF (f.own.QB dF (S':=SG b S w (some g2)) (fun x _ hx=>⟨hx.1,hx.2.elim .inl (fun e=>by cases e)⟩)) f.own.afG p aD _ _ (fun Y P=>?_)
  obtain⟨Z,rfl,hf⟩:=P;refine⟨.slice (some ⟨g2,0,none⟩) o c2,rfl,G.sl bQ (fun x _ hx=>⟨⟨hx.1.1,hx.1.2.elim .inl (fun e=>by cases e)⟩,hx.2⟩) (fun x hx=>?_)⟩;obtain rfl:g2=x:=oO hx;exact⟨⟨aD,.inr rfl⟩,aD⟩
 ·rcases hx with hx|hx
  ·have:K<x:=hx;omega
  ·have:=(I.lt x hx).1;omega
 ·obtain rfl:g2=x:=oO hx
  refine⟨aD,by simp only[World.size_setCell];exact t.2,fun e=>?_⟩;obtain⟨Q,R,T⟩:=A;rw[Q,R,T] at e;have:=(y.lt _ e).2;omega
 ·exact f.turn.trans (((Turns.refl (·=g) W').setCell ⟨g,m*4+3,none⟩ _ rfl).mono fun x _ e=>.inr zS)
theorem KS.Xw{S:Nat->Prop}{b N B K:Nat}{w W:World}{G:Option Nat}{a:Value}{ks:List aC.fT}{c:aC.Nm}{d e:Int}{fs:List aC.dA}(h:KS S b N B w G a ks K c d e fs W):iC (fun x=>b<x) W a ks:=
 h.own.sl dF (fun _ _ hx=>hx.1) (fun x hx=>(h.kb x hx).1)
theorem aH.eX{S T:Nat->Prop}{w w':World}(h:Turns T w w')(c:∀x,S x->¬T x):aH S w w':=fun b d a=>h.block b (c b d) a
theorem vh{f:aC.dA}:∀u∈dh f (.slice none 0 0) (.slice none 0 0),u.oneCell'=true:=by
 exact aeK
def tV(l:List Int):Array Value:=(l.map (Value.int .i64)).toArray
theorem tW(l:List Int)(i:Int)(h0:0<=i)(h1:i<l.length):∃x,x∈l/\(tV l)[i.toNat]?=some (.int .i64 x):=
 ⟨l[i.toNat]' aD,eV _,by simp[tV]⟩
theorem Xx(W:World)(l:List Int)(t:TypeId)(i:Int)(h0:0<=i)(h1:i<l.length):∃x,x∈l/\(W.alloc (.cells (tV l) t)).cell? ⟨W.heap.size,i.toNat,none⟩=some (.int .i64 x):=
 ⟨l[i.toNat]' aD,eV _,by
  have:=iR W (tV l) t i.toNat (.int .i64 (l[i.toNat]' aD)) (by simp[tV])
  rwa [zxn] at this⟩
theorem KS.mk3{S:Nat->Prop}{b N B K:Nat}{w w1 V j:World}{a:Option Addr}{c:Nat}{ks:List aC.fT}{n:aC.Nm}{o p:Int}(r:b<w.heap.size)(s:w1.heap[w.heap.size]?=some (.cells #[.string aC.nil,.int .i64 0,.int .i64 0,.slice none 0 0] 53 (0,0)))
 (C:w1.heap.size=w.heap.size+2)(q:Turns (·=b) w w1)(t:∀x,S x->b<x)(g:dX 4 Fj S B 53 w (.slice a ks.length c) ks)(u:b<B)(f:Turns (·=b) w1 V)(v:jl V b N)(y:w1.heap.size<=K)
 (k:j.heap[K]?=some (.cells #[.string n,.int .i64 o,.int .i64 p,.slice none 0 0] 53 (0,0)))(i:Turns (·=K) V j):KS S b N B w none (.slice a ks.length c) ks K n o p [] j where
 qB:=v.keep (i.keep (fun x hx e=>by omega))
 own:=by
  refine(g.QB dF (S':=SG b S w none) (fun x d hx=>⟨t x hx,.inl ⟨hx,d⟩⟩)).keep dF (fun x hx d=>?_)
  have z:b<x:=by
   rcases hx with hx|hx
   ·exact hx.1
   ·have:=(g.lt x hx).1;omega
  have A:=q.block x aD d;have l:=f.block x aD aD;have m:=i.block x aD (by have:=f.size;omega);rw[m,l,A]
 res:=by
  have l:=f.block w.heap.size aD aD;have m:=i.block w.heap.size aD (by have:=f.size;omega);rw[m,l,s]
 box:=⟨none,0,0,rfl,k,dX.nil _ _ _ _ _ _,fun _ h=>by cases h⟩
 turn:=((q.trans f).mono (fun x _ h=>.inl h)).into i (fun x hx e=>by omega)
 ge:=aD
 lb:=r
 kb:=fun x hx=>⟨by have:=(g.lt x hx).1;omega,(g.lt x hx).2⟩
theorem KS.app{S:Nat->Prop}{b N N' B K:Nat}{w W V f:World}{G:Option Nat}{E:Value}{ks:List aC.fT}{m:aC.Nm}{o p:Int}{fs r:List aC.dA}{a g:Option Addr}{n d c i:Nat}(h:KS S b N B w G E ks K m o p fs W)
 (k:W.heap[K]?=some (.cells #[.string m,.int .i64 o,.int .i64 p,.slice a n c] 53 (0,0)))(s:∀x,(Value.slice a n c).ownBlock=some x->K<x)(t:Turns (·=b) W V)(H:jl V b N')
 (F:∀x,G=some x->K<x/\x<W.heap.size/\(Value.slice a n c).ownBlock≠some x)
 (how:dX 8 lI (fun x=>K<x) (K+1) 85 f (.slice g d i) (fs++r))(I:d=(fs++r).length)(q:Turns (fun x=>some x=(Value.slice a n c).ownBlock) V f)
 (l:(Value.slice g d i).ownBlock=(Value.slice a n c).ownBlock\/∃x,(Value.slice g d i).ownBlock=some x/\V.heap.size<=x):
 KS S b N' B w G E ks K m o p (fs++r) (f.setCell ⟨K,3,none⟩ (.slice g d i)):=by
 have u:=h.ge;have v:=h.lb;have z:=aI k;have J:=t.size;have L:=q.size
 have A:Turns (fun x=>x=b\/(K<=x/\(x=K\/(Value.slice a n c).ownBlock=some x))) W (f.setCell ⟨K,3,none⟩ (.slice g d i)):=
  (((t.mono fun x _ h=>.inl h).trans (q.mono fun x _ h=>.inr (by have:=s x h.symm;exact⟨aD,.inr h.symm⟩)))).trans (((Turns.refl (·=K) f).setCell ⟨K,3,none⟩ _ rfl).mono fun x _ h=>.inr ⟨aD,.inl h⟩)
 have M:f.heap[K]?=some (.cells #[.string m,.int .i64 o,.int .i64 p,.slice a n c] 53 (0,0)):=by
  rw[q.block K (fun e=>by have:=s K e.symm;omega) aD,t.block K aD z,k]
 refine⟨?_,?_,?_,⟨g,d,i,I,heap_setCell_same _ K 3 _ _ _ M,?_,fun x hx=>?_⟩,?_,u,v,h.kb⟩
 ·exact(H.keep (q.keep (fun x hx e=>by have:=s x e.symm;omega))).keep (fun x hx _=>mO _ _ _ _ (show x≠K by omega))
 ·refine h.own.keep dF (fun x hx C=>A.block x (fun e=>?_) C)
  have D:b<x/\(x<w.heap.size\/G=some x):=by
   rcases hx with hx|hx
   ·exact⟨hx.1,hx.2.elim (fun h=>.inl h.2) .inr⟩
   ·exact⟨(h.kb x hx).1,.inl (h.kb x hx).2⟩
  rcases e with e|⟨Q,e⟩
  ·omega
  ·rcases D.2 with j|j
   ·omega
   ·have:=F x j
    rcases e with e|e
    ·omega
    ·exact this.2.2 e
 ·rw[A.block _ aD (aI h.res)];exact h.res
 ·exact how.keep bQ (fun x hx _=>mO _ _ _ _ (by
   rcases hx with hx|hx
   ·have:K<x:=hx;show x≠K;omega
   ·have:=(how.lt x hx).1;show x≠K;omega))
 ·obtain⟨O,R,P⟩:=F x hx
  refine⟨O,by simp only[World.size_setCell];omega,fun e=>?_⟩;rcases l with j|⟨y,j,T⟩
  ·rw[j] at e;exact P e
  ·rw[j] at e;have:=oO e;omega
 ·exact h.turn.into A (fun x hx e=>by
   rcases e with e|e
   ·exact .inl e
   ·omega)
theorem SK{w:World}{g:Nat}{x y z u:Value}{a:Array Value}(h:w.heap[g]?=some (.cells #[x,y,z,u] 53 (0,0)))(b:a[4]?=some (.pointer (some ⟨g,0,none⟩))):
 (results Tryz.f17 a).run Tryz.prog w=.ok (.agg #[x,y,z,u]) w:=by
 obtain⟨c,d,e,f⟩:=b4z h;simp[results,Tryz.results17,go_sem,b,c,d,e,f]
theorem amI(h:p:=by
  refine bC rfl ?_
  intro hne
  have hq:dV (some ⟨gl,0,none⟩) 4:=fun _=>⟨_,_,rfl⟩;go_big_quiet_step (fail);refine iU ?_;clear hne hq;refine bC rfl ?_;intro hne;obtain⟨h',hx,hxc⟩:=tW [4,3,8,2] t' jT Kc;have hx2:2<=h'/\h'<=8:=Nu
  obtain⟨hx3,Cl⟩:=hx2
  have II:=hid hxc
  clear hx hxc
  have hq:∀x1:Held (RG b W2 [(gb,qA,85),(gl,sR,3)]),x1.1.cell? ⟨gl,t'.toNat,none⟩=some (.int .i64 h'):=fun x1=>RG.cell x1 gl sR 3 bH II.out;go_big_quiet_step (fail);refine iU ?_;clear hne hq;refine gF ?_;refine bG ?_;try simp only[jW,jH]
  have hbl:=JG.out.blocks (gb,qA,85) bH
  have KF:RG b W2 [(gb,qA,85)] VV:=JG.out.sub bH
  have HRG:=hid (KF.zZ (.string aC.yB) (.string kd.name) (.string aC.nil) (.int .i64 1) (.int .i64 0) (.int .i64 h') (.slice none 0 0) (.slice none 0 0))
  have HMK:=hid (JM.out.keep (w':=(((((((VV.setCell ⟨gb,0,none⟩ (.string aC.yB)).setCell ⟨gb,1,none⟩ (.string kd.name)).setCell ⟨gb,2,none⟩ (.string aC.nil)).setCell ⟨gb,3,none⟩ (.int .i64 1)).setCell ⟨gb,4,none⟩ (.int .i64 0)).setCell ⟨gb,5,none⟩ (.int .i64 h')).setCell ⟨gb,6,none⟩ (.slice none 0 0)).setCell ⟨gb,7,none⟩ (.slice none 0 0)) (fun y hy _=>qE () (show y≠gb by have:=qL.out;have:=hbl.1;omega) _ _ _ _ _ _ _ _))
  obtain⟨⟨y0,y1,y2,y3,y4,y5,y6,y7⟩,yz⟩:=ez hbl.2
  clear hbl KF JG JM
  go_wp2
  go_meet
  case rel=>exact⟨_,h',rfl,hid ⟨hx3,Cl⟩,HRG,HMK⟩):p:=h
theorem Xe(h:p:=by
  have hgl:=(Sd.out.own.lt g rfl).2
  have e1:=Wm.out.block g aD hgl
  exact⟨⟨_,(al1 (w:=W8) (a:=⟨g,m*4+3,none⟩) e1).trans c3⟩,alH⟩):p:=h
theorem al5(h:p:=by
  refine aZ rfl ?_
  have HNE:Hid (gt≠gm):=hid (fun e=>by have h1:=(JG.out.blocks (gt,(vg ks.length),85) bH).2;rw[e,A9.out.2] at h1;cases h1)
  have Nd:=hid (dx.keep (S:=fun x=>SG b S w none x/\x≠g) (fC.mono (S':=fun x=>SG b S w none x/\x≠g) aD bQ HFF.out (fun _ _ h=>h)) (aH.eX JG.out.turn (fun x hx e=>by have:=(SG.lt hx.1).1;omega)))
  have JO:=JG
  have JN:=JM
  go_wp2_with (at_builtin;go_must (refine jq (S:=fun x=>SG b S w none x/\x≠g) (B:=W8.heap.size) bQ rfl _ _ rfl Tryz.lW rfl (dX.CF A9.out.2 A9.out.1) rfl Nd.out (fun x hlt hx=>⟨hx,fun e=>by have:=SG.lt hx.1;have h9:x=gm:=oO e;have:=A9.out.1;have:=HW8.out;omega⟩) (fun us y h=>mZ h) jo Sb ?_))
  intro v8 VV C9 mw hn8
  obtain⟨a8,c8,hv8, -⟩:=C9.form
  subst hv8
  have JG:Hid (RG b W8 [(gt,(vg ks.length),85)] VV):=hid ⟨(JO.out.turn).into mw (fun x hx e=>by have h9:x=gm:=oO e;have:=A9.out.1;omega),fun y hy=>by obtain rfl:=nL.1 hy;exact⟨(JO.out.blocks _ bH).1,(mw.block gt (fun e=>by have h9:gt=gm:=oO e;have h10:=HNE.out;omega) (aI (JO.out.blocks (gt,(vg ks.length),85) bH).2)).trans (JO.out.blocks (gt,(vg ks.length),85) bH).2⟩⟩
  have JM:=hid (JN.out.keep (mw.keep (fun x hx e=>by have h9:x=gm:=oO e;have:=A9.out.1;have:=qL.out;omega)))
  have HNB:Hid (∀x,some x=(Value.slice a8 kd.aF.length c8).ownBlock->x≠gt):=hid (fun x e h9=>hn8.elim (fun h1=>by rw[<-e] at h1;have h3:x=gm:=oO h1;have h10:=HNE.out;omega) (fun⟨y,h1,h2⟩=>by rw[<-e] at h1;have h3:=oO h1;have h4:=aI (JO.out.blocks (gt,(vg ks.length),85) bH).2;omega))
  have Ba:=hid C9
  clear C9 mw hn8 Nd JO JN A9
  go_wp2
  refine aN (RG b W8 [(gt,(vg ks.length),85)]) (fun _ h=>h) JG.out ?_
  refine aZ rfl ?_
  have wK:=(JG.out.blocks (gt,(vg ks.length),85) bH)
  have JO:=JG
  have JN:=JM
  go_wp2_with (at_builtin;go_must (refine jq (T:=fun _=>False) (T':=dr) bQ rfl _ _ rfl Tryz.lW rfl Ba.out rfl (tS (f:=aC.iV (aC.cZ ks.length)) wK.2 rfl rfl trivial) (fun x hlt hx=>hx.elim) (fun us y h=>mZ h) jo Sb ?_))
  intro v9 VV yJ sS hn9
  have Wm:=hid ((JO.out.turn).into sS (fun x hx e=>by have:=(Ba.out.lt x e.symm).1;omega))
  have Fx:Hid (RG b W8 [(gt,(vg ks.length),85)] VV):=hid ⟨Wm.out,fun y hy=>by obtain rfl:=nL.1 hy;exact⟨wK.1,(sS.block gt (fun e=>HNB.out _ e rfl) (aI wK.2)).trans wK.2⟩⟩
  have HM9:=hid (JN.out.keep (sS.keep (fun x hx e=>by have:=(Ba.out.lt x e.symm).1;have:=qL.out;omega)))
  obtain⟨a9,c9,hv9, -⟩:=yJ.form
  have Wf:(kd.aF++[aC.iV (aC.cZ ks.length)]).length=kd.aF.length+1:=bH
  rw[Wf] at hv9
  subst hv9
  obtain⟨g2,hag, -⟩:=yJ.sN bH
  subst hag
  have QX:=hid yJ
  clear yJ sS hn9 wK Ba JO JN Wf HNB
  go_wp2
  refine aN (RG b W8 [(gt,(vg ks.length),85)]) (fun _ h=>h) Fx.out ?_
  refine bG ?_
  try simp only[jW,jH]
  obtain⟨z3,zf⟩:(∃z,VV.cell? ⟨g,m*4+3,none⟩=some z)/\VV.frozen? ⟨g,m*4+3,none⟩=false:=by
   exact Xe
  obtain⟨z3,vW⟩:=z3
  have hKP:=Sd.out.put Wm.out HM9.out hmn QX.out (kd':=aC.fV kd (aC.cZ ks.length)) (by rw[<-SL.out];rfl)
  have afx:=hid hKP
  clear hKP Wm HM9 QX
  go_wp2
  go_meet
  case rel=>exact⟨some g2,ks.set m (aC.fV kd (aC.cZ ks.length)),[aC.oZ t6 (t6+t')],hid bH,hid (.inr ⟨t6,t6+t',aD,aD,aD,rfl,ads,by rw[<-HKA.out]⟩),hid Qx⟩):p:=h
theorem al3(h:p:=by
  obtain⟨hge,hbl⟩:=JG.out.blocks (gb,o7,53) bH
  obtain⟨hb4,EN⟩:=Ko hbl (.string (aC.cZ ks.length)) (.int .i64 lo) (.int .i64 (lo+t')) (.slice none 0 0)
  have Cl:=bF hbl
  obtain⟨⟨b0,b1,b2,b3⟩,bz⟩:=Cl
  have vp:=hid (KS.mk3 HbR.out HR.out vf.out wI.out Xy HO.out hbB JG.out.turn JM.out hge hb4 EN)
  clear hb4 EN hge hbl JG JM
  go_wp2
  go_meet
  case rel=>exact⟨_,_,rfl,hid aD,vp⟩):p:=h
theorem al4(h:p:=by
  refine bC rfl ?_
  intro hne
  have hq:dV (some ⟨gl,0,none⟩) 4:=fun _=>⟨_,_,rfl⟩;go_big_quiet_step (fail);refine iU ?_;clear hne hq;refine bC rfl ?_;intro hne;obtain⟨h',hx,hxc⟩:=tW [4,3,8,2] t' jT Kc;have hx2:2<=h'/\h'<=8:=Nu
  obtain⟨hx3,Cl⟩:=hx2
  have II:=hid hxc
  clear hx hxc
  have hq:∀x1:Held (RG b W2 [(gl,sR,3)]),x1.1.cell? ⟨gl,t'.toNat,none⟩=some (.int .i64 h'):=fun x1=>RG.cell x1 gl sR 3 bH II.out;go_big_quiet_step (fail);refine iU ?_;clear hne hq;refine gF ?_;refine aZ rfl ?_;go_wp2;obtain⟨VV,gb,hX,hgt,JG,JM⟩:=RG.step JG JM (cs:=qA) (t:=85);rw[<-hX,<-hgt];clear hX hgt;refine aN (RG b W2 [(gb,qA,85),(gl,sR,3)]) (fun _ h=>h.sub bH) JG.out ?_;refine bG ?_;try simp only[jW,jH]
  have hbl:=JG.out.blocks (gb,qA,85) bH
  have KF:RG b W2 [(gb,qA,85)] VV:=JG.out.sub bH
  have HRG:=hid (KF.zZ (.string aC.yB) (.string kd.name) (.string aC.nil) (.int .i64 1) (.int .i64 0) (.int .i64 h') (.slice none 0 0) (.slice none 0 0))
  have HMK:=hid (JM.out.keep (w':=(((((((VV.setCell ⟨gb,0,none⟩ (.string aC.yB)).setCell ⟨gb,1,none⟩ (.string kd.name)).setCell ⟨gb,2,none⟩ (.string aC.nil)).setCell ⟨gb,3,none⟩ (.int .i64 1)).setCell ⟨gb,4,none⟩ (.int .i64 0)).setCell ⟨gb,5,none⟩ (.int .i64 h')).setCell ⟨gb,6,none⟩ (.slice none 0 0)).setCell ⟨gb,7,none⟩ (.slice none 0 0)) (fun y hy _=>qE () (show y≠gb by have:=qL.out;have:=hbl.1;omega) _ _ _ _ _ _ _ _))
  obtain⟨⟨y0,y1,y2,y3,y4,y5,y6,y7⟩,yz⟩:=ez hbl.2
  clear hbl KF JG JM
  go_wp2
  go_meet
  case rel=>exact⟨_,h',rfl,hid ⟨hx3,Cl⟩,HRG,HMK⟩):p:=h
theorem alF(h:p:=by
  refine bC rfl ?_
  intro hne
  have hq:dV (some ⟨gl,0,none⟩) 4:=fun _=>⟨_,_,rfl⟩;go_big_quiet_step (fail);refine iU ?_;clear hne hq;refine bC rfl ?_;intro hne;obtain⟨x,hx,hxc⟩:=tW [0,1,100, -3] t' jT Kc;have hx2: -3<=x/\x<=100:=Nu
  obtain⟨hx3,Cl⟩:=hx2
  have II:=hid hxc
  clear hx hxc
  have hq:∀x1:Held (RG b wc [(gl,NK,3)]),x1.1.cell? ⟨gl,t'.toNat,none⟩=some (.int .i64 x):=fun x1=>RG.cell x1 gl NK 3 bH II.out;go_big_quiet_step (fail);refine iU ?_;clear hne hq;refine gF ?_;refine aZ rfl ?_;go_wp2;refine aN (RG b wc [(gl,NK,3)]) (fun _ h=>h) (JG.out.alloc _ _).tail ?_;refine bG ?_;try simp only[jW,jH]
  have Kx:=hid (HOW.out.keep bQ (aH.eX JG.out.turn (fun x hx e=>by
   have hge:=HK.out.ge;have hlb:=HK.out.lb;rcases hx with hx|hx
   ·have:K<x:=hx;omega
   ·have:=(HOW.out.lt x hx).1;omega)))
  go_wp2_with (at_builtin;go_must (refine d9 bQ rfl _ _ rfl Tryz.lW rfl Kx.out (us:=dh (aC.tQ x) (.slice none 0 0) (.slice none 0 0)) rfl rfl rfl (aC.tQ x) (jY (f:=aC.tQ x) rfl rfl) (vh (f:=aC.tQ x)) bH J9 ?_))
  intro v' w' how' ht' hn'
  obtain⟨a',c',hv', -⟩:=how'.form
  simp only[List.nil_append,zxg,List.length_nil,zxn] at hv'
  subst hv'
  have vp:=hid (KS.app (HK.out) mN.out (fun x hx=>by have:=(HOW.out.lt x hx).1;omega) JG.out.turn JM.out HG.out how' rfl ht' hn')
  have C4:=(ht'.block K (fun e=>by have:=(HOW.out.lt K e.symm).1;omega) (aI (JG.out.block hKb mN.out))).trans (JG.out.block hKb mN.out)
  obtain⟨⟨-, -, -,d3⟩,dz⟩:=bF C4
  have XP:=dz 3
  clear how' ht' hn' Kx C4 dz JG JM
  go_wp2
  go_meet
  case rel=>exact⟨x,hid ⟨hx3,Cl⟩,vp⟩):p:=h
theorem alG(h:p:=by
  refine aZ rfl ?_
  go_wp2
  obtain⟨VV,gl,hX,hgt,JG,JM⟩:=RG.step JG JM (cs:=tj) (t:=9)
  rw[<-hX,<-hgt]
  clear hX hgt
  have JG:=hid (JG.out.sub (L':=[(gb,o7,53),(gl,tj,9)]) bH)
  refine aN (RG b w1 [(gb,o7,53),(gl,tj,9)]) (fun _ h=>h.sub bH) JG.out ?_
  refine bC rfl ?_
  intro hne
  have hq:dV (some ⟨gl,0,none⟩) 3:=fun _=>⟨_,_,rfl⟩;go_big_quiet_step (fail);refine iU ?_;clear hne hq;refine zzR ⟨gl,ks.length,none⟩ (.string (aC.cZ ks.length)) (fun x=>RG.cell x gl tj 9 bH V5.out) ?_;refine gF ?_;refine bG ?_;try simp only[jW,jH]
  exact al3):p:=h
theorem YS(h:p:=by
  refine aN (RG b W2 [(gb,qA,85),(gl,sR,3)]) (fun _ h=>h.sub bH) JG.out ?_
  refine aZ rfl ?_
  go_wp2_with fail
  refine(bX 4 aD aD b (N+4) aD _ JM.out).mono ?_
  rintro e VV ⟨t',rfl,jT,oe,JM,ht', -⟩
  have JG:=hid (JG.out.take qL.out ht')
  have JM:=hid JM
  clear ht'
  go_wp2
  refine aN (RG b W2 [(gb,qA,85),(gl,sR,3)]) (fun _ h=>h) JG.out ?_
  exact amI):p:=h
theorem adx(h:p:=by
  refine aZ rfl ?_
  go_wp2
  obtain⟨VV,gl,hX,hgt,JG,JM⟩:=RG.step JG JM (cs:=sR) (t:=3)
  rw[<-hX,<-hgt]
  clear hX hgt
  have JG:=hid (JG.out.sub (L':=[(gb,qA,85),(gl,sR,3)]) bH)
  refine aN (RG b W2 [(gb,qA,85),(gl,sR,3)]) (fun _ h=>h.sub bH) JG.out ?_
  exact amI):p:=h
theorem Xz(h:p:=by
  have JT:Hid (KS S b (N+62) B w G (.slice a ks.length c) ks' K (aC.cZ ks.length) lo hi fs (W7.drewN nq)):=hid (VZ.out.grow ((Turns.refl _ _).drewN nq) (VZ.out.qB.keep (aH.below (aJ aG nq))))
  go_wp2
  go_meet
  case rel=>exact⟨[],hid (.inl rfl),hid (by rw[zxp];exact JT.out.more aD)⟩):p:=h
theorem XB(b N B:Nat)(hN:N<=80000)(w:World)(hm:jl w b N)(a:Option Addr)(c:Nat)(ks:List aC.fT)(bm:ks.length<=2)(aT:∀k∈ks,k.aF.length<=1000000)(S:Nat->Prop)(Xy:∀x,S x->b<x)(ax:dX 4 Fj S B 53 w (.slice a ks.length c) ks)(hbB:b<B):
 CP 17 #[.pointer (some ⟨b,0,none⟩),.slice a ks.length c] w (aim S b N B w (.slice a ks.length c) ks):=by
 have HM:=hid hm;have HO:=hid ax;have bn:=hid aT;clear aT;clear hm ax;go_enter Tryz.func17,Tryz.ntmps17;go_wp2_with fail;refine(bX 6 aD aD b N aD _ (HM.out.keep (aH.below ((aG.alloc aL _).alloc bH _)))).mono ?_;rintro e w1 ⟨t,rfl,h0,h6,aU,ak,ay⟩;obtain⟨lo,aV,R⟩:=Xx (w.alloc (.cells #[.string aC.nil,.int .i64 0,.int .i64 0,.slice none 0 0] 53)) [0,1,2,4,1,2] 3 t h0 (by simpa using h6)
 have n:w1.cell? ⟨w.heap.size+1,t.toNat,none⟩=some (.int .i64 lo):=by
  rw[al1 (ak.block (w.heap.size+1) (show ¬_=b by have:=HM.out.lt;omega) bH)];rw[World.size_alloc] at R;exact R
 have aW:0<=lo/\lo<=4:=by
  simp only[mr,Na,or_false] at aV;omega
 obtain⟨aX,aW⟩:=aW
 have HR:Hid (w1.heap[w.heap.size]?=some (.cells #[.string aC.nil,.int .i64 0,.int .i64 0,.slice none 0 0] 53 (0,0))):=hid (by
  rw[ak.block w.heap.size (show ¬_=b by have:=HM.out.lt;omega) jo]
  exact cC _ (bD w _ rfl))
 have vf:Hid (w1.heap.size=w.heap.size+2):=hid (by rw[ay];simp);have wI:Hid (Turns (·=b) w w1):=hid ((((Turns.refl _ w).alloc _).alloc _).trans ak);have JQ:=hid aU;have az:dV (some ⟨w.heap.size+1,0,none⟩) 6:=fun _=>⟨_,_,rfl⟩;clear aU ak ay aV R;go_upto_region 3 with fail;clear n az;obtain⟨HbR,bo⟩:Hid (b<w.heap.size)/\((ks.length:Int)<3/\(0:Int)<=ks.length):=⟨hid HM.out.lt,aD,aD⟩;go_cut [7] from 7 to 30 (fun k A=>∃K,∃hi:Int,k=.pointer (some ⟨K,0,none⟩)/\Hid (lo<=hi/\hi<=lo+4)/\Hid (KS S b (N+2) B w none (.slice a ks.length c) ks K (aC.cZ ks.length) lo hi [] A))
 case first=>
  have qL:Hid (b<w1.heap.size):=hid (by have:=HbR.out;have:=vf.out;omega)
  have V5:Hid ((tj:Array Value)[ks.length]?=some (.string (aC.cZ ks.length))):=hid (by
   have:ks.length=0\/ks.length=1\/ks.length=2:=aD
   rcases this with h|h|h<;>rw[h]<;>rfl)
  have JG:=hid (RG.start b w1);have JM:=hid (JQ.out.keep (aH.below (aJ aG 1)));obtain⟨VV,M⟩:=bJ (w1.drewN 1);refine bq 11 (.quiet 1 (.quiet 4 (.quiet 5 (.quiet 6 (.three 0 7 10 (.quiet 2 (.quiet 3 (.two 7 10 (.quiet 8 (.quiet 9 (.one 10 .done))) (.one 7 (.quiet 8 (.quiet 9 .done)))))) (.quiet 8 (.two 0 10 (.quiet 2 (.quiet 3 (.quiet 9 (.one 10 .done)))) (.one 0 (.quiet 2 (.quiet 3 (.quiet 9 .done)))))) (.two 0 7 (.quiet 2 (.quiet 3 (.one 7 (.quiet 8 (.quiet 9 .done))))) (.quiet 8 (.one 0 (.quiet 2 (.quiet 3 (.quiet 9 .done))))))))))) (RG b w1 []) nK zK JG.out ?_;rw[<-M] at JG JM ⊢;clear M
  iterate 4 refine gF ?_
  refine A4 rfl rfl rfl ?_ ?_ ?_
  ·go_wp2
   obtain⟨VV,gl,hX,hgt,JG,JM⟩:=RG.step JG JM (cs:=tj) (t:=9);rw[<-hX,<-hgt];clear hX hgt;refine aN (RG b w1 [(gl,tj,9)]) (fun _ h=>h.sub bH) JG.out ?_;refine bC rfl ?_;intro hne;have hq:dV (some ⟨gl,0,none⟩) 3:=fun _=>⟨_,_,rfl⟩;go_big_quiet_step (fail);refine iU ?_;clear hne hq;refine zzR ⟨gl,ks.length,none⟩ (.string (aC.cZ ks.length)) (fun x=>RG.cell x gl tj 9 bH V5.out) ?_;refine fP rfl rfl ?_ ?_
   ·go_wp2_with fail
    refine(bX 5 aD aD b (N+1) aD _ JM.out).mono ?_;rintro e VV ⟨t',rfl,jT,oe,JM,ht', -⟩;have JG:=hid (JG.out.take qL.out ht');have JM:=hid JM;clear ht';go_wp2;refine aN (RG b w1 [(gl,tj,9)]) (fun _ h=>h) JG.out ?_;refine bC rfl ?_;intro hne;have hq:IntKind.i64.wrap (lo+t')=lo+t':=IntWalk.i64_in _ aD;go_big_quiet_step (fail);refine iU ?_;clear hne hq;refine gF ?_;refine aZ rfl ?_;go_wp2;obtain⟨VV,gb,hX,hgt,JG,JM⟩:=RG.step JG JM (cs:=o7) (t:=53);rw[<-hX,<-hgt];clear hX hgt;refine aN (RG b w1 [(gb,o7,53),(gl,tj,9)]) (fun _ h=>h.sub bH) JG.out ?_;refine bG ?_;try simp only[jW,jH]
    exact al3
   ·go_wp2
    obtain⟨VV,gb,hX,hgt,JG,JM⟩:=RG.step JG JM (cs:=o7) (t:=53);rw[<-hX,<-hgt];clear hX hgt;refine aN (RG b w1 [(gb,o7,53),(gl,tj,9)]) (fun _ h=>h.sub bH) JG.out ?_;refine aZ rfl ?_;go_wp2_with fail;refine(bX 5 aD aD b (N+1) aD _ JM.out).mono ?_;rintro e VV ⟨t',rfl,jT,oe,JM,ht', -⟩;have JG:=hid (JG.out.take qL.out ht');have JM:=hid JM;clear ht';go_wp2;refine aN (RG b w1 [(gb,o7,53),(gl,tj,9)]) (fun _ h=>h) JG.out ?_;refine bC rfl ?_;intro hne;have hq:IntKind.i64.wrap (lo+t')=lo+t':=IntWalk.i64_in _ aD;go_big_quiet_step (fail);refine iU ?_;clear hne hq;refine gF ?_;refine bG ?_;try simp only[jW,jH]
    exact al3
  ·go_wp2_with fail
   refine(bX 5 aD aD b (N+1) aD _ JM.out).mono ?_;rintro e VV ⟨t',rfl,jT,oe,JM,ht', -⟩;have JG:=hid (JG.out.take qL.out ht');have JM:=hid JM;clear ht';go_wp2;refine aN (RG b w1 []) (fun _ h=>h) JG.out ?_;refine bC rfl ?_;intro hne;have hq:IntKind.i64.wrap (lo+t')=lo+t':=IntWalk.i64_in _ aD;go_big_quiet_step (fail);refine iU ?_;clear hne hq;refine fP rfl rfl ?_ ?_
   ·go_wp2
    obtain⟨VV,gl,hX,hgt,JG,JM⟩:=RG.step JG JM (cs:=tj) (t:=9);rw[<-hX,<-hgt];clear hX hgt;refine aN (RG b w1 [(gl,tj,9)]) (fun _ h=>h.sub bH) JG.out ?_;refine bC rfl ?_;intro hne;have hq:dV (some ⟨gl,0,none⟩) 3:=fun _=>⟨_,_,rfl⟩;go_big_quiet_step (fail);refine iU ?_;clear hne hq;refine zzR ⟨gl,ks.length,none⟩ (.string (aC.cZ ks.length)) (fun x=>RG.cell x gl tj 9 bH V5.out) ?_;refine gF ?_;refine aZ rfl ?_;go_wp2;obtain⟨VV,gb,hX,hgt,JG,JM⟩:=RG.step JG JM (cs:=o7) (t:=53);rw[<-hX,<-hgt];clear hX hgt;refine aN (RG b w1 [(gb,o7,53),(gl,tj,9)]) (fun _ h=>h.sub bH) JG.out ?_;refine bG ?_;try simp only[jW,jH]
    exact al3
   ·go_wp2
    obtain⟨VV,gb,hX,hgt,JG,JM⟩:=RG.step JG JM (cs:=o7) (t:=53);rw[<-hX,<-hgt];clear hX hgt;refine aN (RG b w1 [(gb,o7,53)]) (fun _ h=>h.sub bH) JG.out ?_;exact alG
  ·go_wp2
   obtain⟨VV,gb,hX,hgt,JG,JM⟩:=RG.step JG JM (cs:=o7) (t:=53);rw[<-hX,<-hgt];clear hX hgt;refine aN (RG b w1 [(gb,o7,53)]) (fun _ h=>h.sub bH) JG.out ?_;refine fP rfl rfl ?_ ?_
   ·go_wp2
    obtain⟨VV,gl,hX,hgt,JG,JM⟩:=RG.step JG JM (cs:=tj) (t:=9);rw[<-hX,<-hgt];clear hX hgt;have JG:=hid (JG.out.sub (L':=[(gb,o7,53),(gl,tj,9)]) bH);refine aN (RG b w1 [(gb,o7,53),(gl,tj,9)]) (fun _ h=>h.sub bH) JG.out ?_;refine bC rfl ?_;intro hne;have hq:dV (some ⟨gl,0,none⟩) 3:=fun _=>⟨_,_,rfl⟩;go_big_quiet_step (fail);refine iU ?_;clear hne hq;refine zzR ⟨gl,ks.length,none⟩ (.string (aC.cZ ks.length)) (fun x=>RG.cell x gl tj 9 bH V5.out) ?_;refine aZ rfl ?_;go_wp2_with fail;refine(bX 5 aD aD b (N+1) aD _ JM.out).mono ?_;rintro e VV ⟨t',rfl,jT,oe,JM,ht', -⟩;have JG:=hid (JG.out.take qL.out ht');have JM:=hid JM;clear ht';go_wp2;refine aN (RG b w1 [(gb,o7,53),(gl,tj,9)]) (fun _ h=>h) JG.out ?_;refine bC rfl ?_;intro hne;have hq:IntKind.i64.wrap (lo+t')=lo+t':=IntWalk.i64_in _ aD;go_big_quiet_step (fail);refine iU ?_;clear hne hq;refine gF ?_;refine bG ?_;try simp only[jW,jH]
    exact al3
   ·go_wp2_with fail
    refine(bX 5 aD aD b (N+1) aD _ JM.out).mono ?_;rintro e VV ⟨t',rfl,jT,oe,JM,ht', -⟩;have JG:=hid (JG.out.take qL.out ht');have JM:=hid JM;clear ht';go_wp2;refine aN (RG b w1 [(gb,o7,53)]) (fun _ h=>h) JG.out ?_;refine bC rfl ?_;intro hne;have hq:IntKind.i64.wrap (lo+t')=lo+t':=IntWalk.i64_in _ aD;go_big_quiet_step (fail);refine iU ?_;clear hne hq;exact alG
 case rest=>
  obtain⟨K,hi,rfl,HI,HK⟩:=hcut;clear JQ wI vf HR HM HO h0 h6;obtain⟨H,E,I,i,d,u,U⟩:=HK.out.box;have aA:E=0:=i;subst aA;have mN:=hid d;have HOW:=hid u;have HG:=hid U;obtain⟨⟨-, -, -,b3⟩, -⟩:=bF d;have qL:Hid (b<wc.heap.size):=hid (by have:=HK.out.lb;have:=HK.out.turn.size;omega);have hKb:K≠b:=by have:=HK.out.lb;have:=HK.out.ge;omega
  clear i d u U;go_upto_region 4 with fail;go_cut [] from 31 to 42 (fun A=>∃x:Int,Hid (-3<=x/\x<=100)/\Hid (KS S b (N+3) B w none (.slice a ks.length c) ks K (aC.cZ ks.length) lo hi [aC.tQ x] A))
  case first=>
   have JG:=hid (RG.start b wc);have JM:=hid (HK.out.qB.keep (aH.below (aJ aG 1)));obtain⟨VV,M⟩:=bJ (wc.drewN 1);refine bq 9 (.quiet 0 (.quiet 1 (.quiet 3 (.two 2 4 (.one 4 (.quiet 5 (.quiet 6 (.quiet 7 (.one 8 .done))))) (.one 2 (.quiet 5 (.quiet 6 (.quiet 7 (.one 8 .done))))))))) (RG b wc []) nK zK JG.out ?_;rw[<-M] at JG JM ⊢;clear M;refine gF ?_;refine zzR ⟨K,3,none⟩ (.slice H 0 I) (fun x=>RG.old x hKb b3) ?_;refine gF ?_;refine fP rfl rfl ?_ ?_
   ·go_wp2
    obtain⟨VV,gl,hX,hgt,JG,JM⟩:=RG.step JG JM (cs:=NK) (t:=3);rw[<-hX,<-hgt];clear hX hgt;refine aN (RG b wc [(gl,NK,3)]) (fun _ h=>h.sub bH) JG.out ?_;refine aZ rfl ?_;go_wp2_with fail;refine(bX 4 aD aD b (N+2) aD _ JM.out).mono ?_;rintro e VV ⟨t',rfl,jT,oe,JM,ht', -⟩;have JG:=hid (JG.out.take qL.out ht');have JM:=hid JM;clear ht';go_wp2;refine aN (RG b wc [(gl,NK,3)]) (fun _ h=>h) JG.out ?_;exact alF
   ·go_wp2_with fail
    refine(bX 4 aD aD b (N+2) aD _ JM.out).mono ?_;rintro e VV ⟨t',rfl,jT,oe,JM,ht', -⟩;have JG:=hid (JG.out.take qL.out ht');have JM:=hid JM;clear ht';go_wp2;refine aN (RG b wc []) (fun _ h=>h) JG.out ?_;refine aZ rfl ?_;go_wp2;obtain⟨VV,gl,hX,hgt,JG,JM⟩:=RG.step JG JM (cs:=NK) (t:=3);rw[<-hX,<-hgt];clear hX hgt;refine aN (RG b wc [(gl,NK,3)]) (fun _ h=>h.sub bH) JG.out ?_;exact alF
  case rest=>
   obtain⟨x,HX,Z⟩:=hcut;clear HK mN HOW HG qL b3;go_upto_if 43 with fail;go_cut [] from 8 to 135 (fun A=>∃G ks' hs,Hid (ks'.length=ks.length)/\Hid (aC.rP ks (aC.cZ ks.length) ks' hs)/\Hid (KS S b (N+20) B w G (.slice a ks.length c) ks' K (aC.cZ ks.length) lo hi hs A))
   case first=>
    by_cases hn:ks.length=0
    ·have aA:¬(0:Int)<ks.length:=by omega
     have HE:=hid hn;clear hn;go_wp2;go_meet;case rel=>exact⟨none,ks,[aC.tQ x],hid rfl,hid ⟨x,HX.out.1,HX.out.2,.inl ⟨zxh HE.out,rfl,rfl⟩⟩,hid (Z.out.more aD)⟩
    ·have aA:(0:Int)<ks.length:=by omega
     have bp:0<ks.length:=aD
     clear hn;obtain⟨g,hag, -,b5, -, -⟩:=Z.out.own.sN bp;subst hag;go_wp2_with fail;refine(bX ks.length aD aD b (N+3) aD _ Z.out.qB).mono ?_;rintro e W2 ⟨t,rfl,Ky,Kz,aa,J, -⟩;obtain⟨m,rfl⟩:∃m:Nat,t=(m:Int):=⟨t.toNat,aD⟩;have hmn:m<ks.length:=aD
     have P:=hid (Z.out.grow J aa);clear aa J Z;obtain⟨H,E,I,i,d,u, -⟩:=P.out.box;have aB:E=1:=i;subst aB;have mN:=hid d;have HOW:=hid u;have qL:Hid (b<W2.heap.size):=hid (by have:=P.out.lb;have:=P.out.turn.size;omega);have ab:g≠b:=aD
     obtain⟨-, -,c0, -, -, -⟩:=P.out.Xw.at hmn;simp only[fK,fL,zxn] at c0;have az:dV (some ⟨g,0,none⟩) ks.length:=fun _=>⟨_,_,rfl⟩;obtain⟨kd,al⟩:=bJ (ks[m]);rw[<-al] at c0;have SL:=hid al;have HKA:Hid (kd=aC.kL ks m):=hid (by rw[al,aC.kL,iY,lN hmn];rfl);clear i d u al;go_upto_region 7 with fail;go_cut [9] from 9 to 57 (fun f A=>∃F,∃h':Int,f=.pointer (some ⟨F,0,none⟩)/\Hid (2<=h'/\h'<=8)/\Hid (RG b W2 [(F,(dh (aC.AY kd.name 0 h') (.slice none 0 0) (.slice none 0 0)).toArray,85)] A)/\Hid (jl A b (N+5)))
     case first=>
      have JG:=hid (RG.start b W2);have JM:=hid (P.out.qB.keep (aH.below (aJ aG 1)));obtain⟨VV,M⟩:=bJ (W2.drewN 1);refine bq 12 (.quiet 0 (.quiet 1 (.quiet 2 (.quiet 3 (.quiet 4 (.quiet 6 (.three 5 7 11 (.two 7 11 (.quiet 8 (.quiet 9 (.quiet 10 (.one 11 .done)))) (.one 7 (.quiet 8 (.quiet 9 (.quiet 10 .done))))) (.two 5 11 (.quiet 8 (.quiet 9 (.quiet 10 (.one 11 .done)))) (.one 5 (.quiet 8 (.quiet 9 (.quiet 10 .done))))) (.two 5 7 (.one 7 (.quiet 8 (.quiet 9 (.quiet 10 .done)))) (.one 5 (.quiet 8 (.quiet 9 (.quiet 10 .done)))))))))))) (RG b W2 []) nK zK JG.out ?_;rw[<-M] at JG JM ⊢;clear M
      iterate 4 refine gF ?_
      refine zzR ⟨g,m*4,none⟩ (.string kd.name) (fun x=>RG.old x ab c0) ?_;refine gF ?_;refine A4 rfl rfl rfl ?_ ?_ ?_
      ·go_wp2
       obtain⟨VV,gl,hX,hgt,JG,JM⟩:=RG.step JG JM (cs:=sR) (t:=3);rw[<-hX,<-hgt];clear hX hgt;refine aN (RG b W2 [(gl,sR,3)]) (fun _ h=>h.sub bH) JG.out ?_;refine fP rfl rfl ?_ ?_
       ·go_wp2_with fail
        refine(bX 4 aD aD b (N+4) aD _ JM.out).mono ?_;rintro e VV ⟨t',rfl,jT,oe,JM,ht', -⟩;have JG:=hid (JG.out.take qL.out ht');have JM:=hid JM;clear ht';go_wp2;refine aN (RG b W2 [(gl,sR,3)]) (fun _ h=>h) JG.out ?_;exact al4
       ·go_wp2
        obtain⟨VV,gb,hX,hgt,JG,JM⟩:=RG.step JG JM (cs:=qA) (t:=85);rw[<-hX,<-hgt];clear hX hgt;exact YS
      ·go_wp2_with fail
       refine(bX 4 aD aD b (N+4) aD _ JM.out).mono ?_;rintro e VV ⟨t',rfl,jT,oe,JM,ht', -⟩;have JG:=hid (JG.out.take qL.out ht');have JM:=hid JM;clear ht';go_wp2;refine aN (RG b W2 []) (fun _ h=>h) JG.out ?_;refine fP rfl rfl ?_ ?_
       ·go_wp2
        obtain⟨VV,gl,hX,hgt,JG,JM⟩:=RG.step JG JM (cs:=sR) (t:=3);rw[<-hX,<-hgt];clear hX hgt;refine aN (RG b W2 [(gl,sR,3)]) (fun _ h=>h.sub bH) JG.out ?_;exact al4
       ·go_wp2
        obtain⟨VV,gb,hX,hgt,JG,JM⟩:=RG.step JG JM (cs:=qA) (t:=85);rw[<-hX,<-hgt];clear hX hgt;refine aN (RG b W2 [(gb,qA,85)]) (fun _ h=>h.sub bH) JG.out ?_;exact adx
      ·go_wp2
       obtain⟨VV,gb,hX,hgt,JG,JM⟩:=RG.step JG JM (cs:=qA) (t:=85);rw[<-hX,<-hgt];clear hX hgt;refine aN (RG b W2 [(gb,qA,85)]) (fun _ h=>h.sub bH) JG.out ?_;refine fP rfl rfl ?_ ?_
       ·go_wp2
        obtain⟨VV,gl,hX,hgt,JG,JM⟩:=RG.step JG JM (cs:=sR) (t:=3);rw[<-hX,<-hgt];clear hX hgt;have JG:=hid (JG.out.sub (L':=[(gb,qA,85),(gl,sR,3)]) bH);exact YS
       ·go_wp2_with fail
        refine(bX 4 aD aD b (N+4) aD _ JM.out).mono ?_;rintro e VV ⟨t',rfl,jT,oe,JM,ht', -⟩;have JG:=hid (JG.out.take qL.out ht');have JM:=hid JM;clear ht';go_wp2;refine aN (RG b W2 [(gb,qA,85)]) (fun _ h=>h) JG.out ?_;exact adx
     case rest=>
      obtain⟨F,h',rfl,HH,Gh,aY⟩:=hcut;go_wp2_with fail;refine(bX 5 aD aD b (N+5) aD _ aY.out).mono ?_;rintro e W3 ⟨t5,rfl,br,bs,EM,a0, -⟩;have Fo:=hid (Gh.out.take qL.out a0);have am:=hid EM;clear EM a0 Gh aY c0;go_upto_if 60 with fail;go_cut [] from 61 to 61 (fun A=>∃V:Int,Hid (0<=V/\V<=1)/\Hid (RG b W2 [(F,(dh (aC.AY kd.name V h') (.slice none 0 0) (.slice none 0 0)).toArray,85)] A)/\Hid (jl A b (N+6)))
      case first=>
       by_cases A1:t5=0
       ·subst A1
        have hF:=Fo.out.blocks (F,(dh (aC.AY kd.name 0 h') (.slice none 0 0) (.slice none 0 0)).toArray,85) bH;obtain⟨⟨-, -, -, -,y4, -, -, -⟩,yz⟩:=ez hF.2;have b6:=yz 4;have C5:=hid (Fo.out.store 4 (.int .i64 1));have HM9:=hid (am.out.keep (w':=W3.setCell ⟨F,4,none⟩ (.int .i64 1)) (fun x hx _=>mO _ _ _ _ (show x≠F by have:=qL.out;have:=hF.1;omega)));clear hF yz Fo am;go_wp2;go_meet;case rel=>exact⟨1,hid ⟨aD,aD⟩,C5,HM9⟩
       ·have jZ:(t5==0)=false:=tH A1
        clear A1;go_wp2;go_meet;case rel=>exact⟨0,hid ⟨aD,aD⟩,Fo,am⟩
      case rest=>
       obtain⟨V,HL,C5,HM9⟩:=hcut;clear Fo am;obtain⟨⟨y0,y1,y2,y3,y4,y5,y6,y7⟩, -⟩:=ez (C5.out.blocks (F,(dh (aC.AY kd.name V h') (.slice none 0 0) (.slice none 0 0)).toArray,85) bH).2
       have Kx:=hid (HOW.out.keep bQ (aH.eX C5.out.turn (fun x hx e=>by
        have hge:=P.out.ge;have hlb:=P.out.lb;rcases hx with hx|hx
        ·have:K<x:=hx;omega
        ·have:=(HOW.out.lt x hx).1;omega)))
       have an:=C5.out.block hKb mN.out;obtain⟨⟨-, -, -,e3⟩, -⟩:=bF an;go_wp2_with (at_builtin;go_must (refine d9 bQ rfl _ _ rfl Tryz.lW rfl Kx.out (us:=dh (aC.AY kd.name V h') (.slice none 0 0) (.slice none 0 0)) rfl rfl rfl (aC.AY kd.name V h') (jY (f:=aC.AY kd.name V h') rfl rfl) (vh (f:=aC.AY kd.name V h')) bH (by have:=(C5.out.turn).size;have:=aI mN.out;omega) ?_));intro v' w' how' ht' hn';obtain⟨a',c',hv', -⟩:=how'.form;simp only[rK,zxg,List.length_nil,zxn,Nat.reduceAdd] at hv';subst hv';have vp:=hid (KS.app (P.out) mN.out (fun x hx=>by have:=(HOW.out.lt x hx).1;omega) C5.out.turn HM9.out (fun _ h=>by cases h) how' rfl ht' hn');have C4:=(ht'.block K (fun e=>by have:=(HOW.out.lt K e.symm).1;omega) (aI an)).trans an;obtain⟨⟨-, -, -,d3⟩,dz⟩:=bF C4;have XP:=dz 3;clear how' ht' hn' Kx C4 dz an e3;go_upto_region 11 with fail;obtain⟨W4,a1⟩:=bJ (w'.setCell ⟨K,3,none⟩ (.slice a' 2 c'));rw[<-a1] at vp ⊢;clear a1 XP d3;obtain⟨-, -,d0,d1,d2,uf,d3,C⟩:=vp.out.Xw.at hmn;simp only[fK,fL,zxn] at d0 d1 d2 d3;rw[<-SL.out] at d0 d1 d2 C;have SV:=hid C;clear C;go_wp2_with fail;refine(NJ kd (kH kd uf) (fun x=>b<x) W4 ⟨uf,rfl,SV.out⟩ _ rfl).mono ?_;rintro e W5 ⟨rfl,jZ⟩;have KM:=hid (vp.out.grow (Turns.bg jZ) (vp.out.qB.keep (aH.below jZ)));clear jZ vp d0 d1 d2 d3 C5 HM9 SV mN HOW y0 y1 y2 y3 y4 y5 y6 y7;obtain⟨cI,aE⟩:=bJ (aC.QD kd.aF);rw[<-aE];have aK:=hid aE;clear aE;go_upto_region 12 with fail;go_cut [79] from 73 to 79 (fun s A=>∃bd:Bool,s=.bool bd/\Hid (bd=true->∃L,∃h:L<kd.aF.length,cI=(L:Int)/\aC.yC kd.aF[L])/\Hid (KS S b (N+7) B w none (.slice (some ⟨g,0,none⟩) ks.length c) ks K (aC.cZ ks.length) lo hi ([aC.tQ x]++[aC.AY kd.name V h']) A))
       case first=>
        rcases aC.jS aC.wH kd.aF with⟨n, -⟩|⟨L,ad,n,D, -⟩
        ·have rR:cI= -1:=aK.out.trans n
         subst rR;clear n;go_wp2;go_meet;case rel=>exact⟨false,rfl,hid (fun h=>by cases h),hid (KM.out.more aD)⟩
        ·have rR:cI=(L:Int):=aK.out.trans n
         subst rR;have bt:Hid (∃cj,∃h:cj<kd.aF.length,(L:Int)=(cj:Int)/\aC.yC kd.aF[cj]):=hid ⟨L,ad,rfl,abI D⟩;clear n D;have Yb:(0:Int)<=L:=aD
         go_wp2_with fail;refine(bX 2 aD aD b (N+6) aD _ KM.out.qB).mono ?_;rintro e W6 ⟨t6,rfl,Yc,Yd,X,Y, -⟩;have KN:=hid (KM.out.grow Y X);clear X Y KM;go_wp2;go_meet;case rel=>exact⟨_,rfl,hid (fun _=>bt.out),KN⟩
       case rest=>
        obtain⟨bd,rfl,af,KN⟩:=hcut;clear KM aK;go_upto_if 79 with fail;go_cut [] from 80 to 94 (fun A=>∃s,Hid (aC.rM kd s)/\Hid (KS S b (N+7) B w none (.slice (some ⟨g,0,none⟩) ks.length c) ks K (aC.cZ ks.length) lo hi ([aC.tQ x]++[aC.AY kd.name V h']++s) A))
        case first=>
         cases bd with
         |false=>
          go_wp2
          go_meet
          case rel=>exact⟨[],hid (.inl rfl),hid (by rw[zxp];exact KN.out)⟩
         |true=>
          obtain⟨L,ad,bu,a2⟩:=af.out rfl
          subst bu
          have bv:Hid (aC.rM kd [aC.sQ kd.aF[L].name]):=hid (.inr ⟨L,ad,a2,rfl⟩)
          clear a2 af
          have Yb:(0:Int)<=L:=aD
          obtain⟨H,E,I,i,d,u, -⟩:=KN.out.box
          have aB:E=2:=i
          subst aB
          have mN:=hid d
          have HOW:=hid u
          obtain⟨⟨-, -, -,b3⟩, -⟩:=bF d
          have qL:Hid (b<wc.heap.size):=hid (by have:=KN.out.lb;have:=KN.out.turn.size;omega)
          obtain⟨-, -, -, -, -,uf,c3,C⟩:=KN.out.Xw.at hmn
          simp only[fK,fL,zxn] at c3
          rw[<-SL.out] at C
          obtain⟨au,cu,rfl,b7, -, -⟩:=C.form
          obtain⟨-,bw,bx, -⟩:=C.at ad
          have a3:bM au≠b:=aD
          have bY:(L:Int)<kd.aF.length:=aD
          generalize kd.aF[L].name=V6 at*
          clear i d u C bw
          go_upto_region 13 with fail
          have JG:=hid (RG.start b wc)
          have JM:=hid (KN.out.qB.keep (aH.below (aJ aG 1)))
          obtain⟨VV,M⟩:=bJ (wc.drewN 1)
          refine bq 13 (.quiet 0 (.quiet 1 (.quiet 2 (.quiet 3 (.quiet 4 (.quiet 5 (.quiet 6 (.quiet 7 (.quiet 8 (.quiet 9 (.quiet 10 (.quiet 11 (.one 12 .done))))))))))))) (RG b wc []) nK zK JG.out ?_
          rw[<-M] at JG JM ⊢
          clear M
          refine gF ?_
          refine zzR ⟨K,3,none⟩ (.slice H 2 I) (fun W=>RG.old W hKb b3) ?_
          iterate 4 refine gF ?_
          refine zzR ⟨g,m*4+3,none⟩ (.slice au kd.aF.length cu) (fun W=>RG.old W ab c3) ?_
          iterate 3 refine gF ?_
          refine zzR ⟨bM au,bT au+L*8,none⟩ (.string V6) (fun W=>RG.old W a3 bx) ?_
          refine gF ?_
          refine aZ rfl ?_
          go_wp2
          refine aN (RG b wc []) (fun _ h=>h) (JG.out.alloc _ _).tail ?_
          refine bG ?_
          try simp only[jW,jH]
          have Kx:=hid (HOW.out.keep bQ (aH.eX JG.out.turn (fun x hx e=>by
           have hge:=KN.out.ge;have hlb:=KN.out.lb;rcases hx with hx|hx
           ·have:K<x:=hx;omega
           ·have:=(HOW.out.lt x hx).1;omega)))
          go_wp2_with (at_builtin;go_must (refine d9 bQ rfl _ _ rfl Tryz.lW rfl Kx.out (us:=dh (aC.sQ V6) (.slice none 0 0) (.slice none 0 0)) rfl rfl rfl (aC.sQ V6) (jY (f:=aC.sQ V6) rfl rfl) (vh (f:=aC.sQ V6)) bH J9 ?_))
          intro v' w' how' ht' hn'
          obtain⟨a',c',hv', -⟩:=how'.form
          simp only[rK,zxg,List.length_nil,zxn,Nat.reduceAdd] at hv'
          subst hv'
          have vp:=hid (KS.app (KN.out) mN.out (fun x hx=>by have:=(HOW.out.lt x hx).1;omega) JG.out.turn JM.out (fun _ h=>by cases h) how' rfl ht' hn')
          have C4:=(ht'.block K (fun e=>by have:=(HOW.out.lt K e.symm).1;omega) (aI (JG.out.block hKb mN.out))).trans (JG.out.block hKb mN.out)
          obtain⟨⟨-, -, -,d3⟩,dz⟩:=bF C4
          have XP:=dz 3
          clear how' ht' hn' Kx C4 dz JG JM
          go_wp2
          go_meet
          case rel=>exact⟨_,bv,vp⟩
        case rest=>
         obtain⟨s,a4,Q⟩:=hcut;clear KN;obtain⟨-, -, -, -, -,uf,d3,C⟩:=Q.out.Xw.at hmn;simp only[fK,fL,zxn] at d3;rw[<-SL.out] at C;have SV:=hid C;clear C;go_upto_region 14 with fail;go_cut [106] from 95 to 106 (fun q A=>∃bd:Bool,q=.bool bd/\Hid (bd=true->∀f∈kd.aF,f.name≠aC.gH)/\Hid (KS S b (N+8) B w none (.slice (some ⟨g,0,none⟩) ks.length c) ks K (aC.cZ ks.length) lo hi ([aC.tQ x]++[aC.AY kd.name V h']++s) A))
         case first=>
          go_wp2_with fail;refine(Cm kd.aF aC.gH uf (fun x=>b<x) wc SV.out).mono ?_;rintro e w' ⟨rfl,rfl⟩;obtain⟨hI,O⟩:=bJ (aC.Fh kd.aF aC.gH);rw[<-O];rcases aC.jS (fun f:aC.dA=>decide (f.name=aC.gH)) kd.aF with⟨n,D⟩|⟨L,ad,n,D, -⟩
          ·have rR:hI= -1:=O.trans n
           subst rR
           have ag:Hid (∀f∈kd.aF,f.name≠aC.gH):=hid (fun f hf=>by
            obtain⟨j,hj,rfl⟩:=zxf hf;simpa using D j hj)
           clear n D O;go_wp2_with fail;refine(bX 3 aD aD b (N+7) aD _ Q.out.qB).mono ?_;rintro e W6 ⟨t6,rfl,Yc,Yd,X,Y, -⟩;have C6:=hid (Q.out.grow Y X);clear X Y Q SV d3;go_wp2;go_meet;case rel=>exact⟨_,rfl,hid (fun _=>ag.out),C6⟩
          ·have rR:hI=(L:Int):=O.trans n
           subst rR;clear n D O;have Yb:¬(L:Int)<0:=aD
           go_wp2;go_meet;case rel=>exact⟨false,rfl,hid (fun h=>by cases h),hid (Q.out.more aD)⟩
         case rest=>
          obtain⟨bd,rfl,ag,C6⟩:=hcut;clear Q SV d3;go_upto_if 106 with fail;go_cut [] from 11 to 135 (fun A=>∃G ks' p,Hid (ks'.length=ks.length)/\Hid (aC.zX ks m (aC.cZ ks.length) ks' p)/\Hid (KS S b (N+20) B w G (.slice (some ⟨g,0,none⟩) ks.length c) ks' K (aC.cZ ks.length) lo hi (([aC.tQ x]++[aC.AY kd.name V h']++s)++p) A))
          case first=>
           cases bd with
           |false=>
            go_wp2
            go_meet
            case rel=>exact⟨none,ks,[],hid rfl,hid (.inl ⟨rfl,rfl⟩),hid (by rw[zxp];exact C6.out.more aD)⟩
           |true=>
            have HNT':=hid (ag.out rfl)
            clear ag
            go_wp2_with fail
            refine(bX 3 aD aD b (N+8) aD _ C6.out.qB).mono ?_
            rintro e W6 ⟨t6,rfl,Yc,Yd,X,Y, -⟩
            have IJ:=hid (C6.out.grow Y X)
            clear X Y C6
            go_upto_region 16 with fail
            obtain⟨fs,o⟩:=bJ ([aC.tQ x]++[aC.AY kd.name V h']++s)
            rw[<-o] at IJ
            have ay:fs.length<=3:=by
             have:=a4.out.len;rw[o];simp;omega
            have HFS:=hid o
            clear o
            obtain⟨H,E,I,i,d,u, -⟩:=IJ.out.box
            have ae:=hid i
            clear i
            have mN:=hid d
            have HOW:=hid u
            obtain⟨⟨-, -, -,b3⟩, -⟩:=bF d
            have qL:Hid (b<W6.heap.size):=hid (by have:=IJ.out.lb;have:=IJ.out.turn.size;omega)
            clear d u
            have JG:=hid (RG.start b W6)
            have JM:=hid (IJ.out.qB.keep (aH.below (aJ aG 1)))
            obtain⟨VV,M⟩:=bJ (W6.drewN 1)
            refine bq 9 (.quiet 0 (.quiet 1 (.quiet 2 (.quiet 3 (.quiet 4 (.one 5 (.quiet 6 (.quiet 7 (.one 8 .done))))))))) (RG b W6 []) nK zK JG.out ?_
            rw[<-M] at JG JM ⊢
            clear M
            refine gF ?_
            refine zzR ⟨K,3,none⟩ (.slice H E I) (fun W=>RG.old W hKb b3) ?_
            iterate 3 refine gF ?_
            refine aZ rfl ?_
            go_wp2_with fail
            refine(bX 8 aD aD b (N+9) aD _ JM.out).mono ?_
            rintro e VV ⟨t',rfl,jT,oe,JM,ht', -⟩
            have JG:=hid (JG.out.take qL.out ht')
            have JM:=hid JM
            clear ht'
            go_wp2
            refine aN (RG b W6 []) (fun _ h=>h) JG.out ?_
            refine bC rfl ?_
            intro hne
            have hq:IntKind.i64.wrap (t6+t')=t6+t':=IntWalk.i64_in _ aD
            go_big_quiet_step (fail)
            refine iU ?_
            clear hne hq
            refine gF ?_
            refine aZ rfl ?_
            go_wp2
            refine aN (RG b W6 []) (fun _ h=>h) (JG.out.alloc _ _).tail ?_
            refine bG ?_
            try simp only[jW,jH]
            have Kx:=hid (HOW.out.keep bQ (aH.eX JG.out.turn (fun x hx e=>by
             have hge:=IJ.out.ge;have hlb:=IJ.out.lb;rcases hx with hx|hx
             ·have:K<x:=hx;omega
             ·have:=(HOW.out.lt x hx).1;omega)))
            go_wp2_with (at_builtin;go_must (refine d9 bQ rfl _ _ rfl Tryz.lW rfl Kx.out (us:=dh (aC.oZ t6 (t6+t')) (.slice none 0 0) (.slice none 0 0)) rfl rfl rfl (aC.oZ t6 (t6+t')) (jY (f:=aC.oZ t6 (t6+t')) rfl rfl) (vh (f:=aC.oZ t6 (t6+t'))) aD J9 ?_))
            intro v' w' how' ht' hn'
            obtain⟨a',c',hv', -⟩:=how'.form
            obtain⟨n',r⟩:=bJ ((fs++[aC.oZ t6 (t6+t')]).length)
            rw[<-r] at hv'
            subst hv'
            have vp:=hid (KS.app (IJ.out) mN.out (fun x hx=>by have:=(HOW.out.lt x hx).1;omega) JG.out.turn JM.out (fun _ h=>by cases h) how' r ht' hn')
            have C4:=(ht'.block K (fun e=>by have:=(HOW.out.lt K e.symm).1;omega) (aI (JG.out.block hKb mN.out))).trans (JG.out.block hKb mN.out)
            obtain⟨⟨-, -, -,d3⟩,dz⟩:=bF C4
            have XP:=dz 3
            have a5:=hid r
            clear how' ht' hn' Kx C4 dz JG JM r
            go_upto_region 17 with fail
            obtain⟨W8,a6⟩:=bJ (w'.setCell ⟨K,3,none⟩ (.slice a' n' c'))
            rw[<-a6] at vp ⊢
            clear a6 XP d3 mN HOW b3
            have Sd:=vp
            clear vp IJ ae a5
            obtain⟨us, -,a7,Ye⟩:=Sd.out.own.at hmn
            obtain⟨uf,rfl,BQ⟩:=Ye
            have c3:=a7 3 uf rfl
            rw[<-SL.out] at BQ
            obtain⟨au,cu,rfl, -, -, -⟩:=BQ.form
            have HFF:=hid BQ
            obtain⟨H,E,I, -,d, -, -⟩:=Sd.out.box
            obtain⟨⟨b0, -, -, -⟩, -⟩:=bF d
            have HW8:Hid (w.heap.size<=W8.heap.size):=hid Sd.out.turn.size
            have qL:Hid (b<W8.heap.size):=hid (by have:=Sd.out.lb;have:=Sd.out.turn.size;omega)
            have b8:g≠b:=ab
            have bA:kd.aF.length<=1000000:=bn.out _ (by rw[SL.out];exact eV _)
            clear a7 BQ d
            have JG:=hid (RG.start b W8)
            have JM:=hid (Sd.out.qB.keep (aH.below (aJ aG 1)))
            obtain⟨VV,M⟩:=bJ (W8.drewN 1)
            refine bq 14 (.quiet 0 (.quiet 1 (.quiet 3 (.quiet 4 (.quiet 5 (.quiet 6 (.quiet 7 (.quiet 9 (.quiet 10 (.quiet 11 (.two 2 12 (.two 8 12 (.one 12 (.one 13 .done)) (.one 8 (.one 13 .done))) (.one 2 (.one 8 (.one 13 .done)))))))))))))) (RG b W8 []) nK zK JG.out ?_
            rw[<-M] at JG JM ⊢
            clear M
            iterate 6 refine gF ?_
            refine zzR ⟨g,m*4+3,none⟩ (.slice au kd.aF.length cu) (fun W=>RG.old W ab c3) ?_
            refine gF ?_
            refine zzR ⟨K,0,none⟩ (.string (aC.cZ ks.length)) (fun W=>RG.old W hKb b0) ?_
            refine gF ?_
            refine fP rfl rfl ?_ ?_
            ·go_wp2
             have A9:Hid (W8.heap.size<=VV.heap.size/\(VV.alloc (.cells #[] 85)).heap[VV.heap.size]?=some (.cells #[] 85 (0,0))):=hid ⟨JG.out.turn.size,bD VV _ rfl⟩;obtain⟨VV,gm,hX,hgt,JG,JM⟩:=RG.step JG JM (cs:=#[]) (t:=85);rw[<-hX,<-hgt] at A9 ⊢;clear hX hgt;have JG:=hid JG.out.tail;refine aN (RG b W8 []) (fun _ h=>h) JG.out ?_;refine fP rfl rfl ?_ ?_
             ·have Nd:=hid (dx.keep (S:=fun x=>SG b S w none x/\x≠g) (fC.mono (S':=fun x=>SG b S w none x/\x≠g) aD bQ HFF.out (fun _ _ h=>h)) (aH.eX JG.out.turn (fun x hx e=>by have:=(SG.lt hx.1).1;omega)))
              have JO:=JG;have JN:=JM;go_wp2_with (at_builtin;go_must (refine jq (S:=fun x=>SG b S w none x/\x≠g) (B:=W8.heap.size) bQ rfl _ _ rfl Tryz.lW rfl (dX.CF A9.out.2 A9.out.1) rfl Nd.out (fun x hlt hx=>⟨hx,fun e=>by have:=SG.lt hx.1;have h9:x=gm:=oO e;have:=A9.out.1;have:=HW8.out;omega⟩) (fun us y h=>mZ h) jo Sb ?_));intro v8 VV C9 mw hn8;obtain⟨a8,c8,hv8, -⟩:=C9.form;subst hv8;have JG:Hid (RG b W8 [] VV):=hid ⟨(JO.out.turn).into mw (fun x hx e=>by have h9:x=gm:=oO e;have:=A9.out.1;omega),fun y hy=>absurd hy bH⟩;have JM:=hid (JN.out.keep (mw.keep (fun x hx e=>by have h9:x=gm:=oO e;have:=A9.out.1;have:=qL.out;omega)));have Ba:=hid C9;clear C9 mw hn8 Nd JO JN A9;go_wp2;refine aN (RG b W8 []) (fun _ h=>h) JG.out ?_;refine aZ rfl ?_;go_wp2;have aM:Hid (∀x,(Value.slice a8 kd.aF.length c8).ownBlock=some x->x<VV.heap.size):=hid (fun x hx=>(Ba.out.lt x hx).2);have Ba:=hid (Ba.out.below bQ (show BL VV (VV.alloc (.cells (vg ks.length) 85)) from aG.alloc aL _));obtain⟨VV,gt,hX,hgt,JG,JM⟩:=RG.step JG JM (cs:=(vg ks.length)) (t:=85);rw[<-hX] at Ba ⊢;rw[<-hgt] at aM ⊢;have HNB:Hid (∀x,some x=(Value.slice a8 kd.aF.length c8).ownBlock->x≠gt):=hid (fun x e h9=>by have h1:=aM.out x e.symm;omega);clear aM;clear hX hgt;refine aN (RG b W8 [(gt,(vg ks.length),85)]) (fun _ h=>h.sub bH) JG.out ?_;refine aZ rfl ?_;have wK:=(JG.out.blocks (gt,(vg ks.length),85) bH);have JO:=JG;have JN:=JM;go_wp2_with (at_builtin;go_must (refine jq (T:=fun _=>False) (T':=dr) bQ rfl _ _ rfl Tryz.lW rfl Ba.out rfl (tS (f:=aC.iV (aC.cZ ks.length)) wK.2 rfl rfl trivial) (fun x hlt hx=>hx.elim) (fun us y h=>mZ h) jo Sb ?_));intro v9 VV yJ sS hn9;have Wm:=hid ((JO.out.turn).into sS (fun x hx e=>by have:=(Ba.out.lt x e.symm).1;omega));have Fx:Hid (RG b W8 [(gt,(vg ks.length),85)] VV):=hid ⟨Wm.out,fun y hy=>by obtain rfl:=nL.1 hy;exact⟨wK.1,(sS.block gt (fun e=>HNB.out _ e rfl) (aI wK.2)).trans wK.2⟩⟩;have HM9:=hid (JN.out.keep (sS.keep (fun x hx e=>by have:=(Ba.out.lt x e.symm).1;have:=qL.out;omega)));obtain⟨a9,c9,hv9, -⟩:=yJ.form;have Wf:(kd.aF++[aC.iV (aC.cZ ks.length)]).length=kd.aF.length+1:=bH
              rw[Wf] at hv9;subst hv9;obtain⟨g2,hag, -⟩:=yJ.sN bH;subst hag;have QX:=hid yJ;clear yJ sS hn9 wK Ba JO JN Wf HNB;go_wp2;refine aN (RG b W8 [(gt,(vg ks.length),85)]) (fun _ h=>h) Fx.out ?_;refine bG ?_;try simp only[jW,jH]
              obtain⟨z3,zf⟩:(∃z,VV.cell? ⟨g,m*4+3,none⟩=some z)/\VV.frozen? ⟨g,m*4+3,none⟩=false:=by
               exact Xe
              obtain⟨z3,vW⟩:=z3;have hKP:=Sd.out.put Wm.out HM9.out hmn QX.out (kd':=aC.fV kd (aC.cZ ks.length)) (by rw[<-SL.out];rfl);have afx:=hid hKP;clear hKP Wm HM9 QX;go_wp2;go_meet;case rel=>exact⟨some g2,ks.set m (aC.fV kd (aC.cZ ks.length)),[aC.oZ t6 (t6+t')],hid bH,hid (.inr ⟨t6,t6+t',aD,aD,aD,rfl,ads,by rw[<-HKA.out]⟩),hid Qx⟩
             ·go_wp2
              have A9:Hid (W8.heap.size<=gm/\(VV.alloc (.cells (vg ks.length) 85)).heap[gm]?=some (.cells #[] 85 (0,0))):=hid ⟨A9.out.1,cC _ A9.out.2⟩;obtain⟨VV,gt,hX,hgt,JG,JM⟩:=RG.step JG JM (cs:=(vg ks.length)) (t:=85);rw[<-hX] at A9 ⊢;rw[<-hgt];clear hX hgt;refine aN (RG b W8 [(gt,(vg ks.length),85)]) (fun _ h=>h.sub bH) JG.out ?_;exact al5
            ·go_wp2
             obtain⟨VV,gt,hX,hgt,JG,JM⟩:=RG.step JG JM (cs:=(vg ks.length)) (t:=85);rw[<-hX,<-hgt];clear hX hgt;refine aN (RG b W8 [(gt,(vg ks.length),85)]) (fun _ h=>h.sub bH) JG.out ?_;refine aZ rfl ?_;go_wp2;have A9:Hid (W8.heap.size<=VV.heap.size/\(VV.alloc (.cells #[] 85)).heap[VV.heap.size]?=some (.cells #[] 85 (0,0))):=hid ⟨JG.out.turn.size,bD VV _ rfl⟩;obtain⟨VV,gm,hX,hgt,JG,JM⟩:=RG.step JG JM (cs:=#[]) (t:=85);rw[<-hX,<-hgt] at A9 ⊢;clear hX hgt;have JG:=hid JG.out.tail;refine aN (RG b W8 [(gt,(vg ks.length),85)]) (fun _ h=>h) JG.out ?_;exact al5
          case rest=>
           obtain⟨G,ks',p,rS,bB,ba⟩:=hcut;clear C6 ag;go_wp2;go_meet;case rel=>exact⟨G,ks',_,rS,hid ⟨x,HX.out.1,HX.out.2,.inr ⟨m,hmn,V,h',s,p,HL.out.1,HL.out.2,HH.out.1,HH.out.2,by rw[<-HKA.out];exact a4.out,bB.out,rfl⟩⟩,hid (by rw[<-HKA.out];simpa using ba.out)⟩
   case rest=>
    obtain⟨G,ks',hs,rS,bb,ah⟩:=hcut;clear Z;have b9:=bb.out.len;go_upto_region 18 with fail;go_cut [142] from 136 to 142 (fun q A=>∃bd:Bool,q=.bool bd/\Hid (bd=true->1<ks.length)/\Hid (KS S b (N+21) B w G (.slice a ks.length c) ks' K (aC.cZ ks.length) lo hi hs A))
    case first=>
     by_cases hn:(1:Int)<ks.length
     ·have Yk:Hid (1<ks.length):=hid aD
      go_wp2_with fail;refine(bX 3 aD aD b (N+20) aD _ ah.out.qB).mono ?_;rintro e W6 ⟨t6,rfl,Yc,Yd,X,Y, -⟩;have C6:=hid (ah.out.grow Y X);clear X Y ah;go_wp2;go_meet;case rel=>exact⟨_,rfl,hid (fun _=>Yk.out),C6⟩
     ·go_wp2
      go_meet;case rel=>exact⟨false,rfl,hid (fun h=>by cases h),hid (ah.out.more aD)⟩
    case rest=>
     obtain⟨bd,rfl,af,Gj⟩:=hcut;clear ah;go_upto_if 142 with fail;go_cut [] from 143 to 152 (fun A=>∃y,Hid (aC.Xk ks' y)/\Hid (y.length<=1)/\Hid (KS S b (N+21) B w G (.slice a ks.length c) ks' K (aC.cZ ks.length) lo hi (hs++y) A))
     case first=>
      cases bd with
      |false=>
       go_wp2
       go_meet
       case rel=>exact⟨[],hid (.inl rfl),hid bH,hid (by rw[zxp];exact Gj.out)⟩
      |true=>
       have ca:=af.out rfl
       have aO:0<ks'.length:=by have:=rS.out;omega
       have cb:(0:Int)<ks.length:=aD
       have bc:1<ks'.length:=by have:=rS.out;omega
       obtain⟨H,E,I,i,d,u,U⟩:=Gj.out.box
       have ae:=hid i
       have mN:=hid d
       have HOW:=hid u
       have HG:=hid U
       obtain⟨⟨-, -, -,b3⟩, -⟩:=bF d
       have qL:Hid (b<wc.heap.size):=hid (by have:=Gj.out.lb;have:=Gj.out.turn.size;omega)
       obtain⟨g,hag, -⟩:=Gj.out.own.sN aO
       subst hag
       have ab:g≠b:=by have:=(Gj.out.kb g rfl).1;omega
       have az:dV (some ⟨g,0,none⟩) ks.length:=fun _=>⟨_,_,rfl⟩
       obtain⟨-, -,c0, -⟩:=Gj.out.Xw.at aO
       simp only[fK,fL,zxn,Nat.zero_mul] at c0
       have bE:Hid (aC.Xk ks' [aC.Xj ks'[0].name]):=hid (.inr ⟨bc,by rw[aC.kL,iY,lN aO];rfl⟩)
       generalize ks'[0].name=V6 at*
       clear i d u U
       go_upto_region 19 with fail
       have JG:=hid (RG.start b wc)
       have JM:=hid (Gj.out.qB.keep (aH.below (aJ aG 1)))
       obtain⟨VV,M⟩:=bJ (wc.drewN 1)
       refine bq 8 (.quiet 0 (.quiet 1 (.quiet 2 (.quiet 3 (.quiet 4 (.quiet 5 (.quiet 6 (.one 7 .done)))))))) (RG b wc []) nK zK JG.out ?_
       rw[<-M] at JG JM ⊢
       clear M
       refine gF ?_
       refine zzR ⟨K,3,none⟩ (.slice H E I) (fun W=>RG.old W hKb b3) ?_
       iterate 3 refine gF ?_
       refine zzR ⟨g,0,none⟩ (.string V6) (fun W=>RG.old W ab c0) ?_
       refine gF ?_
       refine aZ rfl ?_
       go_wp2
       refine aN (RG b wc []) (fun _ h=>h) (JG.out.alloc _ _).tail ?_
       refine bG ?_
       try simp only[jW,jH]
       have Kx:=hid (HOW.out.keep bQ (aH.eX JG.out.turn (fun x hx e=>by
        have hge:=Gj.out.ge;have hlb:=Gj.out.lb;rcases hx with hx|hx
        ·have:K<x:=hx;omega
        ·have:=(HOW.out.lt x hx).1;omega)))
       go_wp2_with (at_builtin;go_must (refine d9 bQ rfl _ _ rfl Tryz.lW rfl Kx.out (us:=dh (aC.Xj V6) (.slice none 0 0) (.slice none 0 0)) rfl rfl rfl (aC.Xj V6) (jY (f:=aC.Xj V6) rfl rfl) (vh (f:=aC.Xj V6)) aD J9 ?_))
       intro v' w' how' ht' hn'
       obtain⟨a',c',hv', -⟩:=how'.form
       obtain⟨n',r⟩:=bJ ((hs++[aC.Xj V6]).length)
       rw[<-r] at hv'
       subst hv'
       have vp:=hid (KS.app (Gj.out) mN.out (fun x hx=>by have:=(HOW.out.lt x hx).1;omega) JG.out.turn JM.out HG.out how' r ht' hn')
       have C4:=(ht'.block K (fun e=>by have:=(HOW.out.lt K e.symm).1;omega) (aI (JG.out.block hKb mN.out))).trans (JG.out.block hKb mN.out)
       obtain⟨⟨-, -, -,d3⟩,dz⟩:=bF C4
       have XP:=dz 3
       have a5:=hid r
       clear how' ht' hn' Kx C4 dz JG JM r
       go_wp2
       go_meet
       case rel=>exact⟨_,bE,hid bH,vp⟩
     case rest=>
      obtain⟨y,bI,bK,Da⟩:=hcut;clear Gj af;have cc:=bK.out;obtain⟨f0,ao⟩:=bJ (hs++y);rw[<-ao] at Da;have cd:f0.length<=5:=by rw[ao];simp;omega
      have be:=hid ao;clear ao;go_wp2_with fail;refine(Xo b (N+21) aD _ Da.out.qB).mono ?_;rintro e W2 ⟨v,p,rfl,hp,aP,aa,J⟩;have HP:=hid hp;have ce:=hp.len;have rV:=hid (Da.out.grow J aa);obtain⟨H,E,I,i,d,u,U⟩:=Da.out.box;have HKL:Hid (K<wc.heap.size):=hid (aI d);have ai:Hid (wc.heap.size<=W2.heap.size):=hid J.size;have aj:Hid (∀x,(Value.slice H E I).ownBlock=some x->x<wc.heap.size):=hid (fun x hx=>(u.lt x hx).2);have NQ:W2.heap[K]?=some (.cells #[.string (aC.cZ ks.length),.int .i64 lo,.int .i64 hi,.slice H E I] 53 (0,0)):=(J.block K hKb (aI d)).trans d;have mN:=hid NQ
      have HOW:=hid (u.keep bQ (aH.eX J (fun x hx e=>by
       have h1:=Da.out.ge;have h2:=Da.out.lb;rcases hx with hx|hx
       ·have:K<x:=hx;omega
       ·have:=(u.lt x hx).1;omega)))
      have HG:Hid (∀x,G=some x->K<x/\x<W2.heap.size/\(Value.slice H E I).ownBlock≠some x):=hid (fun x hx=>⟨(U x hx).1,by have:=(U x hx).2.1;have:=J.size;omega,(U x hx).2.2⟩);have ae:=hid i;have VZ:=hid (Da.out.grow J aa);obtain⟨⟨-, -, -,b3⟩, -⟩:=bF NQ;clear i d NQ u U Da J aa;obtain⟨ap,cp,rfl, -, -, -⟩:=aP.form;have Nd:=hid aP;clear aP hp rV;go_wp2_with (at_builtin;go_must (refine jq bQ rfl _ _ rfl Tryz.lW rfl HOW.out rfl Nd.out (fun x hlt hx=>⟨aby,fun e=>by have:=aj.out x e.symm;have h9:wc.heap.size<=x:=hx;omega⟩) (fun us y h=>mZ h) (by first|omega|(simp;omega)) (by have:=HKL.out;have:=ai.out;omega) ?_));intro v' w' how' ht' hn';obtain⟨fs,o⟩:=bJ (f0++p);rw[<-o] at how';obtain⟨a',c',hv', -⟩:=how'.form;obtain⟨n',r⟩:=bJ fs.length;rw[<-r] at hv';subst hv';have vp:=hid (KS.app VZ.out mN.out (fun x hx=>by have:=(HOW.out.lt x hx).1;omega) (Turns.refl _ _) VZ.out.qB HG.out (o▸how') (o▸r) ht' hn');have C4:=(ht'.block K (fun e=>by have:=(HOW.out.lt K e.symm).1;omega) (aI mN.out)).trans mN.out;obtain⟨⟨-, -, -,d3⟩,dz⟩:=bF C4;have XP:=dz 3;rw[<-o] at vp;have HFS:=hid o;clear how' ht' hn' C4 dz r o Nd b3 VZ HOW mN HG ae HKL ai aj;go_upto_region 22 with fail;obtain⟨W5,bf⟩:=bJ (w'.setCell ⟨K,3,none⟩ (.slice a' n' c'));rw[<-bf] at vp ⊢;clear bf XP d3;have bZ:fs.length<=10:=by rw[HFS.out];simp;omega
      go_wp2_with fail;refine(bX 2 aD aD b (N+41) aD _ vp.out.qB).mono ?_;rintro e W6 ⟨t7,rfl,bL,bN,X,Y, -⟩;have P:=hid (vp.out.grow Y X);clear X Y vp;go_upto_if 162 with fail;go_cut [] from 13 to 182 (fun A=>∃q,Hid (aC.qH fs q)/\Hid (KS S b (N+70) B w G (.slice a ks.length c) ks' K (aC.cZ ks.length) lo hi (fs++q) A))
      case first=>
       by_cases aQ:t7=0
       ·subst aQ
        obtain⟨wc,bh⟩:=bJ W6;rw[<-bh] at P ⊢;clear bh;go_wp2_with fail;refine(Xo b (N+42) aD _ P.out.qB).mono ?_;rintro e W7 ⟨v2,q,rfl,hq,Yl,Xr,qz⟩;have cf:=hq.len;obtain⟨H,E,I,i,d,u,U⟩:=P.out.box;have HKL:Hid (K<wc.heap.size):=hid (aI d);have ai:Hid (wc.heap.size<=W7.heap.size):=hid qz.size;have aj:Hid (∀x,(Value.slice H E I).ownBlock=some x->x<wc.heap.size):=hid (fun x hx=>(u.lt x hx).2);have NQ:W7.heap[K]?=some (.cells #[.string (aC.cZ ks.length),.int .i64 lo,.int .i64 hi,.slice H E I] 53 (0,0)):=(qz.block K hKb (aI d)).trans d;have mN:=hid NQ
        have HOW:=hid (u.keep bQ (aH.eX qz (fun x hx e=>by
         have h1:=P.out.ge;have h2:=P.out.lb;rcases hx with hx|hx
         ·have:K<x:=hx;omega
         ·have:=(u.lt x hx).1;omega)))
        have HG:Hid (∀x,G=some x->K<x/\x<W7.heap.size/\(Value.slice H E I).ownBlock≠some x):=hid (fun x hx=>⟨(U x hx).1,by have:=(U x hx).2.1;have:=qz.size;omega,(U x hx).2.2⟩);have ae:=hid i;have VZ:=hid (P.out.grow qz Xr);obtain⟨⟨-, -, -,b3⟩, -⟩:=bF NQ;clear i d NQ u U P qz Xr;obtain⟨ap,cp,rfl,b4, -, -⟩:=Yl.form;by_cases rW:q.length=0
        ·obtain rfl:q=[]:=zxh rW
         clear rW Yl;go_upto_region 24 with fail;go_quiet (fail);exact Xz
        ·have bO:0<q.length:=by omega
         have tZ:(0:Int)<q.length:=aD
         clear rW;obtain⟨-, -,c0, -⟩:=Yl.at bO
         have bP:Hid (∀f,q.head?=some f->f=q[0]):=hid (fun f hf=>by
          cases q with
          |nil=>cases hf
          |cons g l=>exact(oO hf).symm)
         obtain⟨aR,aS⟩:=bJ (q[0].name);rw[<-aS] at c0;have bR:=hid aS;simp only[Nat.zero_mul,Nat.add_zero] at c0;have bS:Hid (dx (fun x=>K<x) W7 (.slice H E I) fs):=hid (HOW.out.sl bQ (fun _ _ h=>h) (fun x hx=>by have:=(HOW.out.lt x hx).1;omega));have aq:=hid (fun m=>Calls.quiet_of (uZ (Cm fs aR (.slice H E I) (fun x=>K<x) (W7.drewN m) (bS.out.keep (aH.below (aJ aG _))))));have Nd:=hid Yl;have bU:=hid hq;obtain⟨hI,O⟩:=bJ (aC.Fh fs aR);rw[<-O] at aq;have bi:=hid O;clear Yl hq aS O;go_upto_region 24 with fail;go_quiet ((exact aq.out _));rcases aC.jS (fun f:aC.dA=>decide (f.name=aR)) fs with⟨n,D⟩|⟨L,ad,n,D, -⟩
         ·have rR:hI= -1:=bi.out.trans n
          subst rR
          have bV:Hid (aC.qH fs q):=hid (.inr ⟨bU.out,fun f hf g hg=>by
           obtain⟨j,hj,rfl⟩:=zxf hg;have h1:=D j hj;rw[bP.out f hf,<-bR.out];simpa using h1⟩)
          clear n D aq c0;have ar:BL W7 (W7.drewN nq):=aJ aG nq;have bj:Turns (·=b) W7 (W7.drewN nq):=(Turns.refl _ _).drewN nq;have mN:=hid (show (W7.drewN nq).heap[K]?=_ from mN.out);have HOW:=hid (HOW.out.below bQ ar);have HG:Hid (∀x,G=some x->K<x/\x<(W7.drewN nq).heap.size/\(Value.slice H E I).ownBlock≠some x):=hid HG.out;have Nd:=hid (Nd.out.keep (aH.below ar));have VZ:=hid (VZ.out.grow bj (VZ.out.qB.keep (aH.below ar)));obtain⟨⟨-, -, -,b3⟩, -⟩:=bF mN.out;clear ar bj;go_wp2_with (at_builtin;go_must (refine jq bQ rfl _ _ rfl Tryz.lW rfl HOW.out rfl Nd.out (fun x hlt hx=>⟨aby,fun e=>by have:=aj.out x e.symm;have h9:wc.heap.size<=x:=hx;omega⟩) (fun us y h=>mZ h) (by first|omega|(simp;omega)) (by have:=HKL.out;have:=ai.out;show K+1<=W7.heap.size;omega) ?_));intro v' w' how' ht' hn';obtain⟨fq,o⟩:=bJ (fs++q);rw[<-o] at how';obtain⟨a',c',hv', -⟩:=how'.form;obtain⟨n',r⟩:=bJ fq.length;rw[<-r] at hv';subst hv';have vp:=hid (KS.app VZ.out mN.out (fun x hx=>by have:=(HOW.out.lt x hx).1;omega) (Turns.refl _ _) VZ.out.qB HG.out (o▸how') (o▸r) ht' hn');have C4:=(ht'.block K (fun e=>by have:=(HOW.out.lt K e.symm).1;omega) (aI mN.out)).trans mN.out;obtain⟨⟨-, -, -,d3⟩,dz⟩:=bF C4;have XP:=dz 3;rw[<-o] at vp;have bW:=hid o;clear how' ht' hn' C4 dz r o Nd b3 VZ HOW mN HG ae HKL ai aj;have bk:=hid (vp.out.more (N':=N+70) aD);clear vp;rw[bW.out] at bk;go_wp2;go_meet;case rel=>exact⟨q,bV,bk⟩
         ·have rR:hI=(L:Int):=bi.out.trans n
          subst rR;clear n D aq c0;have Yb:¬(L:Int)<0:=aD
          exact Xz
       ·have mI:(t7==0)=false:=tH aQ
        clear aQ;go_wp2;go_meet;case rel=>exact⟨[],hid (.inl rfl),hid (by rw[zxp];exact P.out.more aD)⟩
      case rest=>
       obtain⟨q,HQ,Q⟩:=hcut;clear P;obtain⟨H,E,I,i,d,u, -⟩:=Q.out.box;obtain⟨b0,b1,b2,b3⟩:=b4z d;obtain⟨⟨r0,r1,r2,r3⟩,rz⟩:=bF Q.out.res;have bl:=Ko Q.out.res (.string (aC.cZ ks.length)) (.int .i64 lo) (.int .i64 hi) (.slice H E I);have SA:=hid bl;have HOW:=hid u;have aw:Hid (w.heap.size<K):=hid Q.out.ge;clear bl i d u;go_wp2;refine bodyPost_ret (SK SA.out.1 rfl) rfl ⟨ks',⟨aC.cZ ks.length,lo,hi,fs++q⟩,.slice H E I,rfl,?_,?_,?_,?_,?_⟩
       ·exact⟨bm,rfl,aX,HI.out.1,by have:=HI.out.2;show hi<=20;omega,hs,y,p,q,bb.out,bI.out,HP.out,by have:=HQ.out;rw[HFS.out,be.out] at this;exact this,by rw[HFS.out,be.out]⟩
       ·exact dx.keep (HOW.out.sl bQ (T:=fun x=>w.heap.size<x) (fun x _ h=>by have:=aw.out;have h9:K<x:=h;show w.heap.size<x;omega) (fun x hx=>by have:=(HOW.out.lt x hx).1;have:=aw.out;show w.heap.size<x;omega)) (aH.eX SA.out.2 (fun x hx e=>by have h9:w.heap.size<x:=hx;omega))|>.mono (fun x _ h=>by have h9:w.heap.size<x:=h;show _<=x;omega)
       ·refine(Q.out.own.keep dF (aH.eX SA.out.2 (fun x hx e=>?_))).QB dF (fun x _ hx=>hx.2.elim (fun h=>.inl h.1) (fun h1=>.inr (by
         obtain⟨_,_,_,_,_,_,h2⟩:=Q.out.box
         have:=(h2 x h1).1
         have:=aw.out
         omega)))
        rcases hx with hx|hx
        ·rcases hx.2 with⟨-,h1⟩|h1
         ·omega
         ·obtain⟨_,_,_,_,_,_,h2⟩:=Q.out.box
          have:=(h2 x h1).1;have:=aw.out;omega
        ·have:=(Q.out.kb x hx).2;omega
       ·exact(Q.out.qB.mono aD).keep (aH.eX SA.out.2 (fun x hx e=>by have:=Q.out.lb;omega))
       ·exact Q.out.turn.into SA.out.2 (fun x hx e=>by omega)
end Go.Proofs.YtohddpbgflgiaaaGreatDoor
