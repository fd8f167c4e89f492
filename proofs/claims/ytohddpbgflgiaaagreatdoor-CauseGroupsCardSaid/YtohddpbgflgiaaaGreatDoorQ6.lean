/- Part 6 of the walks and plain laws that the proof needs (packed). -/
import Derived.Deep.DeepCutAuto
import Derived.Deep.LoopGhost
import Derived.Test.YtohddpbgflgiaaaGreatDoorQ1
import Derived.Test.YtohddpbgflgiaaaGreatDoorQ4
import Derived.Test.YtohddpbgflgiaaaGreatDoorQ5
set_option linter.all false
set_option maxRecDepth 100000
set_option maxHeartbeats 8000000
open Go.Proofs.Tryz
variable{p:Prop}
namespace Go.Proofs.YtohddpbgflgiaaaGreatDoor
open Go.RowKit
def aiU(r:aC.Rul):Array Value:=#[.string r.name,.string r.kind,.string r.a,.string r.b,.int .i64 r.n]
def aiV(b N:Nat)(k:aC.fT)(w:World)(e:Ending)(w':World):Prop:=
 (∃r bd,e=.returned (.tuple #[.agg (aiU r),.bool bd])/\(bd=true->aC.CJ k r))/\jl w' b (N+5)/\Turns (·=b) w w'
theorem vq{w:World}{g:Nat}{b c d e f bd:Value}{a:Array Value}(h:w.heap[g]?=some (.cells #[b,c,d,e,f] 61 (0,0)))(i:a[4]?=some (.pointer (some ⟨g,0,none⟩)))(j:a[5]?=some bd):
  (results Tryz.f18 a).run prog w=.ok (.tuple #[.agg #[b,c,d,e,f],bd]) w:=by
 obtain⟨⟨k,l,m,n,o⟩, -⟩:=nO h;simp[results,results18,go_sem,i,j,k,l,m,n,o]
theorem Ym(b N:Nat)(hN:N<=80000)(w:World)(hm:jl w b N)(k:aC.fT)(uf:Value)(hf:dx (fun x=>b<x) w uf k.aF)(hs:∀f∈k.aF,aC.iI f)(hn:1<=k.name.size):
  CP 18 #[.pointer (some ⟨b,0,none⟩),.agg (kH k uf).toArray] w (aiV b N k w):=by
 obtain⟨M,O,rfl,ah, -, -⟩:=hf.form;obtain⟨c,lo,hi,fs⟩:=k;simp only at hf hs hn ah;have HM:=hid hm;have HS:=hid hs;have Nf:b<w.heap.size:=hm.lt;obtain⟨B,s⟩:=bJ ((w.alloc (.cells #[.string c,.int .i64 lo,.int .i64 hi,.slice M fs.length O] 53)).alloc (.cells #[.string {data:=#[]},.string {data:=#[]},.string {data:=#[]},.string {data:=#[]},.int .i64 0] 61));have E:Hid (Below w.heap.size w B):=hid (by rw[s];exact(aG.alloc aL _).alloc bH _);have R:Hid (B.heap[w.heap.size]?=some (.cells #[.string c,.int .i64 lo,.int .i64 hi,.slice M fs.length O] 53 (0,0))):=hid (by rw[s];exact cC _ (bD w _ rfl));have HR:Hid (B.heap[w.heap.size+1]?=some (.cells #[.string aC.nil,.string aC.nil,.string aC.nil,.string aC.nil,.int .i64 0] 61 (0,0))):=hid (by rw[s];exact bD _ _ bH);have HF:Hid (dx (fun x=>b<x) B (.slice M fs.length O) fs):=hid (hf.keep (aH.below E.out));have JQ:Hid (jl B b N):=hid (hm.keep (aH.below E.out));obtain⟨⟨k0, -, -,k3⟩, -⟩:=bF R.out;obtain⟨i1,F⟩:=bJ (aC.Fh fs aC.nT);obtain⟨i2,G⟩:=bJ (aC.Fh fs aC.jJ);have H1:=hid (Cm fs aC.nT (.slice M fs.length O) (fun x=>b<x) B HF.out);have H2:=hid (Cm fs aC.jJ (.slice M fs.length O) (fun x=>b<x) B HF.out);rw[<-F] at H1;rw[<-G] at H2;have ai:=hid F;have C:=hid G;have d:w.heap.size≠b:=aD
 have g:w.heap.size+1≠b:=aD
 simp only[kH];clear hm hf hs F G;go_enter func18,ntmps18;go_upto_region 1 with fail;rw[<-s];have HW:=hid s;clear s;go_wp2_with fail;refine H1.out.mono ?_;rintro e w' ⟨rfl,rfl⟩;go_wp2_with fail;refine H2.out.mono ?_;rintro e w' ⟨rfl,rfl⟩;go_upto_region 3 with fail;go_cut [21] from 15 to 21 (fun q wx=>∃bd:Bool,q=.bool bd/\Hid (bd=true->0<=i1)/\Hid (RG b B [] wx)/\Hid (jl wx b (N+1)))
 case first=>
  by_cases aj:0<=i1
  ·have HX:=hid aj
   go_wp2_with fail;refine(bX 3 aD aD b N aD _ JQ.out).mono ?_;rintro e W2 ⟨t,rfl,Ky,Kz,U,V, -⟩;have m:=hid ((RG.refl b B).take (by have:=E.out.size;omega) V);have P:=hid U;clear U V;go_wp2;go_meet;case rel=>exact⟨_,rfl,hid (fun _=>HX.out),m,P⟩
  ·go_wp2
   go_meet;case rel=>exact⟨false,rfl,hid (fun h=>by cases h),hid (RG.refl b B),hid (JQ.out.mono aD)⟩
 case rest=>
  obtain⟨bd,rfl,ak,m,P⟩:=hcut;have Q:Hid (b<wc.heap.size):=hid P.out.lt;have c0:wc.cell? ⟨w.heap.size,0,none⟩=some (.string c):=(bF (m.out.block d R.out)).1.1;have c3:wc.cell? ⟨w.heap.size,3,none⟩=some (.slice M fs.length O):=(bF (m.out.block d R.out)).1.2.2.2;have ap:(1:Int)<=c.size:=aD
  clear k0 k3;cases bd with
  |true=>
   have HX:=hid (ak.out rfl)
   go_upto_region 4 with fail
   have r:=hid (RG.start b wc)
   have u:=hid (P.out.keep (aH.below (aJ aG 1)))
   obtain⟨V0,D⟩:=bJ (wc.drewN 1)
   refine bq 9 (.quiet 0 (.quiet 1 (.quiet 2 (.quiet 3 (.quiet 4 (.quiet 5 (.quiet 6 (.one 7 (.quiet 8 .done))))))))) (RG b wc []) nK zK r.out ?_
   rw[<-D] at r u ⊢
   clear D
   refine gF ?_
   refine zzR ⟨w.heap.size,0,none⟩ (.string c) (fun n=>RG.old n d c0) ?_
   iterate 3 refine gF ?_
   refine zzR ⟨w.heap.size,0,none⟩ (.string c) (fun n=>RG.old n d c0) ?_
   refine gF ?_
   refine aZ rfl ?_
   go_wp2_with fail
   refine(bX 8 aD aD b (N+1) aD _ u.out).mono ?_
   rintro e V1 ⟨i,rfl,jT,oe,j,l, -⟩
   have H:=hid (r.out.take Q.out l)
   have W:=hid j
   clear j l r u
   go_wp2
   refine aN (RG b wc []) (fun _ h=>h) H.out ?_
   refine bC rfl ?_
   intro hne
   have hq:IntKind.i64.wrap (i-2)=i-2:=IntWalk.i64_in _ aD
   go_big_quiet_step (fail)
   refine iU ?_
   clear hne hq
   refine bG ?_
   try simp only[jW,jH]
   have o:=H.out.block g (m.out.block g HR.out)
   have v:=abD o (.string (aC.QE++c.extract 0 1)) (.string c) (.string aC.nT) (.string aC.mY) (.int .i64 (i-2))
   obtain⟨⟨z0,z1,z2,z3,z4⟩,zf⟩:=nO o
   have p:=hid v
   clear o v
   go_wp2
   refine bodyPost_ret (vq p.out.1 rfl rfl) rfl ⟨⟨⟨aC.QE++c.extract 0 1,c,aC.nT,aC.mY,i-2⟩,true,rfl,fun _=>.inl ⟨i-2,aD,aD,by have:=HX.out;rw[ai.out] at this;exact this,rfl⟩⟩,?_,?_⟩
   ·exact(W.out.mono aD).keep (aH.iJ p.out.2 (fun x hx e=>by omega))
   ·exact(((Turns.bg E.out).trans m.out.turn).trans H.out.turn).into p.out.2 (fun x hx e=>by omega)
  |false=>
   rcases aC.jS (fun f:aC.dA=>decide (f.name=aC.jJ)) fs with⟨y, -⟩|⟨X,al,y, -, -⟩
   ·have rR:i2= -1:=C.out.trans y
    subst rR;clear y;have o:=m.out.block g HR.out;have v:=abD o (.string aC.nil) (.string aC.nil) (.string aC.nil) (.string aC.nil) (.int .i64 0);obtain⟨⟨z0,z1,z2,z3,z4⟩,zf⟩:=nO o;have p:=hid v;clear o v;go_wp2;refine bodyPost_ret (vq p.out.1 rfl rfl) rfl ⟨⟨⟨aC.nil,aC.nil,aC.nil,aC.nil,0⟩,false,rfl,fun h=>by cases h⟩,?_,?_⟩
    ·exact(P.out.mono aD).keep (aH.iJ p.out.2 (fun x hx e=>by omega))
    ·exact((Turns.bg E.out).trans m.out.turn).into p.out.2 (fun x hx e=>by omega)
   ·have rR:i2=(X:Int):=C.out.trans y
    have HX:Hid (0<=i2):=hid aD;subst rR;clear y;have Yb:¬(X:Int)<0:=aD
    have an:(X:Int)<fs.length:=aD
    have ao:(0:Int)<=X:=aD
    have hF:=HF.out.keep (aH.iJ m.out.turn (fun x hx e=>by have:b<x:=hx;omega));obtain⟨-,am,f0,f1,f2,f3,f4,f5,uw,ug,f6,f7,Y,Z⟩:=hF.at al;obtain⟨aw,cw,rfl, -, -, -⟩:=Y.form;obtain⟨ag,cg,rfl, -, -, -⟩:=Z.form;obtain⟨a,BQ⟩:=bJ (fs[X]);have vX:aC.iI a:=by rw[BQ];exact HS.out _ (eV _)
    obtain⟨s1,s2,s3,s4⟩:=vX;rw[<-BQ] at f0 f1 f2 f3 f4 f5 f6 f7;clear hF BQ Y Z am;go_upto_region 8 with fail;obtain⟨W3,z⟩:=bJ (wc.alloc (.cells #[.string a.name,.string a.of,.string a.up,.int .i64 a.kind,.int .i64 a.lo,.int .i64 a.hi,.slice aw a.cV.length cw,.slice ag a.bY.length cg] 85));have aa:Hid (Turns (·=b) wc W3):=hid (by rw[z];exact(Turns.refl _ _).alloc _);have Cn:Hid (W3.heap[wc.heap.size]?=some (.cells #[.string a.name,.string a.of,.string a.up,.int .i64 a.kind,.int .i64 a.lo,.int .i64 a.hi,.slice aw a.cV.length cw,.slice ag a.bY.length cg] 85 (0,0))):=hid (by rw[z];exact bD wc _ rfl);have ab:Hid (jl W3 b (N+1)):=hid (P.out.keep (aH.iJ (S:=fun x=>x<=b) (T:=fun x=>wc.heap.size<=x) (by rw[z];exact Turns.bg (aG.alloc aL _)) (fun x hx e=>by have:=Q.out;omega)));rw[<-z];clear z f0 f1 f2 f3 f4 f5 f6 f7;go_wp2_with fail;refine(bX 2 aD aD b (N+1) aD _ ab.out).mono ?_;rintro e A ⟨t,rfl,Ky,Kz,VX,tT, -⟩;have Iy:Hid (Turns (·=b) wc A):=hid (aa.out.trans tT);have Wg:wc.heap.size≠b:=by have:=Q.out;omega
    have ad:=(tT.block wc.heap.size Wg (aI Cn.out)).trans Cn.out;obtain⟨⟨-, -, -, -,g4,g5, -, -⟩, -⟩:=ez ad;have vw:=hid ((Iy.out.block (w.heap.size+1) g (aI (m.out.block g HR.out))).trans (m.out.block g HR.out));have c0:A.cell? ⟨w.heap.size,0,none⟩=some (.string c):=(bF ((Iy.out.block w.heap.size d (aI (m.out.block d R.out))).trans (m.out.block d R.out))).1.1;have I:=hid VX;have Q:Hid (b<A.heap.size):=hid I.out.lt;clear VX tT ad aa Cn ab;by_cases J:t=0
    ·subst J
     go_upto_region 9 with fail;have r:=hid (RG.start b A);have u:=hid (I.out.keep (aH.below (aJ aG 1)));obtain⟨V0,D⟩:=bJ (A.drewN 1);refine bq 11 (.quiet 0 (.quiet 1 (.quiet 2 (.quiet 3 (.quiet 4 (.quiet 5 (.quiet 6 (.quiet 7 (.quiet 8 (.one 9 (.quiet 10 .done))))))))))) (RG b A []) nK zK r.out ?_;rw[<-D] at r u ⊢;clear D;refine gF ?_;refine zzR ⟨w.heap.size,0,none⟩ (.string c) (fun n=>RG.old n d c0) ?_
     iterate 3 refine gF ?_
     refine zzR ⟨w.heap.size,0,none⟩ (.string c) (fun n=>RG.old n d c0) ?_;refine gF ?_;refine zzR ⟨wc.heap.size,4,none⟩ (.int .i64 a.lo) (fun n=>RG.old n Wg g4) ?_;refine gF ?_;refine aZ rfl ?_;go_wp2_with fail;refine(bX 12 aD aD b (N+2) aD _ u.out).mono ?_;rintro e V2 ⟨i,rfl,jT,oe,j,l, -⟩;have K:=hid (r.out.take Q.out l);have ae:=hid j;clear j l r u;go_wp2;refine aN (RG b A []) (fun _ h=>h) K.out ?_;refine bC rfl ?_;intro hne;have hq:IntKind.i64.wrap (a.lo+i)=a.lo+i:=IntWalk.i64_in _ aD;go_big_quiet_step (fail);refine iU ?_;clear hne hq;refine bG ?_;try simp only[jW,jH]
     have o:=K.out.block g (vw.out);have v:=abD o (.string (aC.QF++c.extract 0 1)) (.string c) (.string aC.jJ) (.string aC.nil) (.int .i64 (a.lo+i));obtain⟨⟨z0,z1,z2,z3,z4⟩,zf⟩:=nO o;have p:=hid v;clear o v;go_wp2;refine bodyPost_ret (vq p.out.1 rfl rfl) rfl ⟨⟨⟨aC.QF++c.extract 0 1,c,aC.jJ,aC.nil,a.lo+i⟩,true,rfl,fun _=>.inr ⟨a.lo+i,aD,aD,by have:=HX.out;rw[C.out] at this;exact this,.inl rfl⟩⟩,?_,?_⟩
     ·exact(ae.out.mono aD).keep (aH.iJ p.out.2 (fun x hx e=>by omega))
     ·exact(((Turns.bg E.out).trans m.out.turn).trans ((Iy.out).trans K.out.turn)).into p.out.2 (fun x hx e=>by omega)
    ·have aq:(t==0)=false:=tH J
     clear J;go_upto_region 10 with fail;have r:=hid (RG.start b A);have u:=hid (I.out.keep (aH.below (aJ aG 1)));obtain⟨V0,D⟩:=bJ (A.drewN 1);refine bq 11 (.quiet 0 (.quiet 1 (.quiet 2 (.quiet 3 (.quiet 4 (.quiet 5 (.quiet 6 (.quiet 8 (.quiet 9 (.one 7 (.quiet 10 .done))))))))))) (RG b A []) nK zK r.out ?_;rw[<-D] at r u ⊢;clear D;refine gF ?_;refine zzR ⟨w.heap.size,0,none⟩ (.string c) (fun n=>RG.old n d c0) ?_
     iterate 3 refine gF ?_
     refine zzR ⟨w.heap.size,0,none⟩ (.string c) (fun n=>RG.old n d c0) ?_
     iterate 2 refine gF ?_
     refine zzR ⟨wc.heap.size,5,none⟩ (.int .i64 a.hi) (fun n=>RG.old n Wg g5) ?_;refine aZ rfl ?_;go_wp2_with fail;refine(bX 12 aD aD b (N+2) aD _ u.out).mono ?_;rintro e V3 ⟨i,rfl,jT,oe,j,l, -⟩;have L:=hid (r.out.take Q.out l);have af:=hid j;clear j l r u;go_wp2;refine aN (RG b A []) (fun _ h=>h) L.out ?_;refine bC rfl ?_;intro hne;have hq:IntKind.i64.wrap (i-a.hi)=i-a.hi:=IntWalk.i64_in _ aD;go_big_quiet_step (fail);refine iU ?_;clear hne hq;refine bG ?_;try simp only[jW,jH]
     have o:=L.out.block g (vw.out);have v:=abD o (.string (aC.Iw++c.extract 0 1)) (.string c) (.string aC.nil) (.string aC.jJ) (.int .i64 (i-a.hi));obtain⟨⟨z0,z1,z2,z3,z4⟩,zf⟩:=nO o;have p:=hid v;clear o v;go_wp2;refine bodyPost_ret (vq p.out.1 rfl rfl) rfl ⟨⟨⟨aC.Iw++c.extract 0 1,c,aC.nil,aC.jJ,i-a.hi⟩,true,rfl,fun _=>.inr ⟨i-a.hi,aD,aD,by have:=HX.out;rw[C.out] at this;exact this,.inr rfl⟩⟩,?_,?_⟩
     ·exact(af.out.mono aD).keep (aH.iJ p.out.2 (fun x hx e=>by omega))
     ·exact(((Turns.bg E.out).trans m.out.turn).trans ((Iy.out).trans L.out.turn)).into p.out.2 (fun x hx e=>by omega)
theorem Tryz.afQ:kF prog 23 53 4 56:=jV (z:=.agg #[.string ⟨#[]⟩,.int .i64 0,.int .i64 0,.slice none 0 0]) zK zK rfl aD aD
theorem Tryz.afR:kF prog 24 58 3 64:=jV (z:=.agg #[.string ⟨#[]⟩,.slice none 0 0,.slice none 0 0]) zK zK rfl aD aD
theorem Tryz.afS:kF prog 25 61 5 72:=jV (z:=.agg #[.string ⟨#[]⟩,.string ⟨#[]⟩,.string ⟨#[]⟩,.string ⟨#[]⟩,.int .i64 0]) zK zK rfl aD aD
theorem Tryz.NR:kF prog 56 59 2 16:=jV (z:=.agg #[.int .i64 0,.int .i64 0]) zK zK rfl aD aD
theorem ama(h:p:=by
  obtain⟨u,hu,hr⟩:=h5 j aD
  exact⟨u,hu,by rw[List.getElem_take];exact hr⟩):p:=h
theorem eA.take{α:Type}{R:World->Value->α->Prop}{S:Nat->Prop}{w:World}{a:Option Addr}{n c:Nat}{xs:List α}(h:eA R S w (.slice a n c) xs){m:Nat}(k:m<=xs.length):eA R S w (.slice a m c) (xs.take m):=by
 obtain⟨l,o,b,d,p,e,f,h5⟩:=h;cases b;have g:(xs.take m).length=m:=Qt
 refine⟨a,c,by rw[g],fun i=>d aD,aD,e,fun i=>f aD,fun j q=>?_⟩;exact ama
structure SS(b N X:Nat)(ver:Int)(w0:World)(vK:Value)(ks:List aC.fT)(W:World):Prop where
 qB:jl W b N
 own:dX 4 Fj (fun x=>b<x/\x≠X) (X+1) 53 W vK ks
 res:W.heap[w0.heap.size]?=some (.cells #[.int .i64 0,.slice none 0 0,.slice none 0 0,.slice none 0 0] 27 (0,0))
 below:BL w0 W
 rb:w0.heap.size<b
 bx:b<X
theorem SS.grow{b N N' X:Nat}{a:Int}{w0 W W':World}{d:Value}{ks:List aC.fT}(h:SS b N X a w0 d ks W)(c:Turns (·=b) W W')(f:jl W' b N'):SS b N' X a w0 d ks W':=by
 have g:=h.rb;have i:=h.bx;have j:=h.below.size;refine⟨f,h.own.keep dF (aH.iJ c (fun x hx e=>?_)),?_,h.below.trans (c.below j (fun x hx=>by omega)),g,i⟩
 ·rcases hx with hx|hx
  ·have:=hx.1;omega
  ·have:=(h.own.lt x hx).1;omega
 ·rw[c.block _ alN (aI h.res)];exact h.res
theorem abL{S:Nat->Prop}{w:World}{k:aC.fT}{b:Value}(h:dx S w b k.aF):∀u∈kH k b,u.oneCell'=true:=by
 obtain⟨a,c,rfl, -⟩:=h.form;intro u d;simp only[kH,mr,Na,or_false] at d;rcases d with rfl|rfl|rfl|rfl<;>rfl
structure SX(b N X Lf St q:Nat)(xc:Array Value)(Wo:World)(mv:List (Int×Int))(am:Option Addr)(cm:Nat)(W:World):Prop where
 qB:jl W b N
 turn:Turns (fun x=>x=b\/x=X) Wo W
 vY:W.heap[X]?=some (.cells xc 27 (0,0))
 sts:W.heap[St]?=some (.cells (aC.rQ.map Value.string).toArray 9 (0,0))
 box:W.heap[Lf]?=some (.cells #[.string aC.sP,.slice (some ⟨St,0,none⟩) q 4,.slice am mv.length cm] 58 (0,0))
 own:dX 2 abF (fun _=>False) (Lf+1) 59 W (.slice am mv.length cm) mv
 rng:∀m∈mv,0<=m.1/\m.1<q/\0<=m.2/\m.2<q
 bl:b<X
 xl:X<Wo.heap.size
 sl:Wo.heap.size<=St
 ll:St<Lf
theorem ana(h:p:=by
  rcases hx with hx|hx
  ·exact hx
  ·have:=(h.own.lt x hx).1;omega):p:=h
theorem SX.grow{b N N' X c St q:Nat}{d:Array Value}{f W W':World}{mv:List (Int×Int)}{g:Option Addr}{i:Nat}(h:SX b N X c St q d f mv g i W)(a:Turns (·=b) W W')(j:jl W' b N'):SX b N' X c St q d f mv g i W':=by
 have k:=h.bl;have l:=h.xl;have m:=h.sl;have n:=h.ll;refine⟨j,h.turn.trans (a.mono fun x _ e=>.inl e),?_,?_,?_,h.own.keep fW (aH.iJ a (fun x hx e=>?_)),h.rng,k,l,m,n⟩
 ·rw[a.block _ alN (aI h.vY)];exact h.vY
 ·rw[a.block _ alN (aI h.sts)];exact h.sts
 ·rw[a.block _ alN (aI h.box)];exact h.box
 ·exact ana
theorem SX.app{b N X a St q:Nat}{p:Array Value}{r W V:World}{mv:List (Int×Int)}{i d:Option Addr}{j k f:Nat}(h:SX b N X a St q p r mv i j W){m:Int×Int}(s:0<=m.1/\m.1<q/\0<=m.2/\m.2<q)
  (how:dX 2 abF (fun _=>False) (a+1) 59 V (.slice d k f) (mv++[m]))(t:k=(mv++[m]).length)(l:Turns (fun x=>some x=(Value.slice i mv.length j).ownBlock) W V):
  SX b N X a St q p r (mv++[m]) d f (V.setCell ⟨a,2,none⟩ (.slice d k f)):=by
 subst t;have u:=h.bl;have v:=h.xl;have w:=h.sl;have z:=h.ll;have n:∀x,some x=(Value.slice i mv.length j).ownBlock->a<x:=fun x e=>by have:=(h.own.lt x e.symm).1;omega
 have g:∀x,x≠a->(V.setCell ⟨a,2,none⟩ (.slice d (mv++[m]).length f)).heap[x]?=V.heap[x]?:=fun x hx=>mO _ _ _ _ hx;have o:∀x,x<=a->x<W.heap.size->V.heap[x]?=W.heap[x]?:=fun x hx A=>l.block x (fun e=>by have:=n x e;omega) A;refine⟨(h.qB.keep (l.keep (fun x hx e=>by have:=n x e;omega))).keep (fun x hx _=>g x aD),?_,?_,?_,?_,?_,fun y c=>?_,u,v,w,z⟩
 ·exact(h.turn.into l (fun x hx e=>by have:=n x e;omega)).setCell_new _ _ (by show _<=a;omega)
 ·exact(g _ aD).trans ((o _ aD (aI h.vY)).trans h.vY)
 ·exact(g _ aD).trans ((o _ aD (aI h.sts)).trans h.sts)
 ·exact heap_setCell_same V a 2 _ _ _ ((o _ aD (aI h.box)).trans h.box)
 ·exact how.keep fW (fun x hx _=>g x (by
   rcases hx with hx|hx
   ·exact hx.elim
   ·have:=(how.lt x hx).1;omega))
 ·rcases zxx.1 c with c|c
  ·exact h.rng y c
  ·rw[nL.1 c];exact s
theorem IK{x y:Int}:∀u∈[Value.int .i64 x,.int .i64 y],u.oneCell'=true:=by
 intro u a;simp only[mr,Na,or_false] at a;rcases a with rfl|rfl<;>rfl
theorem SY{w:World}{F:Nat}{a b c:Value}{t:TypeId}(h:w.heap[F]?=some (.cells #[a,b,c] t (0,0))):
  (w.cell? ⟨F,0,none⟩=some a/\w.cell? ⟨F,1,none⟩=some b/\w.cell? ⟨F,2,none⟩=some c)/\∀i,w.frozen? ⟨F,i,none⟩=false:=
 ⟨⟨aP h 0,aP h 1,aP h 2⟩,fM h⟩
theorem abM{s:aC.Nm}{a1 b:Option Addr}{n1 c c1 c2:Nat}:∀u∈[Value.string s,.slice a1 n1 c1,.slice b c c2],u.oneCell'=true:=by
 intro u a;simp only[mr,Na,or_false] at a;rcases a with rfl|rfl|rfl<;>rfl
structure RS(b N X:Nat)(Wo W8:World)(ver vK vL:Value)(lf:aC.Iu)(ks:List aC.fT)(j:Nat)(ar:Option Addr)(cr:Nat)(rs:List aC.Rul)(W:World):Prop where
 qB:jl W b N
 turn:Turns (fun x=>x=b\/x=X) Wo W
 vY:W.heap[X]?=some (.cells #[ver,vK,vL,.slice ar rs.length cr] 27 (0,0))
 life:o6 (fun x=>Wo.heap.size<=x/\x<W8.heap.size) W vL [lf]
 own:dX 5 abG (fun _=>False) W8.heap.size 61 W (.slice ar rs.length cr) rs
 ok:aC.p8 ks j rs
 bl:b<X
 xl:X<Wo.heap.size
 wl:Wo.heap.size<=W8.heap.size
 wsz:W8.heap.size<=W.heap.size
theorem RS.grow{b N N' X:Nat}{d f W W':World}{a g i:Value}{lf:aC.Iu}{ks:List aC.fT}{j:Nat}{k:Option Addr}{l:Nat}{rs:List aC.Rul}(h:RS b N X d f a g i lf ks j k l rs W)(c:Turns (·=b) W W')(m:jl W' b N'):
  RS b N' X d f a g i lf ks j k l rs W':=by
 have n:=h.bl;have o:=h.xl;have p:=h.wl;refine⟨m,h.turn.trans (c.mono fun x _ e=>.inl e),?_,fC.keep dG h.life (aH.iJ c (fun x hx e=>by have:=hx.1;omega)),h.own.keep fO (aH.iJ c (fun x hx e=>?_)),h.ok,n,o,p,zxb h.wsz c.size⟩
 ·rw[c.block _ alN (aI h.vY)];exact h.vY
 ·exact ana
theorem RS.skip{b N X:Nat}{c d W:World}{a e f:Value}{lf:aC.Iu}{ks:List aC.fT}{j:Nat}{g:Option Addr}{i:Nat}{rs:List aC.Rul}(h:RS b N X c d a e f lf ks j g i rs W):RS b N X c d a e f lf ks (j+1) g i rs W:=
 {h with ok:=.skip j rs h.ok}
theorem RS.app{b N X:Nat}{q d W V:World}{a m n:Value}{lf:aC.Iu}{ks:List aC.fT}{j:Nat}{f g:Option Addr}{i o k:Nat}{rs:List aC.Rul}(h:RS b N X q d a m n lf ks j f i rs W)(s:j<ks.length){r:aC.Rul}(t:aC.CJ ks[j] r)
  (how:dX 5 abG (fun _=>False) d.heap.size 61 V (.slice g o k) (rs++[r]))(u:o=(rs++[r]).length)(c:Turns (fun x=>some x=(Value.slice f rs.length i).ownBlock) W V):
  RS b N X q d a m n lf ks (j+1) g k (rs++[r]) (V.setCell ⟨X,3,none⟩ (.slice g o k)):=by
 subst u;have v:=h.bl;have w:=h.xl;have y:=h.wl;have l:∀x,some x=(Value.slice f rs.length i).ownBlock->d.heap.size<=x:=fun x e=>(h.own.lt x e.symm).1;have p:∀x,x≠X->(V.setCell ⟨X,3,none⟩ (.slice g (rs++[r]).length k)).heap[x]?=V.heap[x]?:=fun x hx=>mO _ _ _ _ hx;refine⟨(h.qB.keep (c.keep (fun x hx e=>by have:=l x e;omega))).keep (fun x hx _=>p x aD),?_,?_,?_,?_,.take j rs r s h.ok t,v,w,y,?_⟩
 ·exact(h.turn.into c (fun x hx e=>by have:=l x e;omega)).trans (((Turns.refl (·=X) V).setCell ⟨X,3,none⟩ _ rfl).mono fun x _ e=>.inr e)
 ·exact heap_setCell_same V X 3 #[a,m,n,.slice f rs.length i] _ _ ((c.block X (fun e=>by have:=l X e;omega) (aI h.vY)).trans h.vY)
 ·exact fC.keep dG (fC.keep dG h.life (c.keep (fun x hx e=>by have:=l x e;have:=hx.2;omega))) (fun x hx _=>p x (by have:=hx.1;omega))
 ·exact how.keep fO (fun x hx _=>p x (by
   rcases hx with hx|hx
   ·exact hx.elim
   ·have:=(how.lt x hx).1;omega))
 ·have:=c.size;have:=h.wsz;simp only[World.size_setCell];omega
theorem abN{a b c d:aC.Nm}{n:Int}:∀u∈[Value.string a,.string b,.string c,.string d,.int .i64 n],u.oneCell'=true:=by
 intro u e;simp only[mr,Na,or_false] at e;rcases e with rfl|rfl|rfl|rfl|rfl<;>rfl
theorem Bb{w:World}{g:Nat}{x y z u:Value}{a:Array Value}(h:w.heap[g]?=some (.cells #[x,y,z,u] 27 (0,0)))(b:a[2]?=some (.pointer (some ⟨g,0,none⟩))):
  (results Tryz.f5 a).run prog w=.ok (.agg #[x,y,z,u]) w:=by
 obtain⟨c,d,e,f⟩:=b4z h;simp[results,results5,go_sem,b,c,d,e,f]
def Q5(w:World)(e:Ending)(w':World):Prop:=∃v x,e=.returned v/\aC.F7 x/\dO (w.heap.size<=·) w' v x/\BL w w'
theorem Yw(h:p:=by
  rw[<-xG] at hLS
  have h6L:=(ht.block Lf (fun e=>by have:=(HL.out.own.lt Lf e.symm).1;omega) (aI HL.out.box)).trans HL.out.box
  obtain⟨⟨-, -,d2⟩,dz⟩:=SY h6L
  have dz2:=dz 2
  have f9:=hid hl2
  clear how ht hn h6L dz xG hl2 lz l2
  go_wp2
  go_meet
  case rel=>exact⟨mv2,a',c',hid afl,hLS⟩):p:=h
theorem Zh(h:p:=by
  have hb0:(t==0)=false:=tH ht0
  clear ht0
  go_wp2
  go_meet
  case rel=>exact⟨mv,am,cm,hid aD,HL⟩):p:=h
theorem al9(h:p:=by
  clear hc hRz
  go_wp2
  refine bodyPost_ret (Bb SA.out.1 rfl) rfl KR.out):p:=h
theorem NS(L:List Int)(hL:Fit L)(v:Value)(w:World)(hv:bB dr w v L):
  CP 5 #[v] w (Q5 w):=by
 obtain⟨a,cap,rfl,bj,bh,bi⟩:=hv.form;have HV:=hid hv;have HL:=hid hL;clear hv hL;go_enter func5,ntmps5;go_upto_region 1 with fail;go_cut [3] from 3 to 19 (fun p V=>∃b,p=.pointer (some ⟨b,0,none⟩)/\Hid (b=w.heap.size+1)/\Hid (jl V b 0)/\Hid (V.heap[w.heap.size]?=some (.cells #[.int .i64 0,.slice none 0 0,.slice none 0 0,.slice none 0 0] 27 (0,0)))/\Hid (V.heap.size=w.heap.size+2)/\Hid (BL w V))
 case first=>
  have HX:Hid (∀n,n<=L.length->jl ((w.alloc (.cells #[.int .i64 0,.slice none 0 0,.slice none 0 0,.slice none 0 0] 27)).alloc (.cells #[.slice a n cap,.int .i64 0] 49)) (w.heap.size+1) 0):=hid (fun n hn=>
   ⟨.slice a n cap,L.take n,0,bD _ _ bH,(bB.mono (S':=fun x=>x<w.heap.size+1) (eA.take HV.out hn) (fun x hx _=>by omega)).keep (aH.below ((aG.alloc aL _).alloc bH _)),fun x hx=>HL.out x (List.mem_of_mem_take hx),aD,aD⟩)
  have HB:Hid (∀o,BL w ((w.alloc (.cells #[.int .i64 0,.slice none 0 0,.slice none 0 0,.slice none 0 0] 27)).alloc o)):=hid (fun o=>(aG.alloc aL _).alloc bH _);by_cases h:(200:Int)<L.length
  ·go_wp2
   go_meet;case rel=>exact⟨_,rfl,hid rfl,hid (HX.out 200 aD),hid (cC _ (bD w _ rfl)),hid bH,hid (HB.out _)⟩
  ·go_wp2
   go_meet;case rel=>exact⟨_,rfl,hid rfl,hid (HX.out L.length aL),hid (cC _ (bD w _ rfl)),hid bH,hid (HB.out _)⟩
 case rest=>
  obtain⟨b,rfl,Hb,HM,HR,HZ,HB⟩:=hcut;go_wp2_with fail;refine(bX 4 aD aD b 0 aD _ HM.out).mono ?_;rintro e w1 ⟨d,rfl,bk,bl,Z,aa, -⟩;have al:=Z.lt;go_upto_region 3 with fail;have Nf:=Hb.out;obtain⟨W1,A⟩:=bJ (w1.alloc (.cells #[.int .i64 d,.slice none 0 0,.slice none 0 0,.slice none 0 0] 27));have mN:Hid (W1.heap[w1.heap.size]?=some (.cells #[.int .i64 d,.slice none 0 0,.slice none 0 0,.slice none 0 0] 27 (0,0))):=hid (by rw[A];exact bD w1 _ rfl)
  have G:Hid (SS b 1 w1.heap.size d w (.slice none 0 0) [] W1):=hid (by
   have C:BL w w1:=HB.out.trans (aa.below (by have:=HZ.out;omega) (fun x hx=>by omega))
   refine⟨?_,dX.nil _ _ _ _ _ _,?_,?_,aD,al⟩
   ·rw[A];exact(Z.mono aD).keep (aH.below (aG.alloc aL _))
   ·rw[A];refine cC _ ?_
    rw[aa.block _ alN (aI HR.out)];exact HR.out
   ·rw[A];exact C.alloc C.size _)
  rw[<-A];obtain⟨X,hX⟩:=bJ w1.heap.size;rw[<-hX] at mN G ⊢;clear A hX Z aa HM HR HZ HB Nf al;go_wp2_with fail;refine(bX 3 aD aD b 1 aD _ G.out.qB).mono ?_;rintro e w2 ⟨t,rfl,Ky,Kz,an,ab, -⟩;have ao:=hid (G.out.grow ab an);have ap:Hid (w2.heap[X]?=some (.cells #[.int .i64 d,.slice none 0 0,.slice none 0 0,.slice none 0 0] 27 (0,0))):=hid ((ab.block X (by have:=G.out.bx;show ¬X=b;omega) (aI mN.out)).trans mN.out);clear an ab G mN;obtain⟨n,hn⟩:∃n:Nat,1+t=(n:Int):=⟨(1+t).toNat,aD⟩;have a4:1<=n:=aD
  have bm:n<=3:=aD
  have HN:=hid hn;clear hn;go_wp2;rw[HN.out];clear HN Ky Kz;go_loopw [6] (fun i wr=>∃c u y,i=.int .i64 ((c.length:Nat):Int)/\c.length<=n/\Hid (aC.Ck c)/\Hid (SS b (2+100*c.length) X d w (.slice u c.length y) c wr)/\Hid (wr.heap[X]?=some (.cells #[.int .i64 d,.slice u c.length y,.slice none 0 0,.slice none 0 0] 27 (0,0)))) (fun i _=>n-(intOf i).toNat);case atStart=>exact⟨[],none,0,rfl,bH,hid .nil,ao,ap⟩
  case round=>
   obtain⟨c,u,y,rfl,a5,HG,l,HX⟩:=hrel;by_cases aq:c.length<n
   ·have Yo:(c.length:Int)<n:=by omega
    have H:=l.out.bx;have hg:=HG.out.good;have au:Hid (∀k∈c,k.aF.length<=1000000):=hid (fun k hk=>by have:=(hg.2.1 k hk).len;omega);obtain⟨⟨-,x1, -, -⟩, -⟩:=bF HX.out;clear hg;go_upto_region 7 with fail;refine bq 7 (.quiet 0 (.quiet 1 (.quiet 2 (.quiet 3 (.quiet 4 (.one 5 (.one 6 .done))))))) (jX X #[.int .i64 d,.slice u c.length y,.slice none 0 0,.slice none 0 0] 27) nK zK HX.out ?_;refine gF ?_;refine zzR ⟨X,1,none⟩ (.slice u c.length y) (fun xh=>aP xh.2 1) ?_
    iterate 2 refine gF ?_
    refine zzR ⟨X,1,none⟩ (.slice u c.length y) (fun xh=>aP xh.2 1) ?_;refine aZ rfl ?_;go_wp2_with fail;refine(XB b (2+100*c.length) (X+1) aD _ (l.out.qB.keep (aH.below (aJ aG 1))) u y c aD au.out (fun x=>b<x/\x≠X) (fun x hx=>hx.1) (l.out.own.below dF (aJ aG 1)) aD).mono ?_;rintro e w3 ⟨N,k,uf,rfl,hk,D,ho,EM,O⟩;simp only[kH];have av:w3.heap[X]?=some (.cells #[.int .i64 d,.slice u c.length y,.slice none 0 0,.slice none 0 0] 27 (0,0)):=(O.block X (fun h=>h.elim (fun h=>by omega) (fun h=>by have:=(l.out.own.lt X h).1;omega)) (aI HX.out)).trans HX.out;have SZ:=hid av;have HK:=hid hk;have ho:=ho.QB dF (S':=fun x=>b<x/\x≠X) (fun x _ hx=>hx.elim id (fun h=>by have C:wr.heap.size<=x:=h;have h2:=l.out.qB.lt;have h3:=aI HX.out;exact⟨aD,aD⟩));have HO:=hid ho
    have SV:Hid (dx (fun x=>(b<x/\x≠X)/\some x≠(Value.slice u c.length y).ownBlock) w3 uf k.aF):=hid (D.mono (fun x hx h=>by
     have C:wr.heap.size<=x:=h;have h2:=l.out.qB.lt;have h3:=aI HX.out;exact⟨⟨aD,aD⟩,fun e=>by have:=(l.out.own.lt x e.symm).2;omega⟩))
    have NT:Hid (SS b (2+100*c.length+100) X d w (.slice u c.length y) N w3):=hid (by
     have C:=l.out.rb
     have h3:=l.out.below.size
     refine⟨EM,ho,?_,?_,C,H⟩
     ·rw[O.block _ (fun h=>h.elim (fun h=>by omega) (fun h=>by have:=(l.out.own.lt _ h).1;omega)) (by exact aI l.out.res)];exact l.out.res
     ·exact(aJ l.out.below 1).trans (O.below h3 (fun x hx=>hx.elim (fun h=>by omega) (fun h=>by have:=(l.out.own.lt x h).1;omega))))
    have ad:Hid (N.length=c.length):=hid hk.le.2.2;clear hk D ho EM O av x1;go_wp2;refine aN (jX X #[.int .i64 d,.slice u c.length y,.slice none 0 0,.slice none 0 0] 27) (fun _ h=>h) SZ.out ?_;refine aZ rfl ?_;go_wp2;refine aN (jX X #[.int .i64 d,.slice u c.length y,.slice none 0 0,.slice none 0 0] 27) (fun _ h=>h) (cC _ SZ.out) ?_;refine bG ?_;try simp only[jW,jH]
    go_wp2_with (at_builtin;go_must (refine d9 dF rfl _ _ rfl Tryz.afQ rfl HO.out (us:=kH k uf) rfl rfl rfl k ⟨uf,rfl,SV.out⟩ (abL SV.out) (by have:=ad.out;omega) (by have:=aI SZ.out;omega) ?_));intro v' w4 Yp tT a6;obtain⟨a',c',g, -⟩:=Yp.form;obtain⟨M,P⟩:=bJ (N++[k]);rw[<-P] at Yp g;have ae:M.length=c.length+1:=by rw[P];simp[ad.out]
    subst g;have af:=(tT.block X (fun e=>by have:=(HO.out.lt X e.symm).1;omega) (aI SZ.out)).trans SZ.out;have aw:(w4.setCell ⟨X,1,none⟩ (.slice a' M.length c')).heap[X]?=some (.cells #[.int .i64 d,.slice a' M.length c',.slice none 0 0,.slice none 0 0] 27 (0,0)):=heap_setCell_same _ X 1 _ _ _ af;have a7:=hid aw
    have BP:Hid (SS b (2+100*M.length) X d w (.slice a' M.length c') M (w4.setCell ⟨X,1,none⟩ (.slice a' M.length c'))):=hid (by
     have e1:∀x,x≠X->(w4.setCell ⟨X,1,none⟩ (.slice a' M.length c')).heap[x]?=w4.heap[x]?:=fun x hx=>mO _ _ _ _ hx
     have C:=NT.out.rb
     have h3:=NT.out.below.size
     refine⟨?_,Yp.keep dF (fun x hx aq=>e1 x ?_),?_,?_,C,H⟩
     ·exact((NT.out.qB.keep (tT.keep (fun x hx e=>by have:=(HO.out.lt x e.symm).1;omega))).keep (fun x hx _=>e1 x aD)).mono (by rw[ae];omega)
     ·rcases hx with hx|hx
      ·exact hx.2
      ·have:=(Yp.lt x hx).1;omega
     ·exact(e1 _ aD).trans ((tT.block _ (fun e=>by have:=(HO.out.lt _ e.symm).1;omega) (aI NT.out.res)).trans NT.out.res)
     ·exact(NT.out.below.trans (tT.below h3 (fun x hx=>by have:=(HO.out.lt x hx.symm).1;omega))).setCell (by show _<=X;omega) _)
    have a8:Hid (aC.Ck M):=hid (by rw[P];exact .snoc c N k HG.out HK.out);obtain⟨⟨-,d1, -, -⟩,dz⟩:=bF af;have bn:=dz 1;have kJ:=hid ae;clear Yp tT a6 P af aw dz ae HO SV NT ad au HK HG l HX;go_wp2;go_roundw;case rel=>exact⟨M,a',c',by rw[kJ.out];go_num,by have:=kJ.out;omega,a8,BP,a7⟩
    exact zI
   ·have Yo:¬(c.length:Int)<n:=by omega
    have ax:n=c.length:=aD
    subst ax;clear a5 aq Yo;obtain⟨s,rfl⟩:=bJ wr;have H:=l.out.bx;have Yq:=aI HX.out;go_wp2_with fail;refine(bX 3 aD aD b (2+100*c.length) aD _ (l.out.qB.keep (aH.below (aG.alloc aL _)))).mono ?_;rintro e w5 ⟨t,rfl,Ky,Kz,NG,A1, -⟩;obtain⟨q0,rfl⟩:∃q0:Nat,t=(q0:Int):=⟨t.toNat,aD⟩;obtain⟨xc,ay⟩:=bJ (#[.int .i64 d,.slice u c.length y,.slice none 0 0,.slice none 0 0]:Array Value);have II:=hid ay
    have az:∀q,q=2+q0->SX b (2+100*c.length+1) X w5.heap.size s.heap.size q xc s [] none 0 (w5.alloc (.cells #[.string aC.sP,.slice (some ⟨s.heap.size,0,none⟩) q 4,.slice none 0 0] 58)):=fun q hq=>by
     have aA:w5.heap[s.heap.size]?=some (.cells (aC.rQ.map Value.string).toArray 9 (0,0)):=(A1.block s.heap.size (by have:=l.out.qB.lt;show ¬_=b;omega) bH).trans (zAn s _);have wK:Turns (·=b) s w5:=((Turns.refl _ s).alloc _).trans A1;refine⟨NG.keep (aH.below (aG.alloc aL _)),(wK.mono fun x _ e=>.inl e).alloc _,cC _ ?_,cC _ aA,bD _ _ rfl,dX.nil _ _ _ _ _ _,fun _ h=>absurd h bH,H,Yq,aL,aI aA⟩;rw[wK.block X (by show ¬X=b;omega) Yq,II.out];exact HX.out
    have S9:=hid az;clear NG A1 az ay;go_upto_region 10 with fail;have tZ:2<=2+q0:=aD
    have VT:2+q0<=4:=aD
    have aB:=hid (S9.out (2+q0) rfl);generalize 2+q0=q at*;clear S9 Ky Kz;obtain⟨Lf,aE⟩:=bJ w5.heap.size;rw[<-aE] at aB ⊢;clear aE;go_wp2;go_loopw [9] (fun i wr=>∃mv am cm,i=.int .i64 ((mv.length:Nat):Int)/\mv.length+1<=q/\Hid (SX b (2+100*c.length+1) X Lf s.heap.size q xc s mv am cm wr)) (fun i _=>q-(intOf i).toNat);case atStart=>exact⟨[],none,0,rfl,jo,aB⟩
    case round=>
     obtain⟨mv,am,cm,rfl,a9,HL⟩:=hrel;by_cases aM:mv.length+1<q
     ·have W:(mv.length:Int)+1<q:=by omega
      have Yr:(mv.length:Int)<q:=aD
      obtain⟨⟨-, -,l2⟩,lz⟩:=SY HL.out.box;go_wp2_with (at_builtin;go_must (refine d9 fW rfl _ _ rfl Tryz.NR rfl HL.out.own (us:=[.int .i64 (mv.length:Int),.int .i64 ((mv.length:Int)+1)]) rfl rfl rfl ((mv.length:Int),(mv.length:Int)+1) rfl IK aD Nx ?_));intro v' w6 how ht hn;obtain⟨mv2,xG⟩:=bJ (mv++[((mv.length:Int),(mv.length:Int)+1)]);have hl2:mv2.length=mv.length+1:=by rw[xG];simp
      obtain⟨a',c',g, -⟩:=how.form;rw[<-xG] at g;subst g;have hLS:=hid (SX.app HL.out (m:=((mv.length:Int),(mv.length:Int)+1)) ⟨bH,Yr,jo,W⟩ how (by rw[<-xG]) ht);rw[<-xG] at hLS;have h6L:=(ht.block Lf (fun e=>by have:=(HL.out.own.lt Lf e.symm).1;omega) (aI HL.out.box)).trans HL.out.box;obtain⟨⟨-, -,d2⟩,dz⟩:=SY h6L;have dz2:=dz 2;have f9:=hid hl2;clear how ht hn h6L dz xG hl2 lz l2;go_wp2;go_roundw;case rel=>exact⟨mv2,a',c',by rw[f9.out];go_num,afl,hLS⟩
      exact zI
     ·have W:¬(mv.length:Int)+1<q:=by omega
      have ag:mv.length<=3:=aD
      clear aM a9;go_wp2_with fail;refine(bX 2 aD aD b (2+100*c.length+1) aD _ HL.out.qB).mono ?_;rintro e W7 ⟨t,rfl,Ky,Kz,Xr,qz, -⟩;have HL:=hid (HL.out.grow qz Xr);clear Xr qz;go_upto_if 65 with fail;go_cut [] from 66 to 71 (fun V=>∃mv am cm,Hid (mv.length<=4)/\Hid (SX b (2+100*c.length+2) X Lf s.heap.size q xc s mv am cm V))
      case first=>
       by_cases ht0:t=0
       ·subst ht0
        obtain⟨⟨-, -,l2⟩,lz⟩:=SY HL.out.box;go_wp2_with (at_builtin;go_must (refine d9 fW rfl _ _ rfl Tryz.NR rfl HL.out.own (us:=[.int .i64 1,.int .i64 0]) rfl rfl rfl (1,0) rfl IK aD Nx ?_));intro v' w6 how ht hn;obtain⟨mv2,xG⟩:=bJ (mv++[(1,0)]);have hl2:mv2.length=mv.length+1:=by rw[xG];simp
        obtain⟨a',c',g, -⟩:=how.form;rw[<-xG] at g;subst g;have hLS:=hid (SX.app HL.out (m:=(1,0)) ⟨bH,jo,bH,jo⟩ how (by rw[<-xG]) ht);exact Yw
       ·exact Zh
      case rest=>
       clear HL ag;obtain⟨mv,am,cm,Q,HL⟩:=hcut;have ag:=Q.out;go_wp2_with fail;refine(bX 3 aD aD b (2+100*c.length+2) aD _ HL.out.qB).mono ?_;rintro e W7 ⟨t,rfl,Ky,Kz,Xr,qz, -⟩;have HL:=hid (HL.out.grow qz Xr);clear Xr qz;go_upto_if 74 with fail;go_cut [] from 75 to 83 (fun V=>∃mv am cm,Hid (mv.length<=5)/\Hid (SX b (2+100*c.length+3) X Lf s.heap.size q xc s mv am cm V))
       case first=>
        by_cases ht0:t=0
        ·subst ht0
         obtain⟨⟨-, -,l2⟩,lz⟩:=SY HL.out.box;go_wp2_with (at_builtin;go_must (refine d9 fW rfl _ _ rfl Tryz.NR rfl HL.out.own (us:=[.int .i64 0,.int .i64 ((q:Int)-1)]) rfl rfl rfl (0,(q:Int)-1) rfl IK aD Nx ?_));intro v' w6 how ht hn;obtain⟨mv2,xG⟩:=bJ (mv++[(0,(q:Int)-1)]);have hl2:mv2.length=mv.length+1:=by rw[xG];simp
         obtain⟨a',c',g, -⟩:=how.form;rw[<-xG] at g;subst g;have hLS:=hid (SX.app HL.out (m:=(0,(q:Int)-1)) ⟨by show (0:Int)<=0;omega,by show (0:Int)<q;omega,by show (0:Int)<=(q:Int)-1;omega,by show (q:Int)-1<q;omega⟩ how (by rw[<-xG]) ht);exact Yw
        ·exact Zh
       case rest=>
        clear HL ag Q;obtain⟨mv,am,cm,Q,HL⟩:=hcut;obtain⟨⟨l0,l1,l2⟩, -⟩:=SY HL.out.box;have ah:=HL.out.vY;rw[II.out] at ah;obtain⟨⟨x0,x1,x2,x3⟩,xz⟩:=bF ah;obtain⟨lf,ai⟩:=bJ (⟨aC.sP,aC.rQ.take q,mv⟩:aC.Iu)
        have aO:afB (fun x=>s.heap.size<=x/\some x≠(Value.slice none 0 0).ownBlock) wc [.string aC.sP,.slice (some ⟨s.heap.size,0,none⟩) q 4,.slice am mv.length cm] lf:=by
         rw[ai];refine⟨_,_,rfl,Ga HL.out.sts ⟨aL,by simp[Value.ownBlock]⟩ VT rfl iG,HL.out.own.sl fW (fun x _ h=>h.elim) (fun x hx=>⟨?_,by simp[Value.ownBlock]⟩)⟩;have C:=(HL.out.own.lt x hx).1;have h2:=HL.out.ll;omega
        have ba:=hid aO;have bb:=hid ai;clear aO ai ah xz;go_wp2_with (at_builtin;go_must (refine d9 (v:=.slice none 0 0) (S:=fun x=>s.heap.size<=x) (B:=s.heap.size) dG rfl _ _ rfl Tryz.afR rfl (dX.nil _ _ _ _ _ _) (us:=[.string aC.sP,.slice (some ⟨s.heap.size,0,none⟩) q 4,.slice am mv.length cm]) rfl rfl rfl lf ba.out abM bH (by have:=aI HL.out.sts;omega) ?_));intro v' w6 how ht hn;obtain⟨a',c',g, -⟩:=how.form;have bc:v'=.slice a' 1 c':=g;clear g;subst bc;have z:=(ht.block X (by simp[Value.ownBlock]) (aI HL.out.vY)).trans HL.out.vY;rw[II.out] at z;obtain⟨⟨-, -,d2, -⟩,dz⟩:=bF z;have dz2:=dz 2;obtain⟨Y,E⟩:=bJ (w6.setCell ⟨X,2,none⟩ (.slice a' 1 c'));have aQ:Y.heap[X]?=some (.cells #[.int .i64 d,.slice u c.length y,.slice a' 1 c',.slice none 0 0] 27 (0,0)):=by rw[E];exact heap_setCell_same w6 X 2 _ _ _ z
        have aj:∀x,x≠X->Y.heap[x]?=w6.heap[x]?:=fun x hx=>by rw[E];exact mO _ _ _ _ hx
        have aR:jl Y b (2+100*c.length+3):=(HL.out.qB.keep (ht.keep (fun x _ e=>by simp[Value.ownBlock] at e))).keep (fun x hx _=>aj x aD)
        have aS:Turns (fun x=>x=b\/x=X) s Y:=by
         rw[E];exact(HL.out.turn.into ht (fun x _ e=>by simp[Value.ownBlock] at e)).trans (((Turns.refl (·=X) w6).setCell ⟨X,2,none⟩ _ rfl).mono fun x _ e=>.inr e)
        have aT:o6 (fun x=>s.heap.size<=x/\x<Y.heap.size) Y (.slice a' 1 c') [lf]:=by
         have C:=how.sl dG (T:=fun x=>s.heap.size<=x/\x<w6.heap.size) (fun x hx h=>⟨h,hx⟩) (fun x hx=>⟨(how.lt x hx).1,(how.lt x hx).2⟩);have h2:Y.heap.size=w6.heap.size:=by rw[E];simp
         rw[h2];exact fC.keep dG C (fun x hx _=>aj x aD)
        have H8:=hid (And.intro aQ (And.intro aR (And.intro aS aT)));clear how ht hn z dz aQ aj aR aS aT l0 l1 l2 x0 x1 x3;go_upto_region 19 with fail;rw[<-E];have aU:=hid HL.out.rng;clear E dz2 d2 x2 HL;go_wp2;go_loopw [10] (fun i wr=>∃j:Nat,∃rs ar cr,i=.int .i64 j/\j<=c.length/\rs.length<=2/\Hid (RS b (2+100*c.length+3+10*j) X s Y (.int .i64 d) (.slice u c.length y) (.slice a' 1 c') lf c j ar cr rs wr)) (fun i _=>c.length-(intOf i).toNat)
        case atStart=>
         exact⟨0,[],none,0,rfl,aD,bH,hid ⟨H8.out.2.1.mono aD,H8.out.2.2.1,H8.out.1,H8.out.2.2.2,dX.nil _ _ _ _ _ _,.nil,H,Yq,H8.out.2.2.1.size,aL⟩⟩
        case round=>
         obtain⟨j,rs,ar,cr,rfl,hj,wu,F⟩:=hrel;obtain⟨⟨x0,x1,x2,x3⟩,xz⟩:=bF F.out.vY
         have I:Hid (dX 4 Fj (fun x=>b<x/\x≠X) (X+1) 53 wr (.slice u c.length y) c):=hid (l.out.own.keep dF (aH.iJ F.out.turn (fun x hx e=>by
          rcases hx with hx|hx
          ·have:=hx.1;have:=hx.2;omega
          ·have:=(l.out.own.lt x hx).1;omega)))
         by_cases hc:j<c.length/\rs.length<2
         ·obtain⟨R,be⟩:=hc
          have bo:(j:Int)<c.length:=aD
          have Wh:(rs.length:Int)<2:=aD
          have bp:(0:Int)<=j:=aD
          have ak:=I.out.sl dF (T:=fun x=>b<x) (fun x _ h=>h.1) (fun x hx=>by have:=(I.out.lt x hx).1;omega)
          have br:dV u c.length:=by
           obtain⟨_,_,e,h,_⟩:=ak.form;cases e;exact h
          obtain⟨-, -,c0,c1,c2,uf,c3,D⟩:=iC.at ak R;obtain⟨kd,J⟩:=bJ (c[j]);rw[<-J] at c0 c1 c2 D;have U:=HG.out.good;have aV:Hid (∀f∈kd.aF,aC.iI f):=hid (by rw[J];exact(U.2.1 _ (eV _)).small)
          have aW:Hid (1<=kd.name.size):=hid (by
           rw[J,U.2.2 j R]
           have:j=0\/j=1\/j=2:=by have:=U.1;omega
           rcases this with h|h|h<;>rw[h]<;>decide)
          have SV:=hid D;have SL:=hid J;clear ak D U J;go_wp2_with fail;refine(Ym b (2+100*c.length+3+10*j) aD wr F.out.qB kd uf SV.out aV.out aW.out).mono ?_;rintro e w9 ⟨⟨r,bd,rfl,hr⟩,aX,sS⟩;simp only[aiU];have C5:=hid (F.out.grow sS (aX.mono (N':=2+100*c.length+3+10*(j+1)) aD));have HR:=hid hr;clear hr aX sS c0 c1 c2 c3 x0 x1 x2 x3 xz F I SV aV aW;cases bd with
          |true=>
           have bf:=hid (HR.out rfl)
           go_upto_region 24 with fail
           obtain⟨aY,IL⟩:=bJ (w9.alloc (.cells #[.string r.name,.string r.kind,.string r.a,.string r.b,.int .i64 r.n] 61))
           have NU:BL w9 aY:=by rw[IL];exact aG.alloc aL _
           have K:=hid (C5.out.grow (Turns.bg NU) (C5.out.qB.keep (aH.below NU)))
           have a0:aY.heap[w9.heap.size]?=some (.cells #[.string r.name,.string r.kind,.string r.a,.string r.b,.int .i64 r.n] 61 (0,0)):=by rw[IL];exact bD w9 _ rfl
           obtain⟨⟨y0,y1,y2,y3,y4⟩, -⟩:=nO a0
           obtain⟨⟨-, -, -,x3⟩, -⟩:=bF K.out.vY
           rw[<-IL]
           clear IL NU a0
           go_wp2_with (at_builtin;go_must (refine d9 fO rfl _ _ rfl Tryz.afS rfl K.out.own (us:=[.string r.name,.string r.kind,.string r.a,.string r.b,.int .i64 r.n]) rfl rfl rfl r rfl abN aD (by have:=K.out.life;have:=K.out.wsz;omega) ?_))
           intro v' EQ how ht hn
           obtain⟨a1,Ys⟩:=bJ (rs++[r])
           have hl2:a1.length=rs.length+1:=by rw[Ys];simp
           obtain⟨a2,c2,g, -⟩:=how.form
           rw[<-Ys] at g
           subst g
           have a3:=hid (RS.app K.out R (by rw[<-SL.out];exact bf.out) how (by rw[<-Ys]) ht)
           rw[<-Ys] at a3
           have z:=(ht.block X (fun e=>by have:=(K.out.own.lt X e.symm).1;have:=K.out.wl;omega) (aI K.out.vY)).trans K.out.vY
           obtain⟨⟨-, -, -,d3⟩,dz⟩:=bF z
           have XP:=dz 3
           have f9:=hid hl2
           clear how ht hn z dz Ys hl2 x3
           go_wp2
           go_roundw
           case rel=>exact⟨j+1,a1,a2,c2,zG,aD,afl,a3⟩
           exact zI
          |false=>
           have K:=hid (C5.out.grow (W':=w9.alloc (.cells #[.string r.name,.string r.kind,.string r.a,.string r.b,.int .i64 r.n] 61)) (Turns.bg (aG.alloc aL _)) (C5.out.qB.keep (aH.below (aG.alloc aL _)))).skip
           go_wp2
           go_roundw
           case rel=>exact⟨j+1,rs,ar,cr,zG,aD,wu,K⟩
           exact zI
         ·have hRz:wr.heap[w.heap.size]?=some (.cells #[.int .i64 0,.slice none 0 0,.slice none 0 0,.slice none 0 0] 27 (0,0)):=by
           have C:=l.out.rb
           rw[F.out.turn.block w.heap.size (by show ¬(_=b\/_=X);omega) (aI l.out.res)];exact l.out.res
          have SA:=hid (Ko hRz (.int .i64 d) (.slice u c.length y) (.slice a' 1 c') (.slice ar rs.length cr));obtain⟨⟨z0,z1,z2,z3⟩,zf⟩:=bF hRz
          have KR:Hid (Q5 w (.returned (.agg #[.int .i64 d,.slice u c.length y,.slice a' 1 c',.slice ar rs.length cr])) ((((wr.setCell ⟨w.heap.size,0,none⟩ (.int .i64 d)).setCell ⟨w.heap.size,1,none⟩ (.slice u c.length y)).setCell ⟨w.heap.size,2,none⟩ (.slice a' 1 c')).setCell ⟨w.heap.size,3,none⟩ (.slice ar rs.length cr))):=hid (by
           have C:=l.out.rb
           have h2:=F.out.xl
           have h3:=F.out.wl
           have h4:=l.out.below.size
           have h6:=l.out.qB.lt
           refine⟨_,⟨d,c,[lf],rs⟩,rfl,⟨⟨by show 0<=d;omega,by show d<=3;omega⟩,HG.out,a4,⟨lf,rfl,?_⟩,⟨j,hj,F.out.ok,wu⟩⟩,dO.mono (S:=fun x=>w.heap.size<x) (dO.keep (w:=wr) ⟨_,_,_,rfl,?_,?_,?_⟩ (aH.iJ SA.out.2 (fun x hx e=>by omega))) (fun x _ hx=>by omega),?_⟩
           ·rw[bb.out]
            exact⟨rfl,q,tZ,VT,rfl,by have:=Q.out;show mv.length<=6;omega,aU.out⟩
           ·exact I.out.sl dF (fun x _ h=>by have:=h.1;omega) (fun x hx=>by have:=(I.out.lt x hx).1;omega)
           ·exact fC.mono aD dG F.out.life (fun x _ h=>by have:=h.1;omega)
           ·exact F.out.own.sl fO (fun x _ h=>h.elim) (fun x hx=>by have:=(F.out.own.lt x hx).1;omega)
           ·have h5:BL w wr:=l.out.below.trans (F.out.turn.below h4 (fun x hx=>by rcases hx with h|h<;>omega))
            exact h5.trans (SA.out.2.below h5.size (fun x hx=>by omega)))
          by_cases R:(j:Int)<c.length
          ·have be:¬(rs.length:Int)<2:=by omega
           exact al9
          ·exact al9
def fJ(w:World)(a:Int)(b c d:Value):World:=w.alloc (.cells #[.int .i64 a,b,c,d] 27)
theorem kT(w:World)(a:Int)(b c d:Value):BL w (fJ w a b c d):=aG.alloc aL _
theorem jt(w:World)(a:Int)(b c d:Value):(fJ w a b c d).heap[w.heap.size]?=some (.cells #[.int .i64 a,b,c,d] 27 (0,0)):=zAn w _
theorem dO.form{S:Nat->Prop}{w:World}{v:Value}{x:aC.cE}(h:dO S w v x):
 ∃a d b e c f,v=.agg #[.int .i64 x.aQ,.slice a x.ah.length d,.slice b x.aV.length e,.slice c x.aX.length f]/\iC S w (.slice a x.ah.length d) x.ah/\o6 S w (.slice b x.aV.length e) x.aV/\qI S w (.slice c x.aX.length f) x.aX/\
  dV a x.ah.length/\dV b x.aV.length/\dV c x.aX.length:=by
 obtain⟨n,o,p,rfl,g,i,j⟩:=h;obtain⟨a,d,rfl,k, -⟩:=g.form;obtain⟨b,e,rfl,l, -⟩:=i.form;obtain⟨c,f,rfl,m, -⟩:=j.form;exact⟨a,d,b,e,c,f,rfl,g,i,j,k,l,m⟩
theorem dH{x:aC.cE}{i:Nat}(h:i<x.ah.length):aC.kd x i=x.ah[i]:=by
 unfold aC.kd;rw[zxk,iY,lN h];rfl
theorem iX{x:aC.cE}{i j:Nat}(h:i<x.ah.length)(h2:j<x.ah[i].aF.length):aC.fd x i j=x.ah[i].aF[j]:=by
 unfold aC.fd;rw[dH h,zxk,iY,lN h2];rfl
theorem qM(x:aC.cE)(s:ByteArray)(v:Value)(S:Nat->Prop)(w:World)(y:dO S w v x):
 CB 77 #[v,.string s] w (.int .i64 (aC.dc x s)):=by
 obtain⟨m,n,o,q,r,t,rfl,d, -, -,B, -, -⟩:=y.form;have g:=hid (kT w x.aQ (.slice m x.ah.length n) (.slice o x.aV.length q) (.slice r x.aX.length t));have z:=hid (d.keep (aH.below g.out));obtain⟨⟨-,C, -, -⟩, -⟩:=bF (jt w x.aQ (.slice m x.ah.length n) (.slice o x.aV.length q) (.slice r x.aX.length t));obtain⟨W,l⟩:=bJ (fJ w x.aQ (.slice m x.ah.length n) (.slice o x.aV.length q) (.slice r x.aX.length t));rw[<-l] at g z C;unfold fJ at l;have A:=hid l
 have D:x.ah.length<=9223372036854775807:=by
  obtain⟨_,_,e,_,J,K⟩:=d.form;cases e;omega
 clear y d l;go_enter func77,ntmps77;go_wp2;rw[<-A.out];clear A;go_loop [5] (fun i=>∃k:Nat,k<=x.ah.length/\i=.int .i64 k/\Hid (∀j (h:j<x.ah.length),j<k->decide (x.ah[j].name=s)=false)) (fun i=>x.ah.length-(intOf i).toNat);case atStart=>exact⟨0,aD,rfl,hid (fun _ _ h=>absurd h aD)⟩
 case round=>
  obtain⟨k,d,rfl,hpre⟩:=hrel;by_cases b:k<x.ah.length
  ·obtain⟨-, -,c0, -⟩:=z.out.at b
   have E:(0:Int)<=k:=aD
   have F:(k:Int)<x.ah.length:=aD
   by_cases a:x.ah[k].name=s
   ·have c:Hid (aC.dc x s=(k:Int)):=hid (by
     have:=aC.pZ (p:=fun f:aC.fT=>decide (f.name=s)) (i:=0) b hpre.out (decide_eq_true a)
     rw[zxn] at this
     exact this)
    have G:=Sy a;generalize x.ah[k].name=H at*;clear a;go_wp2;go_ret;exact⟨iL c.out.symm,g.out⟩
   ·have c:Hid (∀j (h:j<x.ah.length),j<k+1->decide (x.ah[j].name=s)=false):=hid (fun j u I=>by
     by_cases e:j=k
     ·subst e;exact decide_eq_false a
     ·exact hpre.out j u aD)
    have G:=CK a;generalize x.ah[k].name=H at*;clear a;go_wp2;go_round;case rel=>exact⟨k+1,aD,zG,c⟩
    exact zI
  ·have c:Hid (aC.dc x s= -1):=hid (aC.oP (fun j u=>hpre.out j u aD))
   go_wp2;go_ret;exact⟨iL c.out.symm,g.out⟩
theorem o8(k:aC.fT)(s:ByteArray)(q:Value)(S:Nat->Prop)(w:World)(g:dx S w q k.aF)(cs:Array Value)(l:cs=(kH k q).toArray):
 CB 76 #[.agg cs,.string s] w (.int .i64 (aC.bV k s)):=by
 subst l;obtain⟨a,cap,rfl,u,r,t⟩:=g.form;have n:Hid (BL w (w.alloc (.cells #[.string k.name,.int .i64 k.lo,.int .i64 k.hi,.slice a k.aF.length cap] 53))):=hid (aG.alloc aL _);have v:=hid (g.keep (aH.below n.out));simp only[kH];clear g;go_enter func76,ntmps76;go_wp2;go_loop [5] (fun i=>∃j:Nat,j<=k.aF.length/\i=.int .i64 j/\Hid (∀m (h:m<k.aF.length),m<j->decide (k.aF[m].name=s)=false)) (fun i=>k.aF.length-(intOf i).toNat);case atStart=>exact⟨0,aD,rfl,hid (fun _ _ h=>absurd h aD)⟩
 case round=>
  obtain⟨j,C,rfl,hpre⟩:=hrel;by_cases c:j<k.aF.length
  ·obtain⟨-, -,c0, -⟩:=v.out.at c
   have x:(0:Int)<=j:=aD
   have y:(j:Int)<k.aF.length:=aD
   by_cases b:k.aF[j].name=s
   ·have d:Hid (aC.bV k s=(j:Int)):=hid (by
     have:=aC.pZ (p:=fun f:aC.dA=>decide (f.name=s)) (i:=0) c hpre.out (decide_eq_true b)
     rw[zxn] at this
     exact this)
    have z:=Sy b;generalize k.aF[j].name=A at*;clear b;go_wp2;go_ret;exact⟨iL d.out.symm,n.out⟩
   ·have d:Hid (∀m (h:m<k.aF.length),m<j+1->decide (k.aF[m].name=s)=false):=hid (fun m o B=>by
     by_cases e:m=j
     ·subst e;exact decide_eq_false b
     ·exact hpre.out m o aD)
    have z:=CK b;generalize k.aF[j].name=A at*;clear b;go_wp2;go_round;case rel=>exact⟨j+1,aD,zG,d⟩
    exact zI
  ·have d:Hid (aC.bV k s= -1):=hid (aC.oP (fun m o=>hpre.out m o aD))
   go_wp2;go_ret;exact⟨iL d.out.symm,n.out⟩
theorem aei(h:p:=by
  go_enter func75,ntmps75
  go_wp2
  go_ret
  exact⟨gL HA.out.symm,HB.out⟩):p:=h
theorem Yt(x:aC.cE)(i j:Int)(v:Value)(S:Nat->Prop)(w:World)(d:dO S w v x):
 CB 75 #[v,.int .i64 i,.int .i64 j] w (.bool (aC.hasB x i j)):=by
 obtain⟨e,f,g,h,k,l,rfl,n, -, -,r, -, -⟩:=d.form;have HB:=hid (kT w x.aQ (.slice e x.ah.length f) (.slice g x.aV.length h) (.slice k x.aX.length l));have o:=hid (n.keep (aH.below HB.out));obtain⟨⟨-,s, -, -⟩, -⟩:=bF (jt w x.aQ (.slice e x.ah.length f) (.slice g x.aV.length h) (.slice k x.aX.length l));unfold fJ at HB o s;clear d n;by_cases t:i<0
 ·have HA:Hid (aC.hasB x i j=false):=hid FX
  exact aei
 ·by_cases u:(x.ah.length:Int)<=i
  ·have HA:Hid (aC.hasB x i j=false):=hid (by unfold aC.hasB;rw[decide_eq_false (show ¬i<x.ah.length by omega)];simp)
   exact aei
  ·by_cases y:j<0
   ·have HA:Hid (aC.hasB x i j=false):=hid yx
    exact aei
   ·obtain⟨m,rfl⟩:∃m:Nat,i=(m:Int):=⟨i.toNat,aD⟩
    have p:m<x.ah.length:=aD
    have b:(0:Int)<=m:=aD
    have c:(m:Int)<x.ah.length:=aD
    have HA:Hid (aC.hasB x m j=decide (j<(x.ah[m].aF.length:Int))):=hid (by
     unfold aC.hasB
     rw[decide_eq_true b,decide_eq_true c,decide_eq_true (show 0<=j by omega),dH p];rfl)
    obtain⟨-, -, -, -, -,z,c3,q⟩:=o.out.at p;obtain⟨a,cap,rfl, -, -, -⟩:=q.form;clear q;exact aei
theorem abO{x:aC.cE}{i j:Nat}(h:i<x.ah.length)(h2:j<x.ah[i].aF.length):aC.hasB x i j=true:=by
 unfold aC.hasB;rw[dH h];simp;omega
theorem yK{x:aC.cE}{i j:Int}(h:aC.hasB x i j=true):∃m n:Nat,i=m/\j=n/\∃a:m<x.ah.length,n<x.ah[m].aF.length:=by
 unfold aC.hasB at h;simp only[pR,oW] at h;obtain⟨⟨⟨c,d⟩,f⟩,b⟩:=h;have a:i.toNat<x.ah.length:=aD
 have e:i=(i.toNat:Int):=aD
 rw[e,dH a] at b;exact⟨i.toNat,j.toNat,e,aD,a,aD⟩
theorem amg(h:p:=by
  go_wp2
  go_ret
  exact⟨iL HA.out.symm,bO bL.out cN.out⟩):p:=h
theorem rX(x:aC.cE)(i j:Int)(v:Value)(S:Nat->Prop)(w:World)(hv:dO S w v x)(hi: -1000000<=i/\i<=1000000)(hj: -1000000<=j/\j<=1000000):
 CB 38 #[v,.int .i64 i,.int .i64 j] w (.int .i64 (aC.eD x i j)):=by
 have Y:=hv;obtain⟨b,ck,al,cl,ar,cr,rfl,hk, -, -,az, -, -⟩:=hv.form;have Z:=hid (kT w x.aQ (.slice b x.ah.length ck) (.slice al x.aV.length cl) (.slice ar x.aX.length cr));have C:=jt w x.aQ (.slice b x.ah.length ck) (.slice al x.aV.length cl) (.slice ar x.aX.length cr);obtain⟨W,hW⟩:=bJ (fJ w x.aQ (.slice b x.ah.length ck) (.slice al x.aV.length cl) (.slice ar x.aX.length cr));rw[<-hW] at Z C;have K:=hid C;have L:=hid (Y.keep (aH.below Z.out));have HK:=hid (hk.keep (aH.below Z.out));unfold fJ at hW;have HW:=hid hW;obtain⟨b0,b1,b2,b3⟩:=b4z C;clear hv Y hk hW C;have aA:=hi;have aB:=hj;go_enter func38,ntmps38;go_upto_region 1 with fail;rw[<-HW.out];clear HW;go_wp2_with fail;refine(Yt x i j _ S W L.out).mono ?_;rintro e w1 ⟨rfl,c⟩;have bL:=aR Z c;have Gj:=hid (HK.out.keep (aH.below c));have M:=hid ((c.block _ (aI K.out)).trans K.out);have aa:=hid (L.out.keep (aH.below c));obtain⟨b0,b1,b2,b3⟩:=b4z M.out;clear c HK K L Z;cases hh:aC.hasB x i j with
 |false=>
  have HA:Hid (aC.eD x i j= -1):=hid (by unfold aC.eD;rw[hh];rfl)
  clear hh
  go_wp2
  go_ret
  exact⟨iL HA.out.symm,bL.out⟩
 |true=>
  obtain⟨m,n,rfl,rfl,D,hn⟩:=yK hh
  have aE:(0:Int)<=m:=aD
  have aK:(m:Int)<x.ah.length:=aD
  have aM:(0:Int)<=n:=aD
  have aN:(n:Int)<x.ah[m].aF.length:=aD
  obtain⟨-, -,k0,k1,k2,uf,k3,hf⟩:=Gj.out.at D
  obtain⟨af,cf,rfl,Ta, -, -⟩:=hf.form
  obtain⟨-, -,f0,f1,f2,f3,f4,f5,uw,ug,f6,f7,k,l⟩:=hf.at hn
  obtain⟨aw,cw,rfl, -, -, -⟩:=k.form
  obtain⟨ag,cg,rfl, -, -, -⟩:=l.form
  have HF:=hid hf
  have rV:=hid k3
  obtain⟨f,N⟩:=bJ (x.ah[m].aF[n])
  rw[<-N] at f0 f1 f2 f3 f4 f5 f6 f7
  have ao:=hid N
  clear N
  go_upto_region 4 with fail
  obtain⟨o,E⟩:=bJ (w1.alloc (.cells #[.string f.name,.string f.of,.string f.up,.int .i64 f.kind,.int .i64 f.lo,.int .i64 f.hi,.slice aw f.cV.length cw,.slice ag f.bY.length cg] 85))
  have I:Hid (Below w1.heap.size w1 o):=hid (by rw[E];exact aG.alloc aL _)
  have V:Hid (o.heap[w1.heap.size]?=some (.cells #[.string f.name,.string f.of,.string f.up,.int .i64 f.kind,.int .i64 f.lo,.int .i64 f.hi,.slice aw f.cV.length cw,.slice ag f.bY.length cg] 85 (0,0))):=hid (by rw[E];exact bD w1 _ rfl)
  rw[<-E]
  clear E f0 f1 f2 f3 f4 f5 f6 f7 k l k0 k1 k2 k3 b0 b1 b2 b3 hf
  have HU:Hid (aC.eD x m n=if f.kind=7\/f.kind=8 then (if aC.hasB x m (aC.bV x.ah[m] f.up)=true/\aC.bV x.ah[m] f.up<n/\(aC.fd x m (aC.bV x.ah[m] f.up)).kind=1 then aC.tM x m (aC.fd x m (aC.bV x.ah[m] f.up)) else -1) else if f.kind=1 then aC.tM x m f else -1):=hid (by
   unfold aC.eD
   rw[if_pos hh,iX D hn,dH D,ao.out])
  obtain⟨⟨p0,p1,p2,p3,p4,p5,p6,p7⟩,r⟩:=ez V.out
  have s:=bF ((I.out.block _ (aI M.out)).trans M.out)
  obtain⟨⟨z0,z1,z2,z3⟩, -⟩:=s
  have t:=Gj.out.keep (aH.below I.out)
  obtain⟨-, -,y0,y1,y2,O,X,y⟩:=t.at D
  have P:O=.slice af x.ah[m].aF.length cf:=by
   have:=Gj.out.at D;obtain⟨hl, -, -, -, -,aO,k3, -⟩:=this;have J:=X;rw[I.out.cell (p:=⟨bM b,bT b+m*4+3,none⟩) hl] at J;exact(oO (J.symm.trans (rV.out)))
  subst P
  have ab:=hid y
  clear t y
  go_cut [31] from 24 to 31 (fun q wx=>∃bd:Bool,q=.bool bd/\Hid (bd=decide (f.kind=7\/f.kind=8))/\o=wx)
  case first=>
   by_cases Q:f.kind=7
   ·have mI:=abB Q
    have z:Hid (true=decide (f.kind=7\/f.kind=8)):=hid (by simp[Q]);clear Q;go_wp2;go_meet;case rel=>exact⟨true,rfl,z,rfl⟩
   ·have mI:=tH Q
    by_cases F:f.kind=8
    ·have mz:=abB F
     have z:Hid (true=decide (f.kind=7\/f.kind=8)):=hid (by simp[F]);clear Q F;go_wp2;go_meet;case rel=>exact⟨true,rfl,z,rfl⟩
    ·have mz:=tH F
     have z:Hid (false=decide (f.kind=7\/f.kind=8)):=hid (by simp[Q,F]);clear Q F;go_wp2;go_meet;case rel=>exact⟨false,rfl,z,rfl⟩
  case rest=>
   obtain⟨bd,rfl,z,rfl⟩:=hcut;go_upto_if 31 with fail;go_cut [] from 8 to 55 (fun wx=>∃g uw ug,Hid (wx.heap[w1.heap.size]?=some (.cells #[.string g.name,.string g.of,.string g.up,.int .i64 g.kind,.int .i64 g.lo,.int .i64 g.hi,uw,ug] 85 (0,0)))/\Hid (aC.eD x m n=if g.kind=1 then aC.tM x m g else -1)/\Hid (BL w1 wx))
   case first=>
    cases bd with
    |false=>
     have G:=hid (HU.out.trans (if_neg (fun h=>by have:=z.out;rw[decide_eq_true h] at this;cases this)))
     clear HU z
     go_wp2
     go_meet
     case rel=>exact⟨f,_,_,V,G,I⟩
    |true=>
     have G:=hid (HU.out.trans (if_pos (decide_eq_true_iff.1 z.out.symm)))
     clear HU z
     go_upto_region 5 with fail
     refine bq 7 (.quiet 0 (.quiet 1 (.quiet 2 (.quiet 3 (.quiet 4 (.quiet 5 (.quiet 6 .done))))))) (From (fun _=>False) o) nK zK (show From (fun _=>False) o (o.drewN 1) from (Turns.refl _ _).drewN 1) ?_
     refine gF ?_
     refine zzR ⟨w.heap.size,1,none⟩ (.slice b x.ah.length ck) (fun a=>From.cell a id z1) ?_
     iterate 2 refine gF ?_
     refine bC rfl ?_
     intro hne
     have h0:∀a:Held (From (fun _=>False) o),a.1.cell? ⟨bM b,bT b+m*4,none⟩=some (.string x.ah[m].name):=fun a=>From.cell a id y0
     have h1:∀a:Held (From (fun _=>False) o),a.1.cell? ⟨bM b,bT b+m*4+1,none⟩=some (.int .i64 x.ah[m].lo):=fun a=>From.cell a id y1
     have h2:∀a:Held (From (fun _=>False) o),a.1.cell? ⟨bM b,bT b+m*4+2,none⟩=some (.int .i64 x.ah[m].hi):=fun a=>From.cell a id y2
     have h3:∀a:Held (From (fun _=>False) o),a.1.cell? ⟨bM b,bT b+m*4+3,none⟩=some (.slice af x.ah[m].aF.length cf):=fun a=>From.cell a id X
     go_big_quiet_step (fail)
     refine iU ?_
     clear hne h0 h1 h2 h3
     refine gF ?_
     refine zzR ⟨w1.heap.size,2,none⟩ (.string f.up) (fun a=>From.cell a id p2) ?_
     refine bG ?_
     try simp only[jW,jH]
     go_wp2_with fail
     refine(o8 x.ah[m] f.up (.slice af x.ah[m].aF.length cf) S (o.drewN 1) (ab.out.keep (aH.below (aJ aG 1))) _ rfl).mono ?_
     rintro e w3 ⟨rfl,R⟩
     have cN:Hid (BL w1 w3):=hid ((aJ I.out 1).trans (R.mono I.out.size))
     have Cn:=hid ((R.block _ (aI V.out)).trans V.out)
     obtain⟨u,hu⟩:=bJ (aC.bV x.ah[m] f.up)
     rw[<-hu] at G ⊢
     have ad:=hid hu
     clear R hu p0 p1 p2 p3 p4 p5 p6 p7 r z0 z1 z2 z3 y0 y1 y2 X V I
     rcases aC.jS (fun f':aC.dA=>decide (f'.name=f.up)) x.ah[m].aF with⟨A, -⟩|⟨B,T,A, -, -⟩
     ·have rR:u= -1:=ad.out.trans A
      subst rR
      have HA:Hid (aC.eD x m n= -1):=hid (G.out.trans (if_neg (fun h=>by
       have J:=h.1;unfold aC.hasB at J;simp at J)))
      clear A G;exact amg
     ·have rR:u=(B:Int):=ad.out.trans A
      subst rR;clear A;have Yb:¬(B:Int)<0:=aD
      by_cases aP:B<n
      ·have Yo:¬(n:Int)<=B:=by omega
       have ax:(0:Int)<=B:=aD
       have ay:(B:Int)<x.ah[m].aF.length:=aD
       have HH:Hid (aC.eD x m n=if (x.ah[m].aF[B]).kind=1 then aC.tM x m x.ah[m].aF[B] else -1):=hid (by
        rw[G.out,iX D T,abO D T]
        have:(B:Int)<n:=aD
        simp[this])
       have s:=bF ((cN.out.block _ (aI M.out)).trans M.out);obtain⟨⟨z0,z1,z2,z3⟩, -⟩:=s;obtain⟨⟨p0,p1,p2,p3,p4,p5,p6,p7⟩,r⟩:=ez Cn.out;have q0:=r 0;have q1:=r 1;have q2:=r 2;have q3:=r 3;have q4:=r 4;have q5:=r 5;have q6:=r 6;have q7:=r 7;have t:=Gj.out.keep (aH.below cN.out);obtain⟨ap, -, -, -, -,O,X,y⟩:=t.at D
       have P:O=.slice af x.ah[m].aF.length cf:=by
        have hl:bM b<w1.heap.size:=(Gj.out.at D).1;have J:=X;rw[cN.out.cell (p:=⟨bM b,bT b+m*4+3,none⟩) hl] at J;exact(oO (J.symm.trans (rV.out)))
       subst P;obtain⟨-, -,f0,f1,f2,f3,f4,f5,uw,ug,f6,f7,k,l⟩:=y.at T;obtain⟨aq,au,rfl, -, -, -⟩:=k.form;obtain⟨Xq,VU,rfl, -, -, -⟩:=l.form;obtain⟨g,hg⟩:=bJ (x.ah[m].aF[B]);rw[<-hg] at f0 f1 f2 f3 f4 f5 f6 f7 HH;clear t y k l hg G ap r;have F:=hid (Kq Cn.out (.string g.name) (.string g.of) (.string g.up) (.int .i64 g.kind) (.int .i64 g.lo) (.int .i64 g.hi) (.slice aq g.cV.length au) (.slice Xq g.bY.length VU));go_wp2;go_meet;case rel=>exact⟨g,_,_,hid F.out.1,HH,hid (cN.out.trans (F.out.2.below cN.out.size (fun x hx=>by omega)))⟩
      ·have Yo:(n:Int)<=B:=by omega
       have HA:Hid (aC.eD x m n= -1):=hid (G.out.trans (if_neg (fun h=>by have:=h.2.1;omega)));clear G;exact amg
   case rest=>
    obtain⟨g,uw,ug,HG,H,U⟩:=hcut;obtain⟨⟨p0,p1,p2,p3,p4,p5,p6,p7⟩, -⟩:=ez HG.out;have s:=bF ((U.out.block _ (aI M.out)).trans M.out);obtain⟨⟨z0,z1,z2,z3⟩, -⟩:=s;have av:=hid (aa.out.keep (aH.below U.out));have ae:=aR bL U.out;clear y0 y1 y2 X V I HU z ab HF hh aa;by_cases d:g.kind=1
    ·have c:(g.kind !=1)=false:=abA d
     have HA:=hid (H.out.trans (if_pos d));clear d H;go_wp2_with fail;refine(qM x g.of _ S wc av.out).mono ?_;rintro e w4 ⟨rfl,ai⟩;have aj:=aR ae ai;unfold aC.tM at HA;generalize aC.dc x g.of=ki at*;clear ai p0 p1 p2 p3 p4 p5 p6 p7 z0 z1 z2 z3;by_cases am:ki<(m:Int)
     ·have sU:=hid (HA.out.trans (if_pos am))
      have an:¬(m:Int)<=ki:=aD
      go_wp2;go_ret;exact⟨iL sU.out.symm,aj.out⟩
     ·have sU:=hid (HA.out.trans (if_neg am))
      have an:(m:Int)<=ki:=aD
      go_wp2;go_ret;exact⟨iL sU.out.symm,aj.out⟩
    ·have c:(g.kind !=1)=true:=Ny d
     have HA:=hid (H.out.trans (if_neg d));clear d H;go_wp2;go_ret;exact⟨iL HA.out.symm,ae.out⟩
abbrev qBx(x:aC.cE)(a b c:Option Addr)(d e f:Nat)(i j:Int)(g h k:ByteArray)(fk l m:Int)(n o:Value):Array Value:=#[.int .i64 x.aQ,.slice a x.ah.length d,.slice b x.aV.length e,.slice c x.aX.length f,.int .i64 i,.int .i64 j,.string g,.string h,.string k,.int .i64 fk,.int .i64 l,.int .i64 m,n,o]
abbrev bSx(w:World)(x:aC.cE)(a b c:Option Addr)(d e f:Nat):World:=fJ w x.aQ (.slice a x.ah.length d) (.slice b x.aV.length e) (.slice c x.aX.length f)
abbrev sBx(x:aC.cE)(a b c:Option Addr)(d e f:Nat):Array Value:=#[.int .i64 x.aQ,.slice a x.ah.length d,.slice b x.aV.length e,.slice c x.aX.length f]
theorem IQ{w w1:World}{v:Int}{a b c:Value}(h:w1=fJ w v a b c):Hid (∀W,Below w1.heap.size w1 W->W.heap[w.heap.size]?=some (.cells #[.int .i64 v,a,b,c] 27 (0,0))):=hid (fun W d=>(d.block _ (by rw[h];simp[fJ])).trans (by rw[h];exact jt ..))
theorem yL{w w1:World}{v:Int}{a b c:Value}(h:w1=fJ w v a b c):Hid (Below w.heap.size w w1):=hid (by rw[h];exact kT ..)
end Go.Proofs.YtohddpbgflgiaaaGreatDoor
namespace Go.Proofs.YtohddpbgflgiaaaGreatDoor.aC
abbrev dw:=List (List (List Int))
def gK(W:dw)(u:Int):Nat:=(W.getD u.toNat []).length
def Gl(x:cE)(k:Nat)(W:dw)(r:List Int):Prop:=
 r.length=(kd x k).aF.length/\∀(j:Nat) (h:j<r.length),((fd x k j).kind=1->0<=r[j]/\r[j]<gK W (eD x k j))/\ -100<=r[j]/\r[j]<=100
def total(W:dw):Nat:=(W.map List.length).sum
def eT(x:cE):Prop:=∀(k j:Nat),k<x.ah.length->j<(kd x k).aF.length->(fd x k j).kind=1->0<=eD x k j
theorem Q7(x:cE)(i:Int)(f:dA)(h:0<=i):tM x i f<i:=by
 unfold tM;split
 ·assumption
 ·omega
theorem Ab(x:cE)(i j:Int)(h:0<=i):eD x i j<i:=by
 unfold eD;split
 ·simp only
  split
  ·split
   ·exact Q7 x i _ h
   ·omega
  ·split
   ·exact Q7 x i _ h
   ·omega
 ·omega
theorem j8{α:Type}(p:α->Bool):∀(l:List α) (i:Nat), -1<=iN p l i
 |[],_=>by unfold iN;omega
 |x::l,i=>by
  unfold iN;split
  ·omega
  ·exact j8 p l (i+1)
theorem Q8(x:cE)(i:Int)(f:dA): -1<=tM x i f:=by
 unfold tM;split
 ·exact j8 _ _ _
 ·omega
theorem Yu(x:cE)(i j:Int): -1<=eD x i j:=by
 unfold eD;split
 ·simp only
  split
  ·split
   ·exact Q8 x i _
   ·omega
  ·split
   ·exact Q8 x i _
   ·omega
 ·omega
theorem Tb{W:dw}{k:Nat}(hk:k<W.length)(rows:List (List Int)):total (W.set k rows)+W[k].length=total W+rows.length:=by
 unfold total;induction W generalizing k with
 |nil=>simp at hk
 |cons a W ih=>
  cases k with
  |zero=>simp;omega
  |succ k=>
   have:=ih (k:=k) abo
   simp at this ⊢
   omega
theorem Tc{W:dw}{k:Nat}{u:Int}(rows:List (List Int))(h0:0<=u)(h:u<k):gK (W.set k rows) u=gK W u:=by
 unfold gK;rw[iY,iY,List.getElem?_set_ne aD]
end Go.Proofs.YtohddpbgflgiaaaGreatDoor.aC
namespace Go.Proofs.YtohddpbgflgiaaaGreatDoor
open Go.RowKit
def gM(n:Nat):Array Value:=(List.replicate n (.slice none 0 0)).toArray
theorem Fp(n:Nat):madeCells (Value.slice none 0 0).cells (n*1)=gM n:=by
 apply Array.ext
 ·simp[madeCells,gM]
 ·intro i a b
  simp[madeCells,gM,Value.cells,Nat.mod_one]
theorem aeu(h:p:=by
  have h:i.bytes*n<=1000*1000000:=Nat.mul_le_mul aD hn
  have:((i.bytes*n:Nat):Int)<=281474976710656:=aD
  rwa [Int.natCast_mul] at this):p:=h
theorem oQ{P:Program}{t e:TypeId}{b:Nat}(c:P.underlying t=some (.slice e))(d:(P.info? e).map (fun i=>(i.zero,i.size,i.bytes))=some (some (.slice none 0 0),1,b))(l:b<=1000)
  (n:Nat)(hn:n<=1000000)(w:World):
  (Instr.makeSlice t (.int .i64 (n:Int)) (.int .i64 (n:Int))).run P w=.ok (.slice (some ⟨w.heap.size,0,none⟩) n n) (w.alloc (.cells (gM n) e)):=by
 obtain⟨i,f,g,j,m⟩:=info_parts d
 have k:(i.bytes:Int)*(n:Int)<=281474976710656:=by
  exact aeu
 have a:=run_make (P:=P) w t e i (.slice none 0 0) c f g .i64 .i64 (n:Int) (n:Int) aD aD k aD;rw[j,zxk,Fp] at a;exact a
theorem Zi(h:p:=by
  rw[List.length_replicate]
  refine⟨bH,.inr ⟨w.heap.size,n,gM n,rfl,zxa _,heap_alloc_new w _,aL,Wy,by simp[gM],?_⟩⟩
  simp[gM]):p:=h
theorem ud(w:World)(n:Nat)(c:n<=1000000):cM (w.heap.size<=·) (w.alloc (.cells (gM n) 42)) (.slice (some ⟨w.heap.size,0,none⟩) n n) (List.replicate n []):=by
 refine⟨fun b a=>by simp[Value.ownBlock] at a;omega,List.replicate n (.slice none 0 0),fun _=>0,?_,bH,fun j d e=>?_⟩
 ·exact Zi
 ·simp only[List.getElem_replicate]
  exact jv.nil _ _ _ _
theorem Dd(l:List Int)(c:Fit l)(v:Value)(i:Int)(a:Int)(S:Nat->Prop)(w:World)(d:bB S w v l)(b:1<=a)(f:a<=1000000)(g:0<=i):
  CP 12 #[v,.int .i64 i,.int .i64 a] w fun e j=>∃z:Int,e=.returned (.int .i64 z)/\0<=z/\z<a/\w=j:=
 (Xc l c v i a S w d b (Int.le_trans f aD) g).mono fun _ _ h=>⟨_,h.1,(NC l _ _ b).1,(NC l _ _ b).2,h.2⟩
end Go.Proofs.YtohddpbgflgiaaaGreatDoor
namespace Go.Proofs.YtohddpbgflgiaaaGreatDoor.aC
def lI(f:dA):Prop:=dD f=true/\cL f<=100
theorem Q9:∀(k f n:Nat),n<10 ^ (k+1)->xB f n<=k+1
 |_,0,_,_=>by unfold xB;omega
 |0,f+1,n,h=>by unfold xB;rw[if_pos Fa];omega
 |k+1,f+1,n,h=>by
  unfold xB;split
  ·omega
  ·have:=Q9 k f (n / 10) (by rw[Nat.div_lt_iff_lt_mul aD];rw[Nat.pow_succ] at h;omega)
   omega
theorem eB{n:Int}(h0: -1000000<n)(h1:n<1000000):dN n<=7:=by
 unfold dN;have:=Q9 5 40 n.natAbs jo;split<;>omega
theorem uh{n a b:Int}(h0:a<=n)(h1:n<=b):tE n a b=true:=by
 simp[tE,h0,h1]
theorem qN{c d a b:Int}(h0:a<=c)(h1:c<=d)(h2:d<=b):ig c d a b=true:=by
 simp[ig,h0,h1,h2]
theorem lC{s:Nm}(h:s.size<=12):eF s<=12:=by
 unfold eF;split<;>omega
theorem jy{s:Nm}(h:bE s=true):s.size<=12:=by
 unfold bE at h;simp only[pR,oW] at h;omega
theorem Yx{c:Nm}{a b:Int}(d:bE c=true)(h:Ord a b):lI ⟨c,nil,nil,2,a,b,[],[]⟩:=by
 obtain⟨g,f,i⟩:=h;refine⟨?_,?_⟩
 ·have e:ig a b (-1048576) 1048576=true:=qN aD f aD
  simp[dD,lT,kZ,e,d]
 ·have j:=eB (n:=a) aD aD
  have k:=eB (n:=b) aD aD;have l:=jy d;simp[cL,mU];omega
theorem Yy{f o:Nm}{b c:Int}(d:bE f=true)(a:o=nil\/bE o=true)(h:Ord b c):lI ⟨f,o,nil,4,b,c,[],[]⟩:=by
 obtain⟨i,g,j⟩:=h;have e:ig b c (-1048576) 1048576=true:=qN aD g aD;have k:=eB (n:=b) aD aD;have l:=eB (n:=c) aD aD;have m:=jy d
 have p:eF o<=12:=by
  rcases a with rfl|a
  ·decide
  ·exact lC (jy a)
 refine⟨?_,?_⟩
 ·rcases a with rfl|a
  ·simp[dD,lT,kZ,e,d]
  ·simp[dD,lT,kZ,e,d,a]
 ·simp[cL,mU];omega
theorem abP{a b:Int}(h0:0<=a)(h1:a<=b)(h2:b<=10):lI (qm a b):=by
 have e:ig a b 0 32=true:=qN h0 h1 aD;have g:=eB (n:=a) aD aD;have h:=eB (n:=b) aD aD;have c:bE rL=true:=iG
 have d:bE sP=true:=iG
 have f:rL.size=5:=rfl;have i:eF sP<=12:=iG
 refine⟨?_,?_⟩
 ·simp[dD,lT,kZ,qm,e,c,d]
 ·simp[cL,qm,mU,f];omega
theorem aiZ{a:Int}(h0: -3<=a)(h1:a<=100):lI (tQ a):=by
 have e:tE a (-1048576) 1048576=true:=uh aD aD;have d:=eB (n:=a) aD aD;have b:bE nId=true:=iG
 have c:nId.size=2:=rfl;refine⟨?_,?_⟩
 ·simp[dD,lT,kZ,tQ,e,b]
 ·simp[cL,tQ,mU,c];omega
theorem ad6{c o:Nm}{a b:Int}(d:bE c=true)(f:bE o=true)(h0:0<=a)(h1:a<=b)(h2:b<=100):lI ⟨c,o,nil,1,a,b,[],[]⟩:=by
 have e:ig a b 0 65536=true:=qN h0 h1 aD;have g:=eB (n:=a) aD aD;have h:=eB (n:=b) aD aD;have i:=jy d;have j:eF o<=12:=lC (jy f);refine⟨?_,?_⟩
 ·simp[dD,lT,kZ,e,d,f]
 ·simp[cL,mU];omega
theorem Yz{s:Nm}(a:bE s=true):lI (sQ s):=by
 have b:bE CH=true:=iG
 have c:bE yB=true:=iG
 have d:CH.size=4:=rfl;have e:yB.size=2:=rfl;have f:=jy a;refine⟨?_,?_⟩
 ·simp[dD,lT,kZ,sQ,b,c,a]
 ·simp[cL,sQ,mU,d,e];omega
theorem YA{a b:Int}(h0:0<=a)(h1:a<=b)(h2:b<=20):lI (oZ a b):=by
 have e:ig a b 0 1048576=true:=qN h0 h1 aD;have j:=eB (n:=a) aD aD;have k:=eB (n:=b) aD aD;have c:bE AU=true:=iG
 have d:bE yB=true:=iG
 have f:bE gH=true:=iG
 have g:AU.size=4:=rfl;have h:yB.size=2:=rfl;have i:gH.size=5:=rfl;refine⟨?_,?_⟩
 ·simp[dD,lT,kZ,oZ,c,d,f,e]
 ·simp[cL,oZ,mU,g,h,i];omega
theorem abQ{s:Nm}(a:bE s=true):lI (iV s):=by
 have b:bE gH=true:=iG
 have c:gH.size=5:=rfl;have d:=jy a;refine⟨?_,?_⟩
 ·simp[dD,lT,kZ,iV,b,a]
 ·simp[cL,iV,mU,c];omega
theorem Gm:∀(a:List Nm) (b:List Int),(∀w∈a,w.size<=12)->(∀g∈b,0<=g/\g<=5)->je a b<=21*a.length
 |[],b,_,_=>by cases b<;>simp[je]
 |w::a,[],_,_=>by simp[je]
 |w::a,g::b,hw,hg=>by
  have c:=hw w bH;have d:=hg g bH;have e:=Gm a b (fun x hx=>hw x ah3) (fun x hx=>hg x ah3);have f:=eB (n:=g) aD aD;simp[je];omega
theorem ai0{n:Nat}{b:List Int}(h1:1<=n)(h2:n<=3)(i:b.length=n)(f:∀g∈b,0<=g/\g<=5)(j:0<tL b):lI (Ff (ja.take n) b):=by
 have a:(ja.take n).length=n:=by simp[ja];omega
 have c:∀w∈ja.take n,bE w=true:=by
  intro w c;have:=List.mem_of_mem_take c;have e:ja.all bE=true:=iG
  exact alU.1 e w this
 have k:bE BO=true:=iG
 have l:BO.size=3:=rfl;refine⟨?_,?_⟩
 ·have h:kR (ja.take n) b=true:=by
   have a1:b.all (fun n=>tE n 0 1048576)=true:=alU.2 fun g hx=>uh (f g hx).1 (by have:=(f g hx).2;omega)
   have m:tE (ja.take n).length 1 12=true:=uh aD aD
   have o:(ja.take n).all bE=true:=alU.2 c
   unfold kR
   rw[a1,m,o]
   simp[j,a,i]
  simp[dD,lT,kZ,Ff,k,h]
 ·have h:=Gm (ja.take n) b (fun w hx=>jy (c w hx)) f
  rw[a] at h;have d:=eB (n:=(n:Int)) aD aD;simp only[cL,Ff,mU,l,a];simp;omega
theorem fN.v{l:List dA}(h:fN l):∀f∈l,lI f:=by
 have c:bE jJ=true:=iG
 have b:bE qG=true:=iG
 have d:bE AV=true:=iG
 have e:bE nT=true:=iG
 have g:bE mY=true:=iG
 intro f a;cases h with
 |none=>simp at a
 |size lo hi h=>simp at a;subst a;exact Yx c h
 |tag n gs h1 h2 h3 h4 h5=>simp at a;subst a;exact ai0 h1 h2 h3 h4 h5
 |born lo hi lo' hi' h h'=>
  rcases (by simpa using a:f=tO lo hi\/f=wG lo' hi') with rfl|rfl
  ·exact Yy b (.inl rfl) h
  ·exact Yy d (.inr b) h'
 |state lo hi h1 h2 h3=>simp at a;subst a;exact abP h1 h2 h3
 |low lo hi lo' hi' h h'=>
  rcases (by simpa using a:f=Fg lo hi\/f=tP lo' hi') with rfl|rfl
  ·exact Yx e h
  ·exact Yx g h'
def Cop(f:dA):Prop:=f.kind=2\/f.kind=3\/f.kind=4\/f.kind=5\/f.kind=8
def fs(ks:List fT)(i:Nat):List dA:=(kL ks i).aF
def Up(ks:List fT)(i j u:Nat):Prop:=u<i/\∃a g,a<j/\(fs ks i)[a]?=some g/\g.name=yB/\g.kind=1/\g.of=cZ u
structure Fq(ks:List fT)(i j:Nat)(f:dA):Prop where
 val:lI f
 ref:f.kind=1->∃u,u<i/\f.of=cZ u
 time:f.kind=4->f.of=nil\/∃j' g,j'<j/\(fs ks i)[j']?=some g/\g.name=f.of/\g.kind=4
 life:f.kind=5->f.of=sP
 sum:f.kind=6->f.name=gH/\∃o j' g,i<o/\o<ks.length/\f.of=cZ o/\(fs ks o)[j']?=some g/\g.kind=7/\Up ks o j' i
 part:f.kind=7->f.name=AU/\f.of=gH/\f.up=yB/\∃u,Up ks i j u/\∃t,t∈fs ks u/\t.name=gH/\t.kind=6/\t.of=cZ i
 same:f.kind=8->f.up=yB/\∃u,Up ks i j u/\∃t,t∈fs ks u/\t.name=f.of/\Cop t
structure Td(ks:List fT)(i:Nat):Prop where
 span:0<=(kL ks i).lo/\(kL ks i).lo<=(kL ks i).hi/\(kL ks i).hi<=20
 nodup:((fs ks i).map dA.name).Nodup
 head:∃f l,fs ks i=f::l/\f.kind=0/\∀g∈l,g.kind≠0
 lead:∀j f,(fs ks i)[j]?=some f->Fq ks i j f
def Ext(ks a:List fT):Prop:=ks.length<=a.length/\∀i,i<ks.length->∃l,fs a i=fs ks i++l
theorem Ext.get{ks a:List fT}(h:Ext ks a){i j:Nat}{f:dA}(c:i<ks.length)(b:(fs ks i)[j]?=some f):(fs a i)[j]?=some f:=by
 obtain⟨l,e⟩:=h.2 i c;rw[e,List.getElem?_append_left (by have:=zxu.1 b;obtain⟨h,_⟩:=this;exact h)];exact b
theorem Ext.mem{ks a:List fT}(h:Ext ks a){i:Nat}{f:dA}(b:i<ks.length)(c:f∈fs ks i):f∈fs a i:=by
 obtain⟨l,e⟩:=h.2 i b;rw[e];exact List.mem_append_left _ c
theorem Up.ext{ks a:List fT}(h:Ext ks a){i j u:Nat}(b:i<ks.length)(c:Up ks i j u):Up a i j u:=by
 obtain⟨d,e,g,f,k,l⟩:=c;exact⟨d,e,g,f,h.get b k,l⟩
theorem Fq.ext{ks d:List fT}(h:Ext ks d){i j:Nat}{f:dA}(n:i<ks.length)(b:Fq ks i j f):Fq d i j f where
 val:=b.val
 ref:=b.ref
 time:=fun e=>by
  rcases b.time e with a|⟨p,g,a,k,c⟩
  ·exact .inl a
  ·exact .inr ⟨p,g,a,h.get n k,c⟩
 life:=b.life
 sum:=fun e=>by
  obtain⟨a,o,p,g,k,c,h4,l,m,q⟩:=b.sum e;exact⟨a,o,p,g,k,oN c h.1,h4,h.get c l,m,q.ext h c⟩
 part:=fun e=>by
  obtain⟨a,k,c,u,h4,t,l,m⟩:=b.part e;exact⟨a,k,c,u,h4.ext h n,t,h.mem Ki l,m⟩
 same:=fun e=>by
  obtain⟨a,u,h4,t,l,m⟩:=b.same e;exact⟨a,u,h4.ext h n,t,h.mem Ki l,m⟩
theorem Co{α:Type}{a b:List α}{j:Nat}{f:α}(h:(a++b)[j]?=some f):a[j]?=some f\/∃c,j=a.length+c/\b[c]?=some f:=by
 by_cases d:j<a.length
 ·rw[List.getElem?_append_left d] at h;exact .inl h
 ·rw[List.getElem?_append_right aD] at h
  exact .inr ⟨j-a.length,aD,h⟩
theorem mQ{f:dA}(h:dD f=true):0<=f.kind/\f.kind<=8:=by
 unfold dD kZ at h;simp only[pR] at h;have a:=h.2
 iterate 9
  split at a;· omega
 exact absurd a bH
theorem afT{f:dA}(h:dD f=true)(a:yC f):Cop f:=by
 have b:=mQ h;obtain⟨c0,c1,c,d⟩:=a;unfold Cop;omega
theorem uj{i:Nat}(h:i<3):bE (cZ i)=true:=by
 have e:∀i:Fin 3,bE (cZ i.1)=true:=iG
 exact e ⟨i,h⟩
theorem qO{ks:List fT}{i j:Nat}{f:dA}(a:lI f)(h:f.kind=0\/f.kind=2\/f.kind=3):Fq ks i j f where
 val:=a
 ref:=fun e=>by omega
 time:=fun e=>by omega
 life:=fun e=>by omega
 sum:=fun e=>by omega
 part:=fun e=>by omega
 same:=fun e=>by omega
theorem fN.lead{ks:List fT}{i:Nat}{l pre post:List dA}(h:fN l)(b:fs ks i=pre++(l++post)):∀(j:Nat) (f:dA),l[j]?=some f->Fq ks i (pre.length+j) f:=by
 intro j f hf;have a:=h.v f (List.mem_of_getElem? hf);cases h with
 |none=>simp at hf
 |size lo hi h=>
  have:f=F5 lo hi:=CA
  subst this;exact qO a (.inr (.inl rfl))
 |tag n gs h1 h2 h3 h4 h5=>
  have:f=Ff (ja.take n) gs:=CA
  subst this;exact qO a (.inr (.inr rfl))
 |born lo hi lo' hi' h h'=>
  have c:f.kind=4:=by
   rcases (by simpa using List.mem_of_getElem? hf:f=tO lo hi\/f=wG lo' hi') with rfl|rfl<;>rfl
  refine⟨a,fun e=>by omega,fun _=>?_,fun e=>by omega,fun e=>by omega,fun e=>by omega,fun e=>by omega⟩
  match j,hf with
  |0,hf=>simp at hf;subst hf;exact .inl rfl
  |1,hf=>
   simp at hf;subst hf
   refine .inr ⟨pre.length,tO lo hi,aD,?_,rfl,rfl⟩
   rw[b,List.getElem?_append_right aD];simp
  |j+2,hf=>simp at hf
 |state lo hi h1 h2 h3=>
  have:f=qm lo hi:=CA
  subst this
  have c:(qm lo hi).kind=5:=rfl
  exact⟨a,fun e=>by omega,fun e=>by omega,fun _=>rfl,fun e=>by omega,fun e=>by omega,fun e=>by omega⟩
 |low lo hi lo' hi' h h'=>
  rcases (by simpa using List.mem_of_getElem? hf:f=Fg lo hi\/f=tP lo' hi') with rfl|rfl<;>exact qO a (.inr (.inl rfl))
theorem fN.names{l:List dA}(h:fN l):l.map dA.name=[]\/l.map dA.name=[jJ]\/l.map dA.name=[BO]\/l.map dA.name=[qG,AV]\/l.map dA.name=[rL]\/l.map dA.name=[nT,mY]:=by
 cases h<;>simp[F5,Ff,tO,wG,qm,Fg,tP]
theorem fN.kind{l:List dA}(h:fN l):∀f∈l,f.kind≠0:=by
 intro f a;cases h with
 |none=>simp at a
 |size lo hi h=>simp at a;subst a;show (2:Int)≠0;decide
 |tag n gs h1 h2 h3 h4 h5=>simp at a;subst a;show (3:Int)≠0;decide
 |born lo hi lo' hi' h h'=>rcases (by simpa using a:f=tO lo hi\/f=wG lo' hi') with rfl|rfl<;>(show (4:Int)≠0;decide)
 |state lo hi h1 h2 h3=>simp at a;subst a;show (5:Int)≠0;decide
 |low lo hi lo' hi' h h'=>rcases (by simpa using a:f=Fg lo hi\/f=tP lo' hi') with rfl|rfl<;>(show (2:Int)≠0;decide)
def kU:List Nm:=[nId,yB,CH,AU,nBy]
def NW:List Nm:=[jJ,BO,qG,AV,rL,nT,mY]
theorem abR:∀a∈kU,∀b∈NW,a≠b:=iG
theorem IU{p q a:List dA}(d:fN p)(h:qH (a++p) q):((p++q).map dA.name).Nodup:=by
 rcases h with rfl|⟨i,j⟩
 ·rw[zxp]
  rcases d.names with e|e|e|e|e|e<;>rw[e]<;>decide
 ·have k:∀x,(q.map dA.name).head?=some x->x∉p.map dA.name:=by
   intro x hx l
   rw[List.head?_map] at hx
   obtain⟨f,m,rfl⟩:=Option.map_eq_some_iff.1 hx
   obtain⟨g,n,e⟩:=List.mem_map.1 l
   exact j f m g (List.mem_append_right _ n) e
  rw[zxj];have b:=d.names;have c:=i.names;generalize p.map dA.name=P at*;generalize q.map dA.name=Q at*;rcases b with rfl|rfl|rfl|rfl|rfl|rfl<;>rcases c with rfl|rfl|rfl|rfl|rfl|rfl<;>first|decide|exact(k _ rfl bH).elim
theorem fN.tE{l:List dA}(h:fN l):∀n∈l.map dA.name,n∈NW:=by
 rcases h.names with e|e|e|e|e|e<;>rw[e]<;>simp[NW]
structure ai1(L:List fT)(n:Nat)(h:List dA):Prop where
 lead:∀j f,h[j]?=some f->Fq L n j f
 head:∃f l,h=f::l/\f.kind=0/\∀g∈l,g.kind≠0
 names:h.map dA.name∈[[nId],[nId,yB],[nId,yB,CH],[nId,yB,AU],[nId,yB,CH,AU]]
theorem ai2{ks b:List fT}{k:fT}{h post:List dA}(P:rP ks k.name b h)(Z:ks.length<=2)(Q:k.name=cZ ks.length)(w:∀i,i<ks.length->(kL ks i).name=cZ i)
  (R:∀(i j:Nat) (f:dA),i<ks.length->(fs ks i)[j]?=some f->lI f)(hx:Ext ks (b++[k]))(S:b.length=ks.length)
  (T:∀i,i<ks.length->fs (b++[k]) i=fs b i)(E:fs (b++[k]) ks.length=h++post):ai1 (b++[k]) ks.length h:=by
 obtain⟨a,F,G,⟨_,_,rfl⟩|⟨t,l,x,y,s,p,U,h4,h5,h6,H,I,rfl⟩⟩:=P
 ·refine⟨fun j f hf=>?_,⟨_,_,rfl,rfl,bH⟩,by simp[tQ]⟩
  have:f=tQ a:=CA
  subst this;exact qO (aiZ F G) (.inl rfl)
 ·rw[w t l] at E ⊢
  have J:∀j,2<=j->Up (b++[k]) ks.length j t:=fun j u=>⟨l,1,AY (cZ t) x y,aD,by rw[E];rfl,rfl,rfl,rfl⟩
  have K:∀f∈s,lI f/\f.kind=8/\∀j,2<=j->Fq (b++[k]) ks.length j f:=by
   intro f hf;rcases H with rfl|⟨c,z,m,rfl⟩
   ·simp at hf
   ·have d:(kL ks t).aF[c]∈fs ks t:=eV z
    have n:=R t c _ l (lN z)
    have o:bE (kL ks t).aF[c].name=true:=by
     have:=n.1;unfold dD at this;simp only[pR] at this;exact this.1.1
    rw[nL.1 hf];have v:(sQ (kL ks t).aF[c].name).kind=8:=rfl;refine⟨Yz o,v,fun j u=>⟨Yz o,fun e=>by omega,fun e=>by omega,fun e=>by omega,fun e=>by omega,fun e=>by omega,fun _=>⟨rfl,t,J j u,_,hx.mem l d,rfl,afT n.1 m⟩⟩⟩
  have L:∀f∈p,lI f/\f.kind=7/\∀j,2<=j->Fq (b++[k]) ks.length j f:=by
   intro f hf;rcases I with⟨rfl,_⟩|⟨q,r,A,B,C,rfl,V,M⟩
   ·simp at hf
   ·rw[nL.1 hf]
    have v:(oZ q r).kind=7:=rfl;refine⟨YA A B C,v,fun j u=>⟨YA A B C,fun e=>by omega,fun e=>by omega,fun e=>by omega,fun e=>by omega,fun _=>⟨rfl,rfl,rfl,t,J j u,iV k.name,?_,rfl,rfl,Q⟩,fun e=>by omega⟩⟩;rw[T t l,M];show _∈((ks.set t (fV (kL ks t) k.name)).getD t QC).aF
    rw[iY,List.getElem?_set_self l];simp[fV]
  have W:s.map dA.name=[]\/s.map dA.name=[CH]:=by
   rcases H with rfl|⟨c,z,m,rfl⟩
   ·exact .inl rfl
   ·exact .inr rfl
  have X:p.map dA.name=[]\/p.map dA.name=[AU]:=by
   rcases I with⟨rfl,_⟩|⟨q,r,A,B,C,rfl,V,M⟩
   ·exact .inl rfl
   ·exact .inr rfl
  have Y:lI (AY (cZ t) x y):=ad6 iG (uj aD) U aD aD;refine⟨fun j f hf=>?_,⟨_,_,rfl,rfl,?_⟩,?_⟩
  ·match j,hf with
   |0,hf=>simp at hf;subst hf;exact qO (aiZ F G) (.inl rfl)
   |1,hf=>
    simp at hf;subst hf
    have v:(AY (cZ t) x y).kind=1:=rfl
    exact⟨Y,fun _=>⟨t,l,rfl⟩,fun e=>by omega,fun e=>by omega,fun e=>by omega,fun e=>by omega,fun e=>by omega⟩
   |j+2,hf=>
    have d:f∈s++p:=List.mem_of_getElem? ah6
    rcases zxx.1 d with d|d
    ·exact(K f d).2.2 _ aD
    ·exact(L f d).2.2 _ aD
  ·intro g D
   rcases mr.1 D with rfl|D
   ·show (1:Int)≠0;decide
   ·rcases zxx.1 D with d|d
    ·have:=(K g d).2.1;omega
    ·have:=(L g d).2.1;omega
  ·rw[zxt,zxt,zxj]
   rcases W with N|N<;>rcases X with O|O<;>rw[N,O]<;>simp[tQ,AY]
theorem YB{ks c:List fT}{k:fT}(R:tR ks c k)(o:∀i,i<ks.length->(kL ks i).name=cZ i)
  (S:∀(i j:Nat) (f:dA),i<ks.length->(fs ks i)[j]?=some f->lI f)(hx:Ext ks (c++[k]))(w:c.length=ks.length)
  (T:∀i,i<ks.length->fs (c++[k]) i=fs c i)(J:kL (c++[k]) ks.length=k):Td (c++[k]) ks.length:=by
 obtain⟨U,D,V,W,X,h,y,p,q,K,L,z,A,Y⟩:=R
 have u:fs (c++[k]) ks.length=h++(y++(p++q)):=by
  show (kL (c++[k]) ks.length).aF=_
  rw[J,Y];simp
 have B:=ai2 K U D o S hx w T u
 have M:y.map dA.name=[]\/y.map dA.name=[nBy]:=by
  rcases L with rfl|⟨_,rfl⟩
  ·exact .inl rfl
  ·exact .inr rfl
 have N:∀f∈y,f.kind≠0/\∀j,Fq (c++[k]) ks.length j f:=by
  intro f s;rcases L with rfl|⟨C,rfl⟩
  ·simp at s
  ·have Z:ks=[]->False:=by intro e;rw[w,e] at C;exact absurd C bH
   have d:0<ks.length:=aD
   have E:(kL c 0).name=cZ 0:=by
    have h3:kL (c++[k]) 0=kL c 0:=by
     unfold kL;rw[iY,iY,List.getElem?_append_left aD]
    rcases K with⟨_,_,_,⟨e,_⟩|⟨t,ht,_,_,_,pp,_,_,_,_,_,F,_⟩⟩
    ·exact(Z e).elim
    ·rcases F with⟨_,rfl⟩|⟨_,_,_,_,_,_,_,rfl⟩
     ·exact o 0 d
     ·rw[kL,iY,List.getElem?_set]
      split
      ·rename_i O
       subst O;simp[fV,o 0 d]
      ·rw[<-iY]
       exact o 0 d
   rw[E] at s;rw[nL.1 s];have O:(Xj (cZ 0)).kind=1:=rfl;have vB:lI (Xj (cZ 0)):=ad6 iG (uj aD) aD aD aD;exact⟨aD,fun j=>⟨vB,fun _=>⟨0,d,rfl⟩,fun e=>by omega,fun e=>by omega,fun e=>by omega,fun e=>by omega,fun e=>by omega⟩⟩
 refine⟨by rw[J];exact⟨V,W,X⟩,?_,?_,?_⟩
 ·rw[u,<-zxm,zxj,List.nodup_append]
  refine⟨?_,IU z A,fun a r b v=>abR a ?_ b ?_⟩
  ·rw[zxj]
   have:=B.names;simp only[mr,List.mem_nil_iff,or_false] at this;rcases this with e|e|e|e|e<;>rcases M with x|x<;>rw[e,x]<;>decide
  ·rw[zxj] at r
   have:=B.names;simp only[mr,List.mem_nil_iff,or_false] at this;rcases zxx.1 r with r|r
   ·have hA:∀n,n∈h.map dA.name->n∈kU:=by
     rcases this with e|e|e|e|e<;>rw[e]<;>simp[kU]
    exact hA a r
   ·rcases M with e|e<;>rw[e] at r<;>simp at r;simp[r,kU]
  ·rw[zxj] at v
   rcases zxx.1 v with v|v
   ·exact z.tE b v
   ·exact A.plain.tE b v
 ·obtain⟨f,l,rfl,C,h2⟩:=B.head
  refine⟨f,l++(y++(p++q)),u,C,fun g m=>?_⟩;simp only[zxx] at m;rcases m with m|m|m|m
  ·exact h2 g m
  ·exact(N g m).1
  ·exact z.kind g m
  ·exact A.plain.kind g m
 ·intro j f P
  rw[u] at P;rcases Co P with G|⟨j1,Q,G⟩
  ·exact B.lead j f G
  ·rcases Co G with H|⟨j2,x,H⟩
   ·exact(N f (List.mem_of_getElem? H)).2 _
   ·rcases Co H with I|⟨j3,e3,I⟩
    ·have:=z.lead (pre:=h++y) (post:=q) (by rw[u];simp) j2 f I
     rw[rK,Nat.add_assoc,<-x,<-Q] at this;exact this
    ·have:=A.plain.lead (pre:=h++y++p) (post:=[]) (by rw[u];simp) j3 f I
     rw[rK,rK,Nat.add_assoc,Nat.add_assoc,<-e3,<-x,<-Q] at this;exact this
theorem YC{ks b:List fT}{k:fT}(K:tR ks b k)(L:∀i,i<ks.length->Td ks i)(hx:Ext ks (b++[k]))(A:b.length=ks.length)
  (B:∀i,i<ks.length->(kL ks i).name=cZ i)
  (M:kL (b++[k]) ks.length=k)(z:∀i,i<ks.length->kL (b++[k]) i=kL b i):∀i,i<ks.length->Td (b++[k]) i:=by
 intro i c;have d:=L i c;obtain⟨W,o,X,Y,Z,h,y,p,q,N,F,hp,hq,O⟩:=K
 have keep:kL b i=kL ks i->Td (b++[k]) i:=by
  intro e
  have m:fs (b++[k]) i=fs ks i:=by
   show (kL _ i).aF=_
   rw[z i c,e];rfl
  refine⟨by rw[z i c,e];exact d.span,by rw[m];exact d.nodup,by rw[m];exact d.head,fun j f r=>?_⟩;rw[m] at r;exact(d.lead j f r).ext hx c
 obtain⟨a,h1,h2,⟨_,rfl,_⟩|⟨t,P,G,u,s,pp,h3,h4,h5,h6,hs,C,Q⟩⟩:=N
 ·exact keep rfl
 ·rcases C with⟨_,rfl⟩|⟨v,w,q1,q2,q3,D,R,H⟩
  ·exact keep rfl
  ·by_cases hit:i=t
   ·subst hit
    have I:kL b i=fV (kL ks i) k.name:=by
     rw[H,kL,iY,List.getElem?_set_self P];rfl
    have m:fs (b++[k]) i=fs ks i++[iV k.name]:=by
     show (kL _ i).aF=_
     rw[z i c,I];rfl
    refine⟨by rw[z i c,I];exact d.span,?_,?_,fun j f r=>?_⟩
    ·rw[m,zxj,List.nodup_append]
     refine⟨d.nodup,bH,fun x hx y F=>?_⟩;obtain⟨g,n,rfl⟩:=List.mem_map.1 hx;have:y=gH:=by simpa [iV] using F
     subst this;exact R g n
    ·obtain⟨f,l,S,T,U⟩:=d.head
     refine⟨f,l++[iV k.name],by rw[m,S];rfl,T,fun g n=>?_⟩;rcases zxx.1 n with n|n
     ·exact U g n
     ·rw[nL.1 n];show (6:Int)≠0;decide
    ·rw[m] at r
     rcases Co r with E|⟨j1,ej,E⟩
     ·exact(d.lead j f E).ext hx c
     ·have:f=iV k.name:=by simpa using List.mem_of_getElem? E
      subst this;have V:lI (iV k.name):=abQ (by rw[o];exact uj aD);have e0:(iV k.name).kind=6:=rfl
      have J:fs (b++[k]) ks.length=tQ a::AY (kL ks i).name G u::(s++(oZ v w::(y++(p++q)))):=by
       show (kL (b++[k]) ks.length).aF=_
       rw[M,O,Q,D];simp
      refine⟨V,fun e=>by omega,fun e=>by omega,fun e=>by omega,fun _=>⟨rfl,ks.length,s.length+2,oZ v w,c,by simp[A],o,?_,rfl,c,1,AY (kL ks i).name G u,aD,by rw[J];rfl,rfl,rfl,B i c⟩,fun e=>by omega,fun e=>by omega⟩;rw[J];simp
   ·exact keep (by
     rw[H,kL,iY,List.getElem?_set_ne (fun e=>hit e.symm),<-iY];rfl)
theorem Ck.inv{ks:List fT}(h:Ck ks):∀i,i<ks.length->Td ks i:=by
 induction h with
 |nil=>intro i a;exact absurd a bH
 |snoc ks ks' k hg hk ih=>
  have d:=hg.good
  have b:=hk.le.2.2
  have c:∀i,i<ks.length->(kL ks i).name=cZ i:=fun i a=>by
   rw[kL,iY,lN a];exact d.2.2 i a
  have g:∀i,i<ks.length->kL (ks'++[k]) i=kL ks' i:=fun i a=>by
   unfold kL;rw[iY,iY,List.getElem?_append_left aD]
  have n:kL (ks'++[k]) ks.length=k:=by
   unfold kL;rw[iY,List.getElem?_append_right aD,b,Nat.sub_self];rfl
  have hx:Ext ks (ks'++[k]):=⟨by simp[b],fun i a=>by
   show ∃l,(kL _ i).aF=(kL ks i).aF++l
   rw[g i a];rcases hk.old with rfl|⟨t,o,_,rfl⟩
   ·exact⟨[],bH⟩
   ·by_cases e:i=t
    ·subst e
     exact⟨[iV k.name],by rw[kL,iY,List.getElem?_set_self o,kL,iY,lN o];rfl⟩
    ·exact⟨[],by rw[kL,iY,List.getElem?_set_ne (fun h=>e h.symm),<-iY,zxp];rfl⟩⟩
  intro i a
  by_cases m:i<ks.length
  ·exact YC hk ih hx b c n g i m
  ·have e:i=ks.length:=by simp[b] at a;omega
   subst e;exact YB hk c (fun i j f a p=>((ih i a).lead j f p).val) hx b (fun i a=>by show (kL _ i).aF=_;rw[g i a];rfl) n
end Go.Proofs.YtohddpbgflgiaaaGreatDoor.aC
namespace Go.Proofs.YtohddpbgflgiaaaGreatDoor.aC
theorem Ac(x:cE)(i:Nat):kd x i=kL x.ah i:=rfl
theorem qP{x:cE}{i j:Nat}{f:dA}(h:(fs x.ah i)[j]?=some f):fd x i j=f:=by
 show (fs x.ah i).getD j AP=f
 rw[iY,h];rfl
theorem qQ{α:Type}{l:List α}{j:Nat}{f:α}(h:l[j]?=some f):j<l.length:=(zxu.1 h).1
theorem um{x:cE}{i j:Nat}(b:i<x.ah.length)(c:j<(fs x.ah i).length):hasB x i j=true:=by
 have a:j<(kd x (i:Int)).aF.length:=c;simp[hasB,b,a]
theorem mJ{ks:List fT}{i j:Nat}{f:dA}(hI:Td ks i)(c:(fs ks i)[j]?=some f):bV (kL ks i) f.name=j:=by
 obtain⟨hj,e⟩:=zxu.1 c
 have:=pZ (p:=fun g:dA=>decide (g.name=f.name)) (l:=fs ks i) (i:=0) hj (fun d h a=>by
  have b:=List.pairwise_iff_getElem.1 hI.nodup d j (by simpa using h) BI a;simp only[zxo] at b;rw[e] at b;exact decide_eq_false b) (by rw[e];simp)
 simpa [bV,fs] using this
theorem Te{i j:Nat}(c:i<3)(d:j<3)(h:cZ i=cZ j):i=j:=by
 have e:∀a b:Fin 3,cZ a.1=cZ b.1->a=b:=iG
 exact congrArg Fin.val (e ⟨i,c⟩ ⟨j,d⟩ h)
theorem ux{x:cE}(c:Ck x.ah){u:Nat}(a:u<x.ah.length):dc x (cZ u)=u:=by
 obtain⟨h, -,b⟩:=c.good
 have:=pZ (p:=fun k:fT=>decide (k.name=cZ u)) (l:=x.ah) (i:=0) a (fun d f g=>by
  rw[b d f];refine decide_eq_false fun e=>?_;have:=Te aD aD e;omega) (by rw[b u a];simp)
 simpa [dc] using this
theorem Ra{x:cE}(a:Ck x.ah){i u:Nat}{f:dA}(b:u<i)(c:i<x.ah.length)(h:f.of=cZ u):tM x i f=u:=by
 unfold tM;rw[h,ux a aD,if_pos aD]
theorem Rb{x:cE}(c:Ck x.ah){i j u:Nat}{f:dA}(a:i<x.ah.length)(b:(fs x.ah i)[j]?=some f)(d:f.kind=1)(e:u<i)(h:f.of=cZ u):eD x i j=u:=by
 unfold eD;rw[if_pos (um a (qQ b))];simp only[qP b];rw[if_neg aD,if_pos d];exact Ra c e a h
theorem NZ{x:cE}(c:Ck x.ah){i j u:Nat}{f:dA}(a:i<x.ah.length)(d:(fs x.ah i)[j]?=some f)(e:f.kind=7\/f.kind=8)(h:f.up=yB)(k:Up x.ah i j u):eD x i j=u:=by
 obtain⟨l,m,g,s,b,n,o,p⟩:=k;have q:=c.inv i a;have r:bV (kd x (i:Int)) yB=m:=by rw[Ac,<-n];exact mJ q b
 unfold eD;rw[if_pos (um a (qQ d))];simp only[qP d];rw[if_pos e,h,r,if_pos ⟨um a (qQ b),aD,by rw[qP b];exact o⟩,qP b];exact Ra c l a p
theorem abS{x:cE}(h:F7 x):eT x:=by
 intro k j c d a;have b:(fs x.ah k)[j]?=some (fs x.ah k)[j]:=lN d;have e:=qP b;have f:=(h.ah.inv k c).lead j _ b;rw[e] at a;obtain⟨u,g,i⟩:=f.ref a;rw[Rb h.ah c b a g i];omega
theorem Rc{x:cE}(h:Ck x.ah){i j u:Nat}{f t:dA}(c:u<x.ah.length)(b:eD x i j=u)(k:t∈fs x.ah u)(l:t.name=f.of):zW x i j f=some t:=by
 obtain⟨d,a,e⟩:=zxf k;have g:(fs x.ah u)[d]?=some t:=by rw[lN a,e]
 have m:bV (kd x (u:Int)) f.of=d:=by rw[Ac,<-l];exact mJ (h.inv u c) g
 unfold zW;rw[b,if_neg aD,m,if_pos (um c a),qP g]
theorem filter_one{l:List Int}(f:l.Nodup){p:Int->Bool}{a:Int}(d:a∈l)(i:∀b∈l,p b=true↔b=a):(l.filter p).length=1:=by
 have e:l.filter p=l.filter (fun b=>b==a):=List.filter_congr fun b g=>by
  have:=i b g;by_cases e:b=a
  ·rw[this.2 e];simp[e]
  ·have j:p b=false:=by
    cases hpb:p b
    ·rfl
    ·exact absurd (this.1 hpb) e
   rw[j];simp[e]
 rw[e];clear e i;induction l with
 |nil=>simp at d
 |cons b l ih=>
  rw[List.nodup_cons] at f
  rcases mr.1 d with rfl|d
  ·have:l.filter (fun b=>b==a)=[]:=List.filter_eq_nil_iff.2 fun c k h=>by
    have:c=a:=Fa
    subst this;exact f.1 k
   simp[this]
  ·have g:¬(b==a)=true:=fun h=>by
    have:b=a:=Fa
    subst this;exact f.1 d
   rw[List.filter_cons,if_neg g];exact ih f.2 d
theorem Tf{x:cE}(q:Ck x.ah){i o j:Nat}{g:dA}(r:o<x.ah.length)(f:(fs x.ah o)[j]?=some g)(m:g.kind=7)(u:Up x.ah o j i):(mP x i o gH).length=1:=by
 have l:=q.inv o r;have v:=qQ f;have n:=(l.lead j g f).part m;unfold mP;refine filter_one (a:=(j:Int)) ?_ ?_ ?_
 ·rw[List.Nodup,List.pairwise_map]
  exact List.Pairwise.imp (fun h=>by omega) List.nodup_range
 ·exact List.mem_map.2 ⟨j,List.mem_range.2 v,rfl⟩
 ·intro b w
  obtain⟨k,c,rfl⟩:=List.mem_map.1 w;have c:k<(fs x.ah o).length:=List.mem_range.1 c;have d:(fs x.ah o)[k]?=some (fs x.ah o)[k]:=lN c;constructor
  ·intro p
   rw[qP d] at p;simp only[pR,oW] at p;have y:=((l.lead k _ d).part p.1.1).1;have s:=mJ l d;have t:=mJ l f;rw[y] at s;rw[n.1] at t;rw[<-s,<-t]
  ·intro e
   have e:k=j:=aD
   subst e;rw[qP f,NZ q r f (.inl m) n.2.2.1 u];simp[m,n.2.1]
theorem YD{x:cE}(h:F7 x){i j:Nat}(v:i<x.ah.length)(A:j<(kd x i).aF.length):nR x i j=0:=by
 have d:=h.ah;have y:=d.inv i v;have hf:(fs x.ah i)[j]?=some (fs x.ah i)[j]:=lN A;generalize (fs x.ah i)[j]=f at hf;have m:=y.lead j f hf;unfold nR;rw[qP hf,Ac,mJ y hf,if_neg aD];unfold mC;simp only[qP hf];have E:=mQ m.val.1;split
 ·rename_i e
  rw[if_neg];intro z;obtain⟨F,l,c,p,q⟩:=y.head;rw[c] at hf;match j,hf,z with
  |0,_,z=>exact absurd z bH
  |j+1,hf,_=>exact q f (List.mem_of_getElem? ah6) e
 split
 ·rename_i e
  obtain⟨u,k,b⟩:=m.ref e;rw[Rb d v hf e k b,if_neg aD]
 split
 ·rename_i e
  rw[if_neg];rintro ⟨r,k⟩;rcases m.time e with b|⟨B,g,b,h4,n,s⟩
  ·exact r b
  ·rw[Ac,<-n,mJ y h4,qP h4] at k
   omega
 split
 ·rename_i e
  rw[m.life e,if_pos];obtain⟨l,r,k⟩:=h.aV;simp[FZ,r,k.1]
 split
 ·rename_i e
  obtain⟨r,o,B,g,k,b,h4,n,s,w⟩:=m.sum e
  have c:jQ x i f=o:=by
   unfold jQ;rw[h4,ux d b,if_pos ⟨e,aD⟩]
  have C:jR x i f=mP x i o f.name:=by unfold jR;rw[c,if_neg aD]
  rw[c,if_neg aD,C,r,Tf d b n s w,if_neg bH]
 split
 ·rename_i e
  obtain⟨r,k,b,u,h4,t,n,s,w,D⟩:=m.part e;have c:=NZ d v hf (.inl e) b h4;have p:zW x i j f=some t:=Rc d Ki c n (by rw[s,k]);have q:pS x i j f=t:=by unfold pS;rw[p];rfl
  rw[c,if_neg aD,if_neg];rintro (a|a|a)
  ·rw[p] at a;exact absurd a bH
  ·rw[q] at a;exact a w
  ·rw[q,D,ux d v] at a;exact a rfl
 split
 ·rename_i e
  obtain⟨b,u,h4,t,n,s,w⟩:=m.same e;have c:=NZ d v hf (.inr e) b h4;have p:zW x i j f=some t:=Rc d Ki c n s;have q:pS x i j f=t:=by unfold pS;rw[p];rfl
  rw[c,if_neg aD,if_neg];rintro (a|a)
  ·rw[p] at a;exact absurd a bH
  ·rw[q] at a;exact a w
 rfl
theorem abT{x:cE}(h:F7 x){i:Nat}(a:i<x.ah.length):wF x i=0:=by
 have c:=h.ah;have g:=c.good.2.2 i a
 have e:(kd x (i:Int)).name=cZ i:=by
  rw[Ac,kL,iY,lN a];exact g
 obtain⟨d,l,k,m,o⟩:=(c.inv i a).head;have f:(fs x.ah i)[0]?=some d:=by rw[k];rfl
 have n:fd x i 0=d:=qP (j:=0) f;unfold wF;rw[e,ux c a,if_neg aD,n,if_neg];rintro (b|b)
 ·have:=qQ f
  have b:(fs x.ah i).length=0:=b;omega
 ·exact b m
def Gn(l:List dA):Prop:=∀f∈l,((f.name=nT\/f.name=mY\/f.name=jJ)->f.kind=2)/\(f.name=nT->∃g∈l,g.name=mY)
theorem Ad{l:List dA}(h:∀n∈l.map dA.name,n∈gH::kU):Gn l:=by
 have hd:∀a∈gH::kU,a≠nT/\a≠mY/\a≠jJ:=iG
 intro f b;obtain⟨c,d,g⟩:=hd f.name (h _ (List.mem_map_of_mem b));exact⟨fun e=>by rcases e with e|e|e<;>contradiction,fun e=>absurd e c⟩
theorem vA{a b:List dA}(i:Gn a)(j:Gn b):Gn (a++b):=by
 intro f c;rcases zxx.1 c with c|c
 ·exact⟨(i f c).1,fun e=>by obtain⟨g,d,h⟩:=(i f c).2 e;exact⟨g,List.mem_append_left _ d,h⟩⟩
 ·exact⟨(j f c).1,fun e=>by obtain⟨g,d,h⟩:=(j f c).2 e;exact⟨g,List.mem_append_right _ d,h⟩⟩
theorem fN.num{l:List dA}(h:fN l):Gn l:=by
 intro f a;cases h with
 |none=>simp at a
 |size lo hi h=>simp at a;subst a;exact⟨fun _=>rfl,fun e=>absurd e (by show jJ≠nT;decide)⟩
 |tag n gs h1 h2 h3 h4 h5=>simp at a;subst a;exact⟨fun e=>absurd e (by show ¬(BO=nT\/BO=mY\/BO=jJ);decide),fun e=>absurd e (by show BO≠nT;decide)⟩
 |born lo hi lo' hi' h h'=>
  rcases (by simpa using a:f=tO lo hi\/f=wG lo' hi') with rfl|rfl
  ·exact⟨fun e=>absurd e (by show ¬(qG=nT\/qG=mY\/qG=jJ);decide),fun e=>absurd e (by show qG≠nT;decide)⟩
  ·exact⟨fun e=>absurd e (by show ¬(AV=nT\/AV=mY\/AV=jJ);decide),fun e=>absurd e (by show AV≠nT;decide)⟩
 |state lo hi h1 h2 h3=>simp at a;subst a;exact⟨fun e=>absurd e (by show ¬(rL=nT\/rL=mY\/rL=jJ);decide),fun e=>absurd e (by show rL≠nT;decide)⟩
 |low lo hi lo' hi' h h'=>
  rcases (by simpa using a:f=Fg lo hi\/f=tP lo' hi') with rfl|rfl
  ·exact⟨fun _=>rfl,fun _=>⟨tP lo' hi',bH,rfl⟩⟩
  ·exact⟨fun _=>rfl,fun e=>absurd e (by show mY≠nT;decide)⟩
theorem rM.far{k:fT}{l:List dA}(h:rM k l):∀n∈l.map dA.name,n∈gH::kU:=by
 rcases h with rfl|⟨c,a,_,rfl⟩<;>simp[kU,sQ]
theorem zX.far{ks:List fT}{a:Nat}{c:Nm}{b:List fT}{l:List dA}(h:zX ks a c b l):∀n∈l.map dA.name,n∈gH::kU:=by
 rcases h with⟨rfl,_⟩|⟨d,e,f,g,i,rfl,j,k⟩<;>simp[kU,oZ]
theorem rP.far{ks:List fT}{d:Nm}{c:List fT}{l:List dA}(h:rP ks d c l):∀n∈l.map dA.name,n∈gH::kU:=by
 obtain⟨a,g,i,⟨_,_,rfl⟩|⟨t,j,k,m,s,p,o,q,r,u,e,f,rfl⟩⟩:=h
 ·simp[kU,tQ]
 ·intro n b
  simp only[zxt,zxj,mr,zxx] at b;rcases b with rfl|rfl|b|b
  ·simp[kU,tQ]
  ·simp[kU,AY]
  ·exact e.far n b
  ·exact f.far n b
theorem Ck.num{ks:List fT}(h:Ck ks):∀k∈ks,Gn k.aF:=by
 induction h with
 |nil=>intro k c;simp at c
 |snoc ks ks' k hg c ih=>
  intro y b
  rcases zxx.1 b with b|b
  ·rcases c.old with rfl|⟨t,d,_,rfl⟩
   ·exact ih y b
   ·rcases List.mem_or_eq_of_mem_set b with b|rfl
    ·exact ih y b
    ·exact vA (ih _ (eV d)) (Ad (by simp[iV]))
  ·rw[nL.1 b]
   obtain⟨_,_,_,_,_,a,y,p,q,e,b,f,g,i⟩:=c;rw[i];refine vA (vA (vA (Ad e.far) (Ad ?_)) f.num) g.plain.num;rcases b with rfl|⟨_,rfl⟩<;>simp[kU,Xj]
end Go.Proofs.YtohddpbgflgiaaaGreatDoor.aC
namespace Go.Proofs.YtohddpbgflgiaaaGreatDoor.aC
def ruN(c k:Nat):Nm:=[QE,QF,Iw].getD c nil++(cZ k).extract 0 1
theorem afU{c k b a:Nat}(g:c<3)(i:k<3)(d:b<3)(f:a<3)(h:k≠a):ruN c k≠ruN b a:=by
 have e:∀c k b a:Fin 3,k≠a->ruN c.1 k.1≠ruN b.1 a.1:=iG
 exact e ⟨c,g⟩ ⟨k,i⟩ ⟨b,d⟩ ⟨a,f⟩ (fun j=>h (congrArg Fin.val j))
theorem afV{c k:Nat}(a:c<3)(b:k<3):bE (ruN c k)=true:=by
 have e:∀c k:Fin 3,bE (ruN c.1 k.1)=true:=iG
 exact e ⟨c,a⟩ ⟨k,b⟩
structure afW(ks:List fT)(k:Nat)(r:Rul):Prop where
 lt:k<ks.length
 name:∃c,c<3/\r.name=ruN c k
 kind:r.kind=cZ k
 n: -200000<=r.n/\r.n<=200000
 a:r.a=nil\/(bE r.a=true/\∃f∈fs ks k,f.name=r.a/\f.kind=2)
 b:r.b=nil\/(bE r.b=true/\∃f∈fs ks k,f.name=r.b/\f.kind=2)
 ab:r.a≠r.b
theorem KT{l:List dA}{s:Nm}(h:0<=Fh l s):∃f∈l,f.name=s:=by
 rcases jS (fun f:dA=>decide (f.name=s)) l with⟨b,_⟩|⟨k,a,_,h2,_⟩
 ·have h:0<=iN (fun f:dA=>decide (f.name=s)) l 0:=h
  omega
 ·exact⟨l[k],eV a,ah7⟩
theorem rulG{ks:List fT}(j:Ck ks){k:Nat}(a:k<ks.length){r:Rul}(h:CJ ks[k] r):afW ks k r:=by
 obtain⟨c, -,p⟩:=j.good;have q:bE nT=true:=iG
 have s:bE mY=true:=iG
 have l:bE jJ=true:=iG
 have t:=p k a;have b:=j.num _ (eV a)
 have m:fs ks k=ks[k].aF:=by
  show (kL ks k).aF=_
  rw[kL,iY,lN a];rfl
 rw[<-m] at b;unfold CJ at h;rw[t,<-m] at h;rcases h with⟨n,d,e,i,rfl⟩|⟨n,d,e,i,u⟩
 ·obtain⟨f,f1,f2⟩:=KT i
  obtain⟨g,c,o⟩:=(b f f1).2 f2;exact⟨a,⟨0,aD,rfl⟩,rfl,⟨by show -200000<=n;omega,by show n<=200000;omega⟩,.inr ⟨q,f,f1,f2,(b f f1).1 (.inl f2)⟩,.inr ⟨s,g,c,o,(b g c).1 (.inr (.inl o))⟩,by show nT≠mY;decide⟩
 ·obtain⟨f,f1,f2⟩:=KT i
  have fk:=(b f f1).1 (.inr (.inr f2));rcases u with rfl|rfl
  ·exact⟨a,⟨1,aD,rfl⟩,rfl,⟨d,e⟩,.inr ⟨l,f,f1,f2,fk⟩,.inl rfl,by show jJ≠nil;decide⟩
  ·exact⟨a,⟨2,aD,rfl⟩,rfl,⟨d,e⟩,.inl rfl,.inr ⟨l,f,f1,f2,fk⟩,by show nil≠jJ;decide⟩
theorem YE{ks:List fT}(g:Ck ks){n:Nat}{rs:List Rul}(h:p8 ks n rs):(∀r∈rs,∃k,k<n/\afW ks k r)/\rs.Pairwise (fun r s=>r.name≠s.name):=by
 have w:=g.good.1;induction h with
 |nil=>exact⟨fun _ h=>absurd h bH,List.Pairwise.nil⟩
 |skip i rs h ih=>exact⟨fun r f=>by obtain⟨k,j,e⟩:=ih.1 r f;exact⟨k,aD,e⟩,ih.2⟩
 |take i rs r hi h f ih=>
  have l:=rulG g hi f
  refine⟨fun m d=>?_,?_⟩
  ·rcases zxx.1 d with d|d
   ·obtain⟨k,j,e⟩:=ih.1 m d;exact⟨k,aD,e⟩
   ·rw[nL.1 d];exact⟨i,aD,l⟩
  ·rw[List.pairwise_append]
   refine⟨ih.2,List.pairwise_singleton _ _,fun a o b p=>?_⟩;rw[nL.1 p];obtain⟨k,j,e⟩:=ih.1 a o;obtain⟨c,q,t⟩:=e.name;obtain⟨x,u,v⟩:=l.name;rw[t,v];have:=e.lt;exact afU q aD u aD aD
theorem KU{x:cE}(d:Ck x.ah){k:Nat}(a:k<x.ah.length){s:Nm}(h:s=nil\/∃f∈fs x.ah k,f.name=s/\f.kind=2):sO x k s=(false,false):=by
 unfold sO;by_cases e:s=nil\/(k:Int)<0
 ·rw[if_pos e]
 ·rw[if_neg e]
  rcases h with h|⟨f,g,i,l⟩
  ·exact absurd (.inl h) e
  ·obtain⟨j,b,rfl⟩:=zxf g
   have c:(fs x.ah k)[j]?=some (fs x.ah k)[j]:=lN b;have m:bV (kd x (k:Int)) s=j:=by rw[Ac,<-i];exact mJ (d.inv k a) c
   have n:(fd x k j).kind=2:=by rw[qP c];exact l
   simp[m,um a b,n]
theorem abU{x:cE}(h:F7 x){i:Nat}(d:i<x.aX.length):tN x i=0:=by
 obtain⟨n, -,g, -⟩:=h.aX;obtain⟨l,m⟩:=YE h.ah g;have e:rl x i=x.aX[i]:=by rw[rl,iY,lN d];rfl
 obtain⟨k, -,c⟩:=l _ (eV d);have o:=KU h.ah c.lt (c.a.imp id And.right);have p:=KU h.ah c.lt (c.b.imp id And.right);have q:dc x x.aX[i].kind=k:=by rw[c.kind];exact ux h.ah c.lt
 have r:¬(x.aX.take i).any (fun s=>decide (s.name=x.aX[i].name))=true:=by
  intro t;obtain⟨s,u,f⟩:=List.any_eq_true.1 t;obtain⟨j,v,rfl⟩:=zxf u;rw[List.getElem_take] at f;rw[VQ] at v;exact List.pairwise_iff_getElem.1 m j i aD d aD (by simpa using f)
 unfold tN;simp only[e];rw[if_neg r,q,o,p,if_neg bH,if_neg bH,if_neg c.ab]
theorem vC{α:Type}{g:α->Nat}{b:Nat}:∀(l:List α),(∀x∈l,g x<=b)->bP g l<=b*l.length:=by
 have:∀(l:List α) (n:Nat),(∀x∈l,g x<=b)->l.foldl (fun n x=>n+g x) n<=n+b*l.length:=by
  intro l;induction l with
  |nil=>intro n _;simp
  |cons x l ih=>
   intro n h
   have c:=h x bH
   have d:=ih (n+g x) (fun y a=>h y (by simp[a]))
   simp only[List.foldl_cons,zxg,Nat.mul_succ]
   omega
 intro l h;have:=this l 0 h;unfold bP;omega
theorem N7{n:Nat}:∀s∈rQ.take n,bE s=true:=by
 have e:rQ.all bE=true:=iG
 intro s a;exact alU.1 e s (List.mem_of_mem_take a)
theorem N8{l:Iu}(h:Xm l):wD l=true/\jf l<=400:=by
 obtain⟨c,n,t,u,d,v,e⟩:=h;have w:l.dR.length=n:=by rw[d,VQ];have:rQ.length=4:=rfl;omega
 have f:∀s∈l.dR,bE s=true:=by rw[d];exact N7
 have j:bE sP=true:=iG
 have k:sP.size=4:=rfl;refine⟨?_,?_⟩
 ·have a1:tE l.dR.length 1 12=true:=uh aD aD
  have o:l.dR.all bE=true:=alU.2 f
  have p:l.jd.all (CG l.dR.length)=true:=alU.2 fun m a=>by
   obtain⟨g,q,i,r⟩:=e m a;unfold CG;rw[uh g aD,uh i aD];rfl
  unfold wD;rw[c,j,a1,o,p];simp;omega
 ·have x:bP (fun s:Nm=>1+s.size) l.dR<=13*l.dR.length:=vC _ fun s b=>by have:=jy (f s b);omega
  have y:bP (fun m:Int×Int=>4+(1+dN m.1)+(1+dN m.2)+1) l.jd<=21*l.jd.length:=vC _ fun m a=>by
   obtain⟨g,q,i,r⟩:=e m a;have z:=eB (n:=m.1) aD aD;have A:=eB (n:=m.2) aD aD;omega
  have b3:=eB (n:=(l.dR.length:Int)) aD aD;unfold jf;rw[c,k];omega
theorem N9{x:cE}(d:Ck x.ah){i:Nat}(b:i<x.ah.length):qF x.ah[i]=true/\iB x.ah[i]<=1200:=by
 obtain⟨v,o,p⟩:=d.good;have g:=d.inv i b;have h:=p i b;have q:=(o _ (eV b)).len
 have k:∀f∈x.ah[i].aF,lI f:=by
  intro f a
  have r:fs x.ah i=x.ah[i].aF:=by
   show (kL x.ah i).aF=_
   rw[kL,iY,lN b];rfl
  rw[<-r] at a;obtain⟨j,s,e⟩:=zxf a;exact(g.lead j f (by rw[lN s,e])).val
 have t:kL x.ah i=x.ah[i]:=by rw[kL,iY,lN b];rfl
 obtain⟨l,m,u⟩:=g.span;rw[t] at l m u;have c:=uj (i:=i) aD;refine⟨?_,?_⟩
 ·have a1:x.ah[i].aF.all dD=true:=alU.2 fun f a=>(k f a).1
  unfold qF;rw[h,c,qN l m aD,a1];simp[q]
 ·have w:bP cL x.ah[i].aF<=100*x.ah[i].aF.length:=vC _ fun f a=>(k f a).2
  have y:=eB (n:=x.ah[i].lo) aD aD;have b3:=eB (n:=x.ah[i].hi) aD aD;have b4:=jy c;unfold iB;rw[h];omega
theorem Oa{ks:List fT}{k:Nat}{r:Rul}(w:ks.length<=3)(h:afW ks k r):wE r=true/\jI r<=100:=by
 obtain⟨lt,⟨c,q,f⟩,g,⟨x,y⟩,j,l,e⟩:=h;have m:=afV (c:=c) (k:=k) q aD;have o:=uj (i:=k) aD;have s:(decide (r.a=nil)||bE r.a)=true:=by rcases j with h|h<;>simp[h]
 have t:(decide (r.b=nil)||bE r.b)=true:=by rcases l with h|h<;>simp[h]
 have u:(decide (r.a=nil)&&decide (r.b=nil))=false:=by
  by_cases p:r.a=nil
  ·have:r.b≠nil:=fun v=>e (p.trans v.symm)
   simp[this]
  ·simp[p]
 have z:eF r.a<=12:=by
  rcases j with h|h
  ·rw[h];decide
  ·exact lC (jy h.1)
 have A:eF r.b<=12:=by
  rcases l with h|h
  ·rw[h];decide
  ·exact lC (jy h.1)
 refine⟨?_,?_⟩
 ·unfold wE
  rw[f,g,m,o,s,t,u,uh aD aD];rfl
 ·have d:=eB (n:=r.n) aD aD
  have B:=jy m;have C:=jy o;unfold jI;rw[f,g];omega
theorem abV{x:cE}(h:F7 x):okB x=true:=by
 obtain⟨p,B,C⟩:=h.ah.good;obtain⟨n, -,q,D⟩:=h.aX;obtain⟨s,E⟩:=YE h.ah q;obtain⟨l,d,t⟩:=h.aV;have u:=h.aQ
 have e:∀k∈x.ah,qF k=true/\iB k<=1200:=fun k a=>by
  obtain⟨i,b,rfl⟩:=zxf a;exact N9 h.ah b
 have f:∀r∈x.aX,wE r=true/\jI r<=100:=fun r v=>by
  obtain⟨k,_,w⟩:=s r v;exact Oa p w
 have m:∀y∈x.aV,wD y=true/\jf y<=400:=fun y o=>by
  rw[d] at o;rw[nL.1 o];exact N8 t
 have c:x.aV.length=1:=by rw[d];rfl
 have c1:ql x=true:=by
  unfold ql;rw[uh u.1 aD,alU.2 fun k a=>(e k a).1,alU.2 fun k a=>(f k a).1,alU.2 fun k a=>(m k a).1];simp;omega
 have c2:¬8192<xC x:=by
  have F:=vC (g:=iB) x.ah fun k a=>(e k a).2;have G:=vC (g:=jf) x.aV fun k a=>(m k a).2;have b3:=vC (g:=jI) x.aX fun k a=>(f k a).2;have b4:=eB (n:=x.aQ) aD aD;unfold xC;omega
 have c3:mH x=0:=by unfold mH;rw[if_pos c1,if_neg c2]
 have c4:(List.range x.aV.length).all (fun i=>decide (AQ x i=0))=true:=by
  rw[c];have:AQ x 0=0:=by unfold AQ;rw[if_neg bH]
  simp[zxs,this]
 have c5:((List.range x.ah.length).all fun i:Nat=>decide (wF x i=0)&&(List.range (kd x i).aF.length).all fun j:Nat=>decide (nR x i j=0))=true:=by
  refine alU.2 fun i b=>?_;have b:=List.mem_range.1 b;rw[abT h b];simp only[decide_true,Bool.true_and];refine alU.2 fun j z=>?_;rw[YD h b (List.mem_range.1 z)];rfl
 have A:(List.range x.aX.length).all (fun i=>decide (tN x i=0))=true:=by
  refine alU.2 fun i b=>?_;rw[abU h (List.mem_range.1 b)];rfl
 unfold okB;rw[c3,c4,c5,A];rfl
end Go.Proofs.YtohddpbgflgiaaaGreatDoor.aC
