/- Part 9 of the walks and plain laws that the proof needs (packed). -/
import Derived.Laws.EntriesVeiled
import Derived.BigQuiet
import Derived.Test.YtohddpbgflgiaaaGreatDoorQ1
import Derived.Test.YtohddpbgflgiaaaGreatDoorQ4
import Derived.Test.YtohddpbgflgiaaaGreatDoorQ7
import Derived.Test.YtohddpbgflgiaaaGreatDoorQ8
set_option linter.all false
set_option maxRecDepth 100000
set_option maxHeartbeats 8000000
open Go.Proofs.Tryz
variable{p:Prop}
namespace Go.Proofs.YtohddpbgflgiaaaGreatDoor
open Go.RowKit
def lE(a:Int)(b:Option Addr)(c d:Nat)(e:Option Addr)(g h:Nat)(k:Option Addr)(l m:Nat)(i j:Int)(f:aC.dA)(n o:Value):List Value:=
 [.int .i64 a,.slice b c d,.slice e g h,.slice k l m,.int .i64 i,.int .i64 j,.string f.name,.string f.of,.string f.up,.int .i64 f.kind,.int .i64 f.lo,.int .i64 f.hi,n,o]
theorem gN{w:World}{F:Nat}{b c d e f g j k l m x10 x11 x12 a:Value}{t:TypeId}(h:w.heap[F]?=some (.cells #[b,c,d,e,f,g,j,k,l,m,x10,x11,x12,a] t (0,0))):
  (w.cell? ⟨F,0,none⟩=some b/\w.cell? ⟨F,1,none⟩=some c/\w.cell? ⟨F,2,none⟩=some d/\w.cell? ⟨F,3,none⟩=some e/\w.cell? ⟨F,4,none⟩=some f/\w.cell? ⟨F,5,none⟩=some g/\w.cell? ⟨F,6,none⟩=some j/\w.cell? ⟨F,7,none⟩=some k/\w.cell? ⟨F,8,none⟩=some l/\w.cell? ⟨F,9,none⟩=some m/\w.cell? ⟨F,10,none⟩=some x10/\w.cell? ⟨F,11,none⟩=some x11/\w.cell? ⟨F,12,none⟩=some x12/\w.cell? ⟨F,13,none⟩=some a)/\∀i,w.frozen? ⟨F,i,none⟩=false:=
 ⟨⟨aP h 0,aP h 1,aP h 2,aP h 3,aP h 4,aP h 5,aP h 6,aP h 7,aP h 8,aP h 9,aP h 10,aP h 11,aP h 12,aP h 13⟩,fM h⟩
theorem DB(x:aC.cE)(i j:Int)(f:aC.dA)(b c d:Option Addr)(g h k:Nat)(l m:Value)(S:Nat->Prop)(w:World)(o:dO S w (.agg (sBx x b c d g h k)) x):
  CB 259 #[.agg (lE x.aQ b x.ah.length g c x.aV.length h d x.aX.length k i j f l m).toArray] w (.bool (decide (aC.eD x i j<0))):=by
 have v:=hid (fun W (n:BL w W)=>o.keep (aH.below n));clear o;obtain⟨p,q,r,fk,s,t,A,B⟩:=f;simp only[lE];obtain⟨w1,hw1⟩:=bJ (w.alloc (.cells (qBx x b c d g h k i j p q r fk s t l m) 116));have u:Hid (Below w.heap.size w w1):=hid Cx;have HX:Hid (∀W,BL w1 W->W.heap[w.heap.size]?=some (.cells (qBx x b c d g h k i j p q r fk s t l m) 116 (0,0))):=hid (fun W n=>(n.block _ J6).trans BJ);have y:=hid hw1;clear hw1;have z:=hid (uE x i j _ S w1 (v.out w1 u.out));generalize aC.eD x i j=C at*;obtain⟨⟨D,E,F,G,H,I,J,K,L,M,N,O,P,Q⟩, -⟩:=gN (HX.out w1 aG);go_enter func259,ntmps259;go_upto_region 1 with fail;rw[<-y.out];go_wp2_with fail;refine z.out.mono ?_;rintro e w2 ⟨rfl,a⟩;have cH:=aR u a;clear a;exact amE
theorem Zk{w:World}{g:Nat}{b c d e f i j k bd:Value}{a:Array Value}(h:w.heap[g]?=some (.cells #[b,c,d,e,f,i,j,k] 85 (0,0)))(l:a[2]?=some (.pointer (some ⟨g,0,none⟩)))(m:a[3]?=some bd):
  (results Tryz.f270 a).run prog w=.ok (.tuple #[.agg #[b,c,d,e,f,i,j,k],bd]) w:=by
 obtain⟨⟨n,o,p,q,r,s,t,u⟩, -⟩:=ez h;simp[results,results270,go_sem,l,m,n,o,p,q,r,s,t,u]
def l6(x:aC.cE)(i j:Int)(f:aC.dA):Int:=aC.bV (aC.kd x (aC.eD x i j)) f.of
def TF(x:aC.cE)(i j:Int)(f:aC.dA)(w:World)(e:Ending)(w':World):Prop:=
 ∃a1 a c1 b c c2,e=.returned (.tuple #[.agg (dh (mq x (aC.eD x i j) (l6 x i j f)) (.slice a1 a c1) (.slice b c c2)).toArray,.bool (aC.hasB x (aC.eD x i j) (l6 x i j f))])/\BL w w'
theorem aeT(h:p:=by
  simp only[Value.agg.injEq,Array.mk.injEq,List.cons.injEq,Value.slice.injEq] at hvf
  exact hvf.2.1.2.2):p:=h
theorem Rq(x:aC.cE)(i j:Int)(f:aC.dA)(a z A:Option Addr)(u B C:Nat)(K L:Value)(S:Nat->Prop)(w:World)(M:dO S w (.agg (sBx x a z A u B C)) x)(hi:0<=i/\i<x.ah.length)(N:0<=aC.eD x i j):
  CP 270 #[.agg (lE x.aQ a x.ah.length u z x.aV.length B A x.aX.length C i j f K L).toArray] w (TF x i j f w):=by
 refine Calls.mono (R:=fun e k=>Hid (TF x i j f w e k)) ?_ (fun _ _ h=>h.out);have HV:=hid (fun W (d:BL w W)=>M.keep (aH.below d));have O:=aC.Ab x i j hi.1;obtain⟨o,P⟩:∃o:Nat,aC.eD x i j=(o:Int):=⟨(aC.eD x i j).toNat,aD⟩;have D:o<x.ah.length:=aD
 have l:Hid (∀e k a1 m c1 n q c2,e=.returned (.tuple #[.agg (dh (mq x o (aC.bV (aC.kd x o) f.of)) (.slice a1 m c1) (.slice n q c2)).toArray,.bool (aC.hasB x o (aC.bV (aC.kd x o) f.of))])->BL w k->TF x i j f w e k):=hid (fun e k a1 m c1 n q c2 he E=>⟨a1,m,c1,n,q,c2,by unfold l6;rw[P];exact he,E⟩);generalize TF x i j f w=TP at*;obtain⟨WC,WD,ae,ag,WE,WG,hvf,hk, -, -,ai, -, -⟩:=M.form
 obtain⟨-,e1, -, -⟩:x.aQ=x.aQ/\a=WC/\True/\True:=by
  simp only[Value.agg.injEq,Array.mk.injEq,List.cons.injEq,Value.slice.injEq] at hvf;exact⟨rfl,hvf.2.1.1,trivial,trivial⟩
 subst e1
 have e2:u=WD:=by
  exact aeT
 subst e2;clear hvf M;obtain⟨J, -,k0,k1,k2,uf,k3,Q⟩:=hk.at D;obtain⟨af,cf,rfl, -, -, -⟩:=Q.form;have T:=hid (fun(s:ByteArray) (W:World) (d:BL w W)=>pH x.ah[o] s _ S W (Q.keep (aH.below d)));have SL:Hid (aC.kd x o=x.ah[o]):=hid (dH D)
 have F:Hid (∀W,BL w W->W.cell? ⟨bM a,bT a+o*4,none⟩=some (.string x.ah[o].name)/\W.cell? ⟨bM a,bT a+o*4+1,none⟩=some (.int .i64 x.ah[o].lo)/\W.cell? ⟨bM a,bT a+o*4+2,none⟩=some (.int .i64 x.ah[o].hi)/\W.cell? ⟨bM a,bT a+o*4+3,none⟩=some (.slice af x.ah[o].aF.length cf)):=hid (fun W d=>
   ⟨(d.cell (p:=⟨bM a,bT a+o*4,none⟩) J).trans k0,(d.cell (p:=⟨bM a,bT a+o*4+1,none⟩) J).trans k1,(d.cell (p:=⟨bM a,bT a+o*4+2,none⟩) J).trans k2,(d.cell (p:=⟨bM a,bT a+o*4+3,none⟩) J).trans k3⟩)
 rw[SL.out] at l;clear k0 k1 k2 k3 Q hk SL;generalize x.ah[o]=kd at*;obtain⟨kn,Gy,Gz,Fv⟩:=kd;obtain⟨fn,G,fu,fk,fl,fh,EW,EX⟩:=f;simp only[kH] at T;simp only at l F;simp only[lE];have U:=hid (T.out G);generalize aC.bV ⟨kn,Gy,Gz,Fv⟩ G=r at*;generalize Fv.length=nf at*;clear T;obtain⟨w1,hw1⟩:=bJ ((w.alloc (.cells (qBx x a z A u B C i j fn G fu fk fl fh K L) 116)).alloc (.cells #[.string {data:=#[]},.string {data:=#[]},.string {data:=#[]},.int .i64 0,.int .i64 0,.int .i64 0,.slice none 0 0,.slice none 0 0] 85));have V:Hid (Below w.heap.size w w1):=hid Qw;have HX:Hid (∀W,BL w1 W->W.heap[w.heap.size]?=some (.cells (qBx x a z A u B C i j fn G fu fk fl fh K L) 116 (0,0))):=hid (fun W d=>(d.block _ (by rw[hw1];simp;omega)).trans abu);have HG:Hid (∀W,BL w1 W->W.heap[w.heap.size+1]?=some (.cells #[.string {data:=#[]},.string {data:=#[]},.string {data:=#[]},.int .i64 0,.int .i64 0,.int .i64 0,.slice none 0 0,.slice none 0 0] 85 (0,0))):=hid (fun W d=>(d.block _ J6).trans Kj);have HW:=hid hw1;clear hw1;have X:=hid (uE x i j _ S w1 (HV.out w1 V.out));rw[P] at X;have aj:w.heap.size<w1.heap.size:=aI (HX.out w1 aG);have am:(0:Int)<=o:=aD
 have K4:(o:Int)<x.ah.length:=aD
 have an:¬(o:Int)<0:=aD
 have Nn:=hid (fun W (d:BL w W)=>qd x (o:Int) r _ S W (HV.out W d));have H:Hid (∀e k a1 m c1 n q c2,e=.returned (.tuple #[.agg (dh (mq x o r) (.slice a1 m c1) (.slice n q c2)).toArray,.bool (aC.hasB x o r)])->BL w k->TP e k):=l;clear l N O;clear P;obtain⟨⟨y0,y1,y2,y3,y4,y5,y6,y7,y8,y9,Ln,Lp,Lr,Ls⟩, -⟩:=gN (HX.out w1 aG);go_enter func270,ntmps270;go_upto_region 1 with fail;rw[<-HW.out];go_wp2_with fail;refine X.out.mono ?_;rintro e w2 ⟨rfl,t⟩;have v:Hid (BL w1 w2):=hid t;have y:=aR V t;clear t y0 y1 y2 y3 y4 y5 y6 y7 y8 y9 Ln Lp Lr Ls X;go_upto_region 4 with fail;have rW:=eC w2 ⟨w.heap.size,0,none⟩ (.int .i64 x.aQ) fun c=>(gN (HX.out c.1 (bO v.out c.2))).1.1;have Y:=eC w2 ⟨w.heap.size,1,none⟩ (.slice a x.ah.length u) fun c=>(gN (HX.out c.1 (bO v.out c.2))).1.2.1;have tZ:=eC w2 ⟨w.heap.size,2,none⟩ (.slice z x.aV.length B) fun c=>(gN (HX.out c.1 (bO v.out c.2))).1.2.2.1;have Z:=eC w2 ⟨w.heap.size,3,none⟩ (.slice A x.aX.length C) fun c=>(gN (HX.out c.1 (bO v.out c.2))).1.2.2.2.1;have aa:=eC w2 ⟨w.heap.size,7,none⟩ (.string G) fun c=>(gN (HX.out c.1 (bO v.out c.2))).1.2.2.2.2.2.2.2.1;have TG:=eC w2 ⟨bM a,bT a+o*4,none⟩ (.string kn) fun c=>(F.out c.1 (bO y.out c.2)).1;have ab:=eC w2 ⟨bM a,bT a+o*4+1,none⟩ (.int .i64 Gy) fun c=>(F.out c.1 (bO y.out c.2)).2.1;have ad:=eC w2 ⟨bM a,bT a+o*4+2,none⟩ (.int .i64 Gz) fun c=>(F.out c.1 (bO y.out c.2)).2.2.1;have Zl:=eC w2 ⟨bM a,bT a+o*4+3,none⟩ (.slice af nf cf) fun c=>(F.out c.1 (bO y.out c.2)).2.2.2;refine alR w2 16 (.quiet 0 (.quiet 1 (.quiet 2 (.quiet 3 (.quiet 4 (.quiet 5 (.quiet 6 (.quiet 7 (.quiet 8 (.quiet 9 (.quiet 10 (.quiet 11 (.one 12 (.one 13 (.quiet 14 (.quiet 15 .done)))))))))))))))) nK zK fun w3 GF=>?_
 iterate 12 refine gF ?_
 refine aZ rfl ?_;go_wp2_with fail;refine(U.out w3 (bO y.out GF.out)).mono ?_;rintro e w4 ⟨rfl,I⟩;have GH:=aR GF I;clear I;go_wp2_with fail;refine aN (BL w2) (fun _ h=>h) GH.out ?_;refine aZ rfl ?_;go_wp2_with fail;refine(Nn.out w4 (bO y.out GH.out)).mono ?_;rintro e w5 ⟨a1,m,c1,n,q,c2,rfl, -,jZ⟩;have I8:=aR GH jZ;clear jZ;have KR:Hid (∀k,BL w k->TP (.returned (.tuple #[.agg (dh (mq x o r) (.slice a1 m c1) (.slice n q c2)).toArray,.bool (aC.hasB x o r)])) k):=hid (fun k E=>H.out _ _ a1 m c1 n q c2 rfl E);generalize aC.hasB x o r=E at*;generalize mq x o r=g at*;obtain⟨gn,go,gu,gk,gl,gh,Fw,ao⟩:=g;simp only[dh] at KR ⊢;go_wp2_with fail;refine aN (BL w2) (fun _ h=>h) I8.out ?_
 iterate 2 refine gF ?_
 refine bG ?_;try simp only[jW,jH]
 clear rW Y tZ Z aa TG ab ad Zl;have kY:=aR v I8.out;have iH:=aR V kY.out;obtain⟨⟨g0,g1,g2,g3,g4,g5,g6,g7⟩,gf⟩:=ez (HG.out w5 kY.out);have HS:=hid (Kq (HG.out w5 kY.out) (.string gn) (.string go) (.string gu) (.int .i64 gk) (.int .i64 gl) (.int .i64 gh) (.slice a1 m c1) (.slice n q c2));go_wp2;exact bodyPost_ret (Zk HS.out.1 rfl rfl) rfl (hid (KR.out _ (iH.out.trans (Turns.below HS.out.2 iH.out.size (fun b E=>by omega)))))
theorem pI(a:Bool)(c0:Int)(g cap:Nat)(w:World){t:TypeId}(h0:a=false)(h:w.heap[g]?=some (.cells #[.bool a,.int .i64 c0] t (0,0))):
  CB 55 #[.slice (some ⟨g,0,none⟩) 1 cap] w (.int .i64 0):=by
 subst h0;refine Ak 1 (fun _=>c0) g cap w aD (aI h) (fun i b=>?_);obtain rfl:i=0:=aD
 exact⟨aP h 0,aP h 1⟩
theorem sq(a b:Bool)(c0 c1:Int)(g cap:Nat)(w:World){t:TypeId}(h0:a=false)(h1:b=false)(h:w.heap[g]?=some (.cells #[.bool a,.int .i64 c0,.bool b,.int .i64 c1] t (0,0))):
  CB 55 #[.slice (some ⟨g,0,none⟩) 2 cap] w (.int .i64 0):=by
 subst h0 h1;refine Ak 2 (fun i=>if i=0 then c0 else c1) g cap w aD (aI h) (fun i c=>?_);match i,c with
 |0,_=>exact⟨aP h 0,aP h 1⟩
 |1,_=>exact⟨aP h 2,aP h 3⟩
theorem OE(a b c b3:Bool)(c0 c1 c2 c3:Int)(g cap:Nat)(w:World){t:TypeId}(h0:a=false)(h1:b=false)(h2:c=false)(d:b3=false)(h:w.heap[g]?=some (.cells #[.bool a,.int .i64 c0,.bool b,.int .i64 c1,.bool c,.int .i64 c2,.bool b3,.int .i64 c3] t (0,0))):
  CB 55 #[.slice (some ⟨g,0,none⟩) 4 cap] w (.int .i64 0):=by
 subst h0 h1 h2 d;refine Ak 4 (fun i=>if i=0 then c0 else if i=1 then c1 else if i=2 then c2 else c3) g cap w aD (aI h) (fun i e=>?_);match i,e with
 |0,_=>exact⟨aP h 0,aP h 1⟩
 |1,_=>exact⟨aP h 2,aP h 3⟩
 |2,_=>exact⟨aP h 4,aP h 5⟩
 |3,_=>exact⟨aP h 6,aP h 7⟩
theorem aeh(h:p:=by
  clear hbz
  go_wp2
  go_ret
  exact⟨rfl,xM.out⟩):p:=h
theorem OG(x:aC.cE)(i j:Int)(f:aC.dA)(a b c:Option Addr)(d g h:Nat)(k l:Value)(S:Nat->Prop)(w:World)(o:dO S w (.agg (sBx x a b c d g h)) x)(u:j=0):
  CB 262 #[.agg (lE x.aQ a x.ah.length d b x.aV.length g c x.aX.length h i j f k l).toArray] w (.int .i64 0):=by
 have v:=hid (fun W (m:BL w W)=>o.keep (aH.below m));subst u;clear v;clear o;obtain⟨p,q,r,fk,s,t,A,B⟩:=f;simp only[lE] at*;obtain⟨w1,hw1⟩:=bJ (w.alloc (.cells #[.int .i64 x.aQ,.slice a x.ah.length d,.slice b x.aV.length g,.slice c x.aX.length h,.int .i64 i,.int .i64 0,.string p,.string q,.string r,.int .i64 fk,.int .i64 s,.int .i64 t,k,l] 116));have n:Hid (Below w.heap.size w w1):=hid Cx;have HX:Hid (∀W,BL w1 W->W.heap[w.heap.size]?=some (.cells #[.int .i64 x.aQ,.slice a x.ah.length d,.slice b x.aV.length g,.slice c x.aX.length h,.int .i64 i,.int .i64 0,.string p,.string q,.string r,.int .i64 fk,.int .i64 s,.int .i64 t,k,l] 116 (0,0))):=hid (fun W m=>(m.block _ J6).trans BJ);have y:=hid hw1;clear hw1;obtain⟨⟨C,D,E,F,G,H,I,J,K,L,M,N,O,P⟩, -⟩:=gN (HX.out w1 aG);go_enter func262,ntmps262;go_upto_region 1 with fail;rw[<-y.out];go_wp2_with fail;refine(pI _ _ _ _ (World.alloc _ _) (by rfl) (bD _ _ rfl)).mono ?_;rintro e z ⟨rfl,hbz⟩;have xM:Hid (BL w z):=hid ((n.out.alloc n.out.size _).trans (hbz.mono (by have:=n.out.size;simp;omega)));exact aeh
theorem aed(h:p:=by
  rintro e w2 ⟨rfl,hb2⟩
  have f9:Hid (BL w1 w2):=hid ((Below.refl w1.heap.size w1).trans (hb2.mono (Below.refl w1.heap.size w1).size))
  have cH:=aR bL hb2
  clear hb2
  go_wp2_with fail
  refine(pI _ _ _ _ (World.alloc _ _) rfl (bD _ _ rfl)).mono ?_
  rintro e wz ⟨rfl,hbz⟩
  have xM:Hid (BL w wz):=hid ((cH.out.alloc cH.out.size _).trans (hbz.mono WK))
  clear hbz
  go_wp2
  go_ret
  exact⟨rfl,xM.out⟩):p:=h
theorem OH(x:aC.cE)(i j:Int)(f:aC.dA)(a b c:Option Addr)(d g h:Nat)(l m:Value)(S:Nat->Prop)(w:World)(n:dO S w (.agg (sBx x a b c d g h)) x)(u:0<=aC.eD x i j):
  CB 263 #[.agg (lE x.aQ a x.ah.length d b x.aV.length g c x.aX.length h i j f l m).toArray] w (.int .i64 0):=by
 have v:=hid (fun W (k:BL w W)=>n.keep (aH.below k));have o:=hid (fun W (k:BL w W)=>DB x i j f a b c d g h l m S W (v.out W k));rw[decide_eq_false (show ¬aC.eD x i j<0 by omega)] at o;clear n;obtain⟨p,q,r,fk,s,t,z,A⟩:=f;simp only[lE] at*;obtain⟨w1,hw1⟩:=bJ (w.alloc (.cells (qBx x a b c d g h i j p q r fk s t l m) 116));have bL:Hid (Below w.heap.size w w1):=hid Cx;have HX:Hid (∀W,BL w1 W->W.heap[w.heap.size]?=some (.cells (qBx x a b c d g h i j p q r fk s t l m) 116 (0,0))):=hid (fun W k=>(k.block _ J6).trans BJ);have y:=hid hw1;clear hw1;obtain⟨⟨B,C,D,E,F,G,H,I,J,K,L,M,N,O⟩, -⟩:=gN (HX.out w1 aG);go_enter func263,ntmps263;go_upto_region 1 with fail;rw[<-y.out];go_wp2_with fail;refine(o.out w1 bL.out).mono ?_;exact aed
theorem Lu(a s:ByteArray)(u1 u2:Value)(b:Nat)(w:World)(c:w.cell? ⟨b,7,none⟩=some (.string s)):
  CB 266 #[.agg #[.string a,u1,u2],.pointer (some ⟨b,0,none⟩)] w (.bool (decide (a=s))):=by
 have d:b<w.heap.size:=kK w ⟨b,7,none⟩ c;have HD:Hid ((a.toList==s.toList)=decide (a=s)):=hid NF;go_enter func266,ntmps266;exact YX
theorem OI(x:aC.cE)(i j:Int)(f:aC.dA)(h b k:Option Addr)(m c n:Nat)(q r:Value)(S:Nat->Prop)(w:World)(s:dO S w (.agg (sBx x h b k m c n)) x)(z:aC.FZ x f.of=true):
  CB 265 #[.agg (lE x.aQ h x.ah.length m b x.aV.length c k x.aX.length n i j f q r).toArray] w (.int .i64 0):=by
 have L:=hid (fun W (d:BL w W)=>s.keep (aH.below d));obtain⟨M,WD,t,u,N,O,a, -,g, -, -, -, -⟩:=s.form
 have F:b=t:=by
  simp only[Value.agg.injEq,Array.mk.injEq,List.cons.injEq,Value.slice.injEq] at a;exact a.2.2.1.1
 subst F
 have G:c=u:=by
  simp only[Value.agg.injEq,Array.mk.injEq,List.cons.injEq,Value.slice.injEq] at a;exact a.2.2.1.2.2
 subst G;clear a;have H:=hid (fun W (d:BL w W)=>fC.keep dG g (aH.below d));have v:Hid (x.aV.any (fun l=>decide (l.name=f.of))=true):=hid z;clear g z;clear s;obtain⟨A,o,B,fk,C,D,P,Q⟩:=f;simp only[lE] at*;obtain⟨w1,hw1⟩:=bJ (w.alloc (.cells (qBx x h b k m c n i j A o B fk C D q r) 116));have bL:Hid (Below w.heap.size w w1):=hid Cx;have HX:Hid (∀W,BL w1 W->W.heap[w.heap.size]?=some (.cells (qBx x h b k m c n i j A o B fk C D q r) 116 (0,0))):=hid (fun W d=>(d.block _ J6).trans BJ);have I:=hid hw1;clear hw1;obtain⟨⟨R,T,U,V,Y,Z,y6,y7,y8,y9,Ln,Lp,Lr,Ls⟩, -⟩:=gN (HX.out w1 aG);have y:w.heap.size<w1.heap.size:=aI (HX.out w1 aG)
 have E:=hid (IX dG x.aV (fun l:aC.Iu=>decide (l.name=o)) _ S w1 (H.out w1 bL.out) 266 #[.pointer (some ⟨w.heap.size,0,none⟩)] (cF func266 zK rfl) (fun X J j hj us _ K=>by
  obtain⟨u1,u2,rfl, -, -⟩:=K;exact Lu _ o u1 u2 _ X ((J.cell (p:=⟨w.heap.size,7,none⟩) y).trans (gN (HX.out w1 aG)).1.2.2.2.2.2.2.2.1)))
 rw[v.out] at E;go_enter func265,ntmps265;go_upto_region 1 with fail;rw[<-I.out];go_wp2_with fail;refine E.out.mono ?_;exact aed
theorem OJ(x:aC.cE)(i j:Int)(f:aC.dA)(h l m:Option Addr)(n o p:Nat)(q r:Value)(S:Nat->Prop)(w:World)(t:dO S w (.agg (sBx x h l m n o p)) x)(F:0<=i)(u:0<=aC.jQ x i f)(v:(aC.jR x i f).length=1)(y:x.ah.length<=1000)(d:∀k∈x.ah,k.aF.length<=1000):
  CB 267 #[.agg (lE x.aQ h x.ah.length n l x.aV.length o m x.aX.length p i j f q r).toArray] w (.int .i64 0):=by
 have G:=hid (fun W (g:BL w W)=>t.keep (aH.below g));have s:=hid (fun W (g:BL w W)=>OD x i F f _ q r S W (G.out W g) y d);unfold vF at s;rw[v] at s;have H:=hid u;generalize aC.jQ x i f=K at*;generalize aC.jR x i f=sl at*;clear v u y d;clear t;obtain⟨z,A,B,fk,C,D,L,M⟩:=f;simp only[lE,dh] at*;obtain⟨w1,hw1⟩:=bJ (w.alloc (.cells (qBx x h l m n o p i j z A B fk C D q r) 116));have E:Hid (Below w.heap.size w w1):=hid Cx;have HX:Hid (∀W,BL w1 W->W.heap[w.heap.size]?=some (.cells (qBx x h l m n o p i j z A B fk C D q r) 116 (0,0))):=hid (fun W g=>(g.block _ J6).trans BJ);have I:=hid hw1;clear hw1;obtain⟨⟨N,O,P,Q,R,T,U,V,X,Y,Z,Lp,Lr,Ls⟩, -⟩:=gN (HX.out w1 aG);go_enter func267,ntmps267;go_upto_region 1 with fail;rw[<-I.out];go_wp2_with fail;refine(s.out w1 E.out).mono ?_;rintro e w2 ⟨a,c,rfl, -,b⟩;have f9:Hid (BL w1 w2):=hid ((Below.refl w1.heap.size w1).trans (b.mono (Below.refl w1.heap.size w1).size));have cH:=aR E b;clear b;go_wp2_with fail;refine(sq _ _ _ _ _ _ (World.alloc _ _) (decide_eq_false (by have:=H.out;omega)) (by rfl) (bD _ _ rfl)).mono ?_;rintro e J ⟨rfl,hbz⟩;have xM:Hid (BL w J):=hid ((cH.out.alloc cH.out.size _).trans (hbz.mono WK));exact aeh
theorem Ge(h:p:=by
  go_wp2_with fail
  refine(pI _ _ _ _ (World.alloc _ _) alM (bD _ _ rfl)).mono ?_
  rintro e wz ⟨rfl,hbz⟩
  have xM:Hid (BL w wz):=hid ((iH.out.alloc iH.out.size _).trans (hbz.mono alI))
  clear hbz
  go_wp2
  go_ret
  exact⟨rfl,xM.out⟩):p:=h
theorem OL(x:aC.cE)(i j:Int)(f:aC.dA)(a n q:Option Addr)(h r t:Nat)(N O:Value)(S:Nat->Prop)(w:World)(P:dO S w (.agg (sBx x a n q h r t)) x)(hi:0<=i/\i<x.ah.length)(hd:f.of=aC.nil\/(0<=aC.bV (aC.kd x i) f.of/\aC.bV (aC.kd x i) f.of<j/\(mq x i (aC.bV (aC.kd x i) f.of)).kind=4)):
  CB 264 #[.agg (lE x.aQ a x.ah.length h n x.aV.length r q x.aX.length t i j f N O).toArray] w (.int .i64 0):=by
 have HV:=hid (fun W (b:BL w W)=>P.keep (aH.below b));obtain⟨WC,WD,ag,ai,WE,WG,hvf,hk, -, -,Q, -, -⟩:=P.form
 have e1:a=WC:=by
  simp only[Value.agg.injEq,Array.mk.injEq,List.cons.injEq,Value.slice.injEq] at hvf;exact hvf.2.1.1
 subst e1
 have e2:h=WD:=by
  exact aeT
 subst e2;clear hvf;obtain⟨o,rfl⟩:∃o:Nat,i=(o:Int):=⟨i.toNat,aD⟩;have k:o<x.ah.length:=aD
 obtain⟨v, -,k0,k1,k2,uf,k3,R⟩:=hk.at k;obtain⟨af,cf,rfl, -, -, -⟩:=R.form;have T:=hid (fun(s:ByteArray) (W:World) (b:BL w W)=>pH x.ah[o] s _ S W (R.keep (aH.below b)))
 have Lj:Hid (∀W,BL w W->W.cell? ⟨bM a,bT a+o*4,none⟩=some (.string x.ah[o].name)/\W.cell? ⟨bM a,bT a+o*4+1,none⟩=some (.int .i64 x.ah[o].lo)/\W.cell? ⟨bM a,bT a+o*4+2,none⟩=some (.int .i64 x.ah[o].hi)/\W.cell? ⟨bM a,bT a+o*4+3,none⟩=some (.slice af x.ah[o].aF.length cf)):=hid (fun W b=>
   ⟨(b.cell (p:=⟨bM a,bT a+o*4,none⟩) v).trans k0,(b.cell (p:=⟨bM a,bT a+o*4+1,none⟩) v).trans k1,(b.cell (p:=⟨bM a,bT a+o*4+2,none⟩) v).trans k2,(b.cell (p:=⟨bM a,bT a+o*4+3,none⟩) v).trans k3⟩)
 have Nn:=hid (fun(u:Int) (W:World) (b:BL w W)=>qd x (o:Int) u _ S W (HV.out W b));rw[dH k] at hd;clear k0 k1 k2 k3 R hk;generalize x.ah[o]=kd at*;obtain⟨kn,Gy,Gz,Fv⟩:=kd;simp only[kH] at T;simp only at Lj;have U:=hid (T.out f.of);clear T;generalize aC.bV ⟨kn,Gy,Gz,Fv⟩ f.of=l at*;generalize Fv.length=nf at*;have y:=hid hd;clear hd;have aj:=Q;clear P;obtain⟨fn,V,fu,fk,fl,fh,EW,EX⟩:=f;simp only[lE] at*;have am:(0:Int)<=o:=aD
 have K4:(o:Int)<x.ah.length:=aD
 obtain⟨w1,hw1⟩:=bJ (w.alloc (.cells #[.int .i64 x.aQ,.slice a x.ah.length h,.slice n x.aV.length r,.slice q x.aX.length t,.int .i64 o,.int .i64 j,.string fn,.string V,.string fu,.int .i64 fk,.int .i64 fl,.int .i64 fh,N,O] 116));have X:Hid (Below w.heap.size w w1):=hid Cx;have HX:Hid (∀W,BL w1 W->W.heap[w.heap.size]?=some (.cells #[.int .i64 x.aQ,.slice a x.ah.length h,.slice n x.aV.length r,.slice q x.aX.length t,.int .i64 o,.int .i64 j,.string fn,.string V,.string fu,.int .i64 fk,.int .i64 fl,.int .i64 fh,N,O] 116 (0,0))):=hid (fun W b=>(b.block _ J6).trans BJ);have HW:=hid hw1;clear hw1;obtain⟨⟨z,A,B,C,D,E,F,G,H,I,J,K,L,M⟩, -⟩:=gN (HX.out w1 aG);go_enter func264,ntmps264;go_upto_region 1 with fail;rw[<-HW.out];obtain⟨Y,Z,aa,ab⟩:=Lj.out w1 X.out;have ad:bM a<w1.heap.size:=by have:=X.out.size;omega
 refine fB 10 nK zK ?_;simp only[List.take_succ_cons,List.take_zero,jW,jH];repeat (go_big_quiet_step (fail))
 refine iU ?_;have f9:=hid (aJ (Below.refl w1.heap.size w1) 1);have cH:=aR X f9.out;generalize w1.drewN 1=w2 at*;go_wp2_with fail;refine(U.out w2 cH.out).mono ?_;rintro e w3 ⟨rfl,c⟩;have gT:=aR f9 c;have cN:=aR cH c;clear c;clear Y Z aa ab z A B C D E F G H I J K L M;obtain⟨⟨z,A,B,C,D,E,F,G,H,I,J,K,L,M⟩, -⟩:=gN (HX.out w3 gT.out);go_wp2_with fail;refine(Nn.out l w3 cN.out).mono ?_;rintro e w4 ⟨a1,n1,c1,a2,n2,c2,rfl, -,d⟩;have kJ:=aR gT d;have gX:=aR cN d;clear d;generalize aC.hasB x (o:Int) l=ae at*;generalize mq x (o:Int) l=g at*;obtain⟨gn,go,gu,gk,gl,gh,Fw,an⟩:=g;simp only[dh];simp only at y;obtain⟨w5,m⟩:=bJ (w4.alloc (.cells #[.string gn,.string go,.string gu,.int .i64 gk,.int .i64 gl,.int .i64 gh,.slice a1 n1 c1,.slice a2 n2 c2] 85));have kY:Hid (Below w1.heap.size w1 w5):=hid (by rw[m];exact kJ.out.alloc kJ.out.size _);have iH:Hid (Below w.heap.size w w5):=hid (by rw[m];exact gX.out.alloc gX.out.size _);have tq:Hid (w5.heap[w4.heap.size]?=some (.cells #[.string gn,.string go,.string gu,.int .i64 gk,.int .i64 gl,.int .i64 gh,.slice a1 n1 c1,.slice a2 n2 c2] 85 (0,0))):=hid (by rw[m];exact bD w4 _ rfl);have EU:=hid m;clear m;go_upto_region 3 with fail;rw[<-EU.out];clear z A B C D E F G H I J K L M;obtain⟨⟨z,A,B,C,D,E,F,G,H,I,J,K,L,M⟩, -⟩:=gN (HX.out w5 kY.out);obtain⟨⟨u0,u1,u2,u3,u4,u5,u6,u7⟩, -⟩:=ez tq.out;by_cases GD:V=aC.nil
 ·subst GD
  clear y;unfold aC.nil at*;exact Ge
 ·have he:=nZ GD
  have K9:=hid (y.out.resolve_left GD);clear y GD;obtain⟨d1,d2,d3⟩:=K9.out;subst d3;clear K9;have d4:¬l<0:=aD
  have d5:¬j<=l:=aD
  exact Ge
theorem OM(x:aC.cE)(i j:Int)(f:aC.dA)(d k l:Option Addr)(m n o:Nat)(r t:Value)(S:Nat->Prop)(w:World)(Z:dO S w (.agg (sBx x d k l m n o)) x)(hi:0<=i/\i<x.ah.length)(u:0<=aC.eD x i j)(hb:aC.hasB x (aC.eD x i j) (l6 x i j f)=true)(E:(mq x (aC.eD x i j) (l6 x i j f)).kind=6)(c:aC.dc x (mq x (aC.eD x i j) (l6 x i j f)).of=i):
  CB 269 #[.agg (lE x.aQ d x.ah.length m k x.aV.length n l x.aX.length o i j f r t).toArray] w (.int .i64 0):=by
 have F:=hid (fun W (b:BL w W)=>Z.keep (aH.below b));have Ni:=hid (fun W (b:BL w W)=>DB x i j f d k l m n o r t S W (F.out W b));rw[decide_eq_false (show ¬aC.eD x i j<0 by omega)] at Ni;have p:=hid (fun W (b:BL w W)=>Rq x i j f d k l m n o r t S W (F.out W b) hi u);unfold TF at p;rw[hb] at p;have vE:=hid (fun(s:ByteArray) (W:World) (b:BL w W)=>qY x s _ S W (F.out W b));have G:Hid ((mq x (aC.eD x i j) (l6 x i j f)).kind=6/\aC.dc x (mq x (aC.eD x i j) (l6 x i j f)).of=i):=hid ⟨E,c⟩;clear E c hb u;generalize mq x (aC.eD x i j) (l6 x i j f)=g at*;clear Z;obtain⟨H,I,J,fk,K,L,EW,EX⟩:=f;simp only[lE] at*;obtain⟨w1,hw1⟩:=bJ (w.alloc (.cells (qBx x d k l m n o i j H I J fk K L r t) 116));have bL:Hid (Below w.heap.size w w1):=hid Cx;have HX:Hid (∀W,BL w1 W->W.heap[w.heap.size]?=some (.cells (qBx x d k l m n o i j H I J fk K L r t) 116 (0,0))):=hid (fun W b=>(b.block _ J6).trans BJ);have HW:=hid hw1;clear hw1;obtain⟨⟨y0,y1,y2,y3,y4,y5,y6,y7,y8,y9,Ln,Lp,Lr,Ls⟩, -⟩:=gN (HX.out w1 aG);go_enter func269,ntmps269;go_upto_region 1 with fail;rw[<-HW.out];go_wp2_with fail;refine(p.out w1 bL.out).mono ?_;rintro e w2 ⟨a1,n1,c1,a2,n2,c2,rfl,q⟩;have f9:Hid (BL w1 w2):=hid ((Below.refl w1.heap.size w1).trans (q.mono (Below.refl w1.heap.size w1).size));have cH:=aR bL q;clear q;obtain⟨gn,go,gu,gk,gl,gh,Fw,aa⟩:=g;simp only[dh] at G ⊢;obtain⟨w3,hw3⟩:=bJ (w2.alloc (.cells #[.string gn,.string go,.string gu,.int .i64 gk,.int .i64 gl,.int .i64 gh,.slice a1 n1 c1,.slice a2 n2 c2] 85));have gT:Hid (Below w1.heap.size w1 w3):=hid zR;have M:Hid (Below w.heap.size w w3):=hid WB;have N:Hid (∀W,BL w3 W->W.heap[w2.heap.size]?=some (.cells #[.string gn,.string go,.string gu,.int .i64 gk,.int .i64 gl,.int .i64 gh,.slice a1 n1 c1,.slice a2 n2 c2] 85 (0,0))):=hid (fun W b=>(b.block _ (by rw[hw3];simp)).trans ahS);have O:=hid hw3;clear hw3;go_upto_region 2 with fail;rw[<-O.out];clear y0 y1 y2 y3 y4 y5 y6 y7 y8 y9 Ln Lp Lr Ls;obtain⟨⟨y0,y1,y2,y3,y4,y5,y6,y7,y8,y9,Ln,Lp,Lr,Ls⟩, -⟩:=gN (HX.out w3 gT.out);obtain⟨⟨u0,u1,u2,u3,u4,u5,u6,u7⟩, -⟩:=ez (N.out w3 aG);obtain⟨E,c⟩:=G.out;subst E;have v:=hid (fun W (b:BL w W)=>vE.out go W b);rw[c] at v;clear c G vE;have qo:=eC w3 ⟨w.heap.size,0,none⟩ (.int .i64 x.aQ) fun a=>(gN (HX.out a.1 (bO gT.out a.2))).1.1;have qp:=eC w3 ⟨w.heap.size,1,none⟩ (.slice d x.ah.length m) fun a=>(gN (HX.out a.1 (bO gT.out a.2))).1.2.1;have qt:=eC w3 ⟨w.heap.size,2,none⟩ (.slice k x.aV.length n) fun a=>(gN (HX.out a.1 (bO gT.out a.2))).1.2.2.1;have qu:=eC w3 ⟨w.heap.size,3,none⟩ (.slice l x.aX.length o) fun a=>(gN (HX.out a.1 (bO gT.out a.2))).1.2.2.2.1;have P:=eC w3 ⟨w.heap.size,4,none⟩ (.int .i64 i) fun a=>(gN (HX.out a.1 (bO gT.out a.2))).1.2.2.2.2.1;have Q:=eC w3 ⟨w.heap.size,5,none⟩ (.int .i64 j) fun a=>(gN (HX.out a.1 (bO gT.out a.2))).1.2.2.2.2.2.1;have y:=eC w3 ⟨w.heap.size,6,none⟩ (.string H) fun a=>(gN (HX.out a.1 (bO gT.out a.2))).1.2.2.2.2.2.2.1;have z:=eC w3 ⟨w.heap.size,7,none⟩ (.string I) fun a=>(gN (HX.out a.1 (bO gT.out a.2))).1.2.2.2.2.2.2.2.1;have A:=eC w3 ⟨w.heap.size,8,none⟩ (.string J) fun a=>(gN (HX.out a.1 (bO gT.out a.2))).1.2.2.2.2.2.2.2.2.1;have B:=eC w3 ⟨w.heap.size,9,none⟩ (.int .i64 fk) fun a=>(gN (HX.out a.1 (bO gT.out a.2))).1.2.2.2.2.2.2.2.2.2.1;have R:=eC w3 ⟨w.heap.size,10,none⟩ (.int .i64 K) fun a=>(gN (HX.out a.1 (bO gT.out a.2))).1.2.2.2.2.2.2.2.2.2.2.1;have T:=eC w3 ⟨w.heap.size,11,none⟩ (.int .i64 L) fun a=>(gN (HX.out a.1 (bO gT.out a.2))).1.2.2.2.2.2.2.2.2.2.2.2.1;have U:=eC w3 ⟨w.heap.size,12,none⟩ (r) fun a=>(gN (HX.out a.1 (bO gT.out a.2))).1.2.2.2.2.2.2.2.2.2.2.2.2.1;have V:=eC w3 ⟨w.heap.size,13,none⟩ (t) fun a=>(gN (HX.out a.1 (bO gT.out a.2))).1.2.2.2.2.2.2.2.2.2.2.2.2.2;have C:=eC w3 ⟨w2.heap.size,1,none⟩ (.string go) fun a=>(ez (N.out a.1 a.2)).1.2.1;have D:=eC w3 ⟨w2.heap.size,3,none⟩ (.int .i64 6) fun a=>(ez (N.out a.1 a.2)).1.2.2.2.1;refine alR w3 21 (.quiet 0 (.quiet 3 (.quiet 4 (.one 1 (.quiet 2 (.quiet 5 (.quiet 6 (.quiet 7 (.quiet 8 (.quiet 9 (.quiet 10 (.quiet 11 (.quiet 12 (.quiet 13 (.quiet 14 (.quiet 16 (.quiet 17 (.one 15 (.quiet 18 (.quiet 19 (.quiet 20 .done))))))))))))))))))))) nK zK fun w4 GH=>?_
 iterate 3 refine gF ?_
 refine aZ rfl ?_;go_wp2_with fail;refine(Ni.out w4 (bO M.out GH.out)).mono ?_;rintro e w5 ⟨rfl,jZ⟩;have X:=aR GH jZ;clear jZ;go_wp2_with fail;refine aN (BL w3) (fun _ h=>h) X.out ?_
 iterate 13 refine gF ?_
 refine aZ rfl ?_;go_wp2_with fail;refine(v.out w5 (bO M.out X.out)).mono ?_;rintro e w6 ⟨rfl,oH⟩;have fH:=aR X oH;clear oH;go_wp2_with fail;refine aN (BL w3) (fun _ h=>h) fH.out ?_
 iterate 3 refine gF ?_
 refine bG ?_;try simp only[jW,jH]
 clear qo qp qt qu P Q y z A B R T U V C D;have Y:=aR M fH.out;go_wp2_with fail;refine(sq _ _ _ _ _ _ (World.alloc _ _) (by rfl) alM (bD _ _ rfl)).mono ?_;rintro e wz ⟨rfl,hbz⟩;have xM:Hid (BL w wz):=hid ((Y.out.alloc Y.out.size _).trans (hbz.mono (by have:=Y.out.size;simp;omega)));exact aeh
theorem OO(x:aC.cE)(i j:Int)(f:aC.dA)(d h k:Option Addr)(l m n:Nat)(o p:Value)(S:Nat->Prop)(w:World)(u:dO S w (.agg (sBx x d h k l m n)) x)(hi:0<=i/\i<x.ah.length)(q:0<=aC.eD x i j)(v:aC.hasB x (aC.eD x i j) (l6 x i j f)=true)(y:(mq x (aC.eD x i j) (l6 x i j f)).kind=2\/(mq x (aC.eD x i j) (l6 x i j f)).kind=3\/(mq x (aC.eD x i j) (l6 x i j f)).kind=4\/(mq x (aC.eD x i j) (l6 x i j f)).kind=5\/(mq x (aC.eD x i j) (l6 x i j f)).kind=8):
  CB 271 #[.agg (lE x.aQ d x.ah.length l h x.aV.length m k x.aX.length n i j f o p).toArray] w (.int .i64 0):=by
 have z:=hid (fun W (a:BL w W)=>u.keep (aH.below a));have A:=hid (fun W (a:BL w W)=>DB x i j f d h k l m n o p S W (z.out W a));rw[decide_eq_false (show ¬aC.eD x i j<0 by omega)] at A;have b:=hid (fun W (a:BL w W)=>Rq x i j f d h k l m n o p S W (z.out W a) hi q);unfold TF at b;rw[v] at b;have s:=hid y;clear y v q;generalize mq x (aC.eD x i j) (l6 x i j f)=g at*;clear u;obtain⟨B,C,D,fk,E,F,EW,EX⟩:=f;simp only[lE] at*;obtain⟨w1,hw1⟩:=bJ (w.alloc (.cells (qBx x d h k l m n i j B C D fk E F o p) 116));have G:Hid (Below w.heap.size w w1):=hid Cx;have HX:Hid (∀W,BL w1 W->W.heap[w.heap.size]?=some (.cells (qBx x d h k l m n i j B C D fk E F o p) 116 (0,0))):=hid (fun W a=>(a.block _ J6).trans BJ);have HW:=hid hw1;clear hw1;obtain⟨⟨H,I,J,K,L,M,N,O,P,Q,R,T,U,V⟩, -⟩:=gN (HX.out w1 aG);go_enter func271,ntmps271;go_upto_region 1 with fail;rw[<-HW.out];go_wp2_with fail;refine(b.out w1 G.out).mono ?_;rintro e w2 ⟨a1,X,c1,Y,Z,c2,rfl,c⟩;have f9:Hid (BL w1 w2):=hid ((Below.refl w1.heap.size w1).trans (c.mono (Below.refl w1.heap.size w1).size));have cH:=aR G c;clear c;obtain⟨gn,go,gu,gk,gl,gh,Fw,aa⟩:=g;simp only[dh] at s ⊢;obtain⟨w3,hw3⟩:=bJ (w2.alloc (.cells #[.string gn,.string go,.string gu,.int .i64 gk,.int .i64 gl,.int .i64 gh,.slice a1 X c1,.slice Y Z c2] 85));have gT:Hid (Below w1.heap.size w1 w3):=hid zR;have cN:Hid (Below w.heap.size w w3):=hid WB;have vV:Hid (∀W,BL w3 W->W.heap[w2.heap.size]?=some (.cells #[.string gn,.string go,.string gu,.int .i64 gk,.int .i64 gl,.int .i64 gh,.slice a1 X c1,.slice Y Z c2] 85 (0,0))):=hid (fun W a=>(a.block _ (by rw[hw3];simp)).trans ahS);have t:=hid hw3;clear hw3;go_upto_region 2 with fail;rw[<-t.out];clear H I J K L M N O P Q R T U V;obtain⟨⟨H,I,J,K,L,M,N,O,P,Q,R,T,U,V⟩, -⟩:=gN (HX.out w3 gT.out);obtain⟨⟨u0,u1,u2,u3,u4,u5,u6,u7⟩, -⟩:=ez (vV.out w3 aG);rcases s.out with e|e|e|e|e
 all_goals
  subst e
  clear s
  go_wp2_with fail
  refine(A.out w3 cN.out).mono ?_
  rintro e w5 ⟨rfl,jZ⟩
  have iH:=aR cN jZ
  clear jZ
  go_wp2_with fail
  refine(sq _ _ _ _ _ _ (World.alloc _ _) (by rfl) alM (bD _ _ rfl)).mono ?_
  rintro e wz ⟨rfl,r⟩
  have xM:Hid (BL w wz):=hid ((iH.out.alloc iH.out.size _).trans (r.mono alI))
  clear r
  go_wp2
  go_ret
  exact⟨rfl,xM.out⟩
theorem Gs(h:p:=by
  refine bG ?_
  try simp only[jW,jH]
  clear qo qp qt qu TG Zl hqf3
  have gX:=aR cH GH.out
  go_wp2_with fail
  refine(sq _ _ _ _ _ _ (World.alloc _ _) (by first|rfl|exact hkz) alM (bD _ _ rfl)).mono ?_
  rintro e wz ⟨rfl,hbz⟩
  have xM:Hid (BL w wz):=hid ((gX.out.alloc gX.out.size _).trans (hbz.mono (by have:=gX.out.size;simp;omega)))
  clear hbz
  go_wp2
  go_ret
  exact⟨rfl,xM.out⟩):p:=h
theorem OP(x:aC.cE)(i:Nat)(v:Value)(S:Nat->Prop)(w:World)(r:dO S w v x)(s:i<x.ah.length)(h1:¬aC.dc x (aC.kd x i).name<i)(h2:0<(aC.kd x i).aF.length)(t:(aC.fd x i 0).kind=0):
  CB 56 #[v,.int .i64 i] w (.int .i64 0):=by
 obtain⟨a,u,y,z,A,B,rfl,L,X,Y,Z,aa,ab⟩:=r.form;have HV:=hid (fun W (c:BL w W)=>r.keep (aH.below c));obtain⟨o, -,M,N,O,uf,P,C⟩:=L.at s;rw[dH s] at h1 h2;have l:0<x.ah[i].aF.length:=h2;rw[show aC.fd x i 0=x.ah[i].aF[0] from iX (j:=0) s l] at t;obtain⟨d,D,rfl,ad, -, -⟩:=C.form;obtain⟨Nj, -, -, -, -,E, -⟩:=dx.at C l;rw[t] at E;have Q:=hid (fun W (c:BL w W)=>qY x x.ah[i].name _ S W (HV.out W c));have Yk:=hid h1;clear C L X Y r t h1 h2;generalize x.ah[i]=kd at*;obtain⟨q,R,T,Fv⟩:=kd;simp only at*;generalize aC.dc x q=kz at*;generalize Fv.length=m at*;have ae:(0:Int)<=i:=aD
 have ag:(i:Int)<x.ah.length:=aD
 have hkz:=decide_eq_false Yk.out;have U:((m:Int)==0)=false:=jo
 have ai:(0:Int)<m:=aD
 obtain⟨w1,hw1⟩:=bJ (bSx w x a y A u z B);have k:=yL hw1;have g:Hid (w1.heap[w.heap.size]?=some (.cells (sBx x a y A u z B) 27 (0,0))):=hid Qs;delta bSx fJ at hw1;have F:=hid hw1;clear hw1;obtain⟨w2,hw2⟩:=bJ (w1.alloc (.cells #[.string q,.int .i64 R,.int .i64 T,.slice d m D] 53));have cH:Hid (Below w.heap.size w w2):=hid (by rw[hw2];exact k.out.alloc k.out.size _);have HX:Hid (∀W,BL w2 W->W.heap[w.heap.size]?=some (.cells (sBx x a y A u z B) 27 (0,0))):=hid (fun W c=>(c.block _ (by rw[hw2];have:=aI g.out;simp;omega)).trans (by rw[hw2];exact cC _ g.out));have V:Hid (∀W,BL w2 W->W.heap[w1.heap.size]?=some (.cells #[.string q,.int .i64 R,.int .i64 T,.slice d m D] 53 (0,0))):=hid (fun W c=>(c.block _ afo).trans WH);have HF:Hid (∀W,BL w2 W->W.cell? ⟨bM d,bT d+3,none⟩=some (.int .i64 0)):=hid (fun W c=>((bO cH.out c).cell (p:=⟨bM d,bT d+3,none⟩) Nj).trans (by simpa using E));have G:=hid hw2;clear hw2 E;obtain⟨y0,y1,y2,y3⟩:=b4z g.out;have H:=(k.out.cell (p:=⟨bM a,bT a+i*4,none⟩) o).trans M;have I:=(k.out.cell (p:=⟨bM a,bT a+i*4+1,none⟩) o).trans N;have J:=(k.out.cell (p:=⟨bM a,bT a+i*4+2,none⟩) o).trans O;have K:=(k.out.cell (p:=⟨bM a,bT a+i*4+3,none⟩) o).trans P;clear M N O P;go_enter func56,ntmps56;go_upto_region 1 with fail;rw[<-F.out];go_upto_region 2 with fail;rw[<-G.out];clear y0 y1 y2 y3 H I J K;obtain⟨qo,qp,qt,qu⟩:=VT HX.out;have TG:=eC w2 ⟨w1.heap.size,0,none⟩ (.string q) fun f=>(bF (V.out f.1 f.2)).1.1;have Zl:=eC w2 ⟨w1.heap.size,3,none⟩ (.slice d m D) fun f=>(bF (V.out f.1 f.2)).1.2.2.2;have hqf3:=eC w2 ⟨bM d,bT d+3,none⟩ (.int .i64 0) fun f=>HF.out f.1 f.2;refine alR w2 20 (.quiet 0 (.quiet 1 (.quiet 2 (.quiet 4 (.quiet 7 (.quiet 8 (.two 3 9 (.quiet 5 (.quiet 6 (.one 9 (.quiet 10 (.quiet 11 (.quiet 12 (.quiet 13 (.quiet 14 (.quiet 15 (.quiet 16 (.quiet 17 (.quiet 18 (.quiet 19 .done))))))))))))) (.quiet 10 (.one 3 (.quiet 5 (.quiet 6 (.quiet 11 (.quiet 12 (.quiet 13 (.quiet 14 (.quiet 15 (.quiet 16 (.quiet 17 (.quiet 18 (.quiet 19 .done)))))))))))))))))))) nK zK fun w3 n=>?_
 iterate 6 refine gF ?_
 refine fP rfl rfl ?_ ?_
 ·go_wp2_with fail
  refine(Q.out w3 (bO cH.out n.out)).mono ?_;rintro e w4 ⟨rfl,b⟩;have GH:=aR n b;clear b;go_wp2_with fail;refine aN (BL w2) (fun _ h=>h) GH.out ?_
  iterate 2 refine gF ?_
  refine aZ rfl ?_;go_wp2_with fail;refine aN (BL w2) (fun _ h=>h) GH.out ?_
  iterate 10 refine gF ?_
  exact Gs
 ·go_wp2_with fail
  refine aN (BL w2) (fun _ h=>h) n.out ?_;refine gF ?_;refine aZ rfl ?_;go_wp2_with fail;refine(Q.out w3 (bO cH.out n.out)).mono ?_;rintro e w4 ⟨rfl,b⟩;have GH:=aR n b;clear b;go_wp2_with fail;refine aN (BL w2) (fun _ h=>h) GH.out ?_
  iterate 11 refine gF ?_
  exact Gs
theorem fC.take{α:Type}{n:Nat}{R:World->List Value->α->Prop}{S:Nat->Prop}{w:World}{a:Option Addr}{m cap:Nat}{xs:List α}(h:fC n R S w (.slice a m cap) xs){k:Nat}(t:k<=xs.length):fC n R S w (.slice a k cap) (xs.take k):=by
 obtain⟨u,d,e,f,v,g,i,l⟩:=h;cases e;have b:(xs.take k).length=k:=Qt
 refine⟨a,cap,by rw[b],fun c=>f (by rw[b] at c;omega),by rw[b];omega,g,fun c=>i (by rw[b] at c;omega),fun j o=>?_⟩;rw[b] at o;obtain⟨p,q,r,s⟩:=l j aD;exact⟨p,q,r,by rw[List.getElem_take];exact s⟩
theorem TH(r:aC.Rul)(s:ByteArray)(b:Nat)(w:World)(c:w.cell? ⟨b,0,none⟩=some (.string s)):
  CB 102 #[.agg #[.string r.name,.string r.kind,.string r.a,.string r.b,.int .i64 r.n],.pointer (some ⟨b,0,none⟩)] w (.bool (decide (r.name=s))):=by
 have d:b<w.heap.size:=kK w ⟨b,0,none⟩ c;have HD:Hid ((r.name.toList==s.toList)=decide (r.name=s)):=hid NF;obtain⟨e,rk,f,g,rw⟩:=r;simp only at HD ⊢;go_enter func102,ntmps102;exact YX
theorem abb(h:p:=by
  clear hw g0 g1 g2 g3 g4 g5 g6 g7 gf HS
  refine aN (BL wr) (fun _ h=>h) Fx.out ?_
  refine bG ?_
  try simp only[jW,jH]
  clear qo qp qt qu TG agv agw Zl
  obtain⟨⟨u0,u1,u2,u3,u4,u5,u6,u7⟩, -⟩:=ez EP.out
  have C5:=aR hbr Fx.out
  rcases HGK.out with e|e
  all_goals
   subst e
   go_wp2
   go_roundw
   case rel=>exact⟨k+1,aD,zG,afr,afr,C5⟩
   exact zI):p:=h
theorem OQ(x:aC.cE)(i:Nat)(v:Value)(S:Nat->Prop)(w:World)(hv:dO S w v x)(hi:i<x.aX.length)(h1:(x.aX.take i).any (fun s=>decide (s.name=(aC.rl x i).name))=false)(h2:0<=aC.dc x (aC.rl x i).kind)
  (N:∀s,s=(aC.rl x i).a\/s=(aC.rl x i).b->s=aC.nil\/(aC.hasB x (aC.dc x (aC.rl x i).kind) (aC.bV (aC.kd x (aC.dc x (aC.rl x i).kind)) s)=true/\((mq x (aC.dc x (aC.rl x i).kind) (aC.bV (aC.kd x (aC.dc x (aC.rl x i).kind)) s)).kind=2\/(mq x (aC.dc x (aC.rl x i).kind) (aC.bV (aC.kd x (aC.dc x (aC.rl x i).kind)) s)).kind=4)))(h4:¬(aC.rl x i).a=(aC.rl x i).b):
  CB 58 #[v,.int .i64 i] w (.int .i64 0):=by
 obtain⟨c,ck,al,cl,n,O,rfl,hk,hl,hr,aB,aE,aJ⟩:=hv.form;have HV:=hid (fun W (d:BL w W)=>hv.keep (aH.below d));obtain⟨OB, -,r0,r1,r2,r3,r4⟩:=qI.at hr hi;have ae:aC.rl x i=x.aX[i]:=by unfold aC.rl;rw[iY,lN hi];rfl
 rw[ae] at h1 h2 N h4;have aK:x.aX.length<=O/\O<=9223372036854775807:=by obtain⟨_,_,e, -,g1,g2⟩:=hr.form;cases e;exact⟨g1,g2⟩
 have ap:=hid (fun W (d:BL w W)=>fC.take (fC.keep fO hr (aH.below d)) (k:=i) aD);have ag:=hid h1;have vE:=hid (fun(s:ByteArray) (W:World) (d:BL w W)=>qY x s _ S W (HV.out W d));have aL:(x.aX.take i).length=i:=Qt
 clear hv hl hr ae h1;generalize x.aX[i]=r at*;obtain⟨rn,rk,P,Q,rw⟩:=r;simp only at r0 r1 r2 r3 r4 h2 N h4 ag;obtain⟨o,ho⟩:∃o:Nat,aC.dc x rk=(o:Int):=⟨(aC.dc x rk).toNat,aD⟩
 have ai:o<x.ah.length:=by
  rcases kS (fun k:aC.fT=>decide (k.name=rk)) x.ah with h|h
  ·have:aC.dc x rk<x.ah.length:=h
   omega
  ·have:aC.dc x rk= -1:=h
   omega
 rw[ho] at N;have R:=hid (vE.out rk);rw[ho] at R;clear ho h2;obtain⟨pU, -,k0,k1,k2,uf,k3,nN⟩:=hk.at ai;obtain⟨af,cf,rfl, -, -, -⟩:=nN.form;have JU:=hid (fun(s:ByteArray) (W:World) (d:BL w W)=>pH x.ah[o] s _ S W (nN.keep (aH.below d)))
 have Lj:Hid (∀W,BL w W->W.cell? ⟨bM c,bT c+o*4,none⟩=some (.string x.ah[o].name)/\W.cell? ⟨bM c,bT c+o*4+1,none⟩=some (.int .i64 x.ah[o].lo)/\W.cell? ⟨bM c,bT c+o*4+2,none⟩=some (.int .i64 x.ah[o].hi)/\W.cell? ⟨bM c,bT c+o*4+3,none⟩=some (.slice af x.ah[o].aF.length cf)):=hid (fun W d=>
   ⟨(d.cell (p:=⟨bM c,bT c+o*4,none⟩) pU).trans k0,(d.cell (p:=⟨bM c,bT c+o*4+1,none⟩) pU).trans k1,(d.cell (p:=⟨bM c,bT c+o*4+2,none⟩) pU).trans k2,(d.cell (p:=⟨bM c,bT c+o*4+3,none⟩) pU).trans k3⟩)
 have Nn:=hid (fun(u:Int) (W:World) (d:BL w W)=>qd x (o:Int) u _ S W (HV.out W d));rw[dH ai] at N;obtain⟨q,T⟩:∃f:Nat->ByteArray,f=fun k=>if k=0 then P else Q:=⟨_,rfl⟩
 have HG:Hid (∀k,k<2->q k=aC.nil\/(aC.hasB x o (aC.bV x.ah[o] (q k))=true/\((mq x o (aC.bV x.ah[o] (q k))).kind=2\/(mq x o (aC.bV x.ah[o] (q k))).kind=4))):=hid (fun k z=>by
  subst T;simp only;split
  ·exact N P (.inl rfl)
  ·exact N Q (.inr rfl))
 clear k0 k1 k2 k3 nN hk N;generalize x.ah[o]=kd at*;obtain⟨kn,Gy,Gz,Fv⟩:=kd;simp only[kH] at JU;simp only at Lj;obtain⟨nf,aj⟩:=bJ Fv.length;rw[<-aj] at Lj JU;clear aj;have aq:(P.toList==Q.toList)=false:=by rw[NF];simpa using h4
 clear h4;have aM:(0:Int)<=i:=aD
 have aO:(i:Int)<x.aX.length:=aD
 have aS:(0:Int)<=o:=aD
 have K4:(o:Int)<x.ah.length:=aD
 have aT:¬(o:Int)<0:=aD
 obtain⟨w1,hw1⟩:=bJ (bSx w x c al n ck cl O);have U:=yL hw1;have V:Hid (w1.heap[w.heap.size]?=some (.cells (sBx x c al n ck cl O) 27 (0,0))):=hid Qs;delta bSx fJ at hw1;have au:=hid hw1;clear hw1;obtain⟨w2,hw2⟩:=bJ (w1.alloc (.cells #[.string rn,.string rk,.string P,.string Q,.int .i64 rw] 61));have cH:Hid (Below w.heap.size w w2):=hid (by rw[hw2];exact U.out.alloc U.out.size _);have HX:Hid (∀W,BL w2 W->W.heap[w.heap.size]?=some (.cells (sBx x c al n ck cl O) 27 (0,0))):=hid (fun W d=>(d.block _ (by rw[hw2];have:=aI V.out;simp;omega)).trans (by rw[hw2];exact cC _ V.out));have HR:Hid (∀W,BL w2 W->W.heap[w1.heap.size]?=some (.cells #[.string rn,.string rk,.string P,.string Q,.int .i64 rw] 61 (0,0))):=hid (fun W d=>(d.block _ afo).trans WH);have av:=hid hw2;clear hw2
 have Y:=hid (Rj fO (x.aX.take i) (fun s:aC.Rul=>decide (s.name=rn)) _ S w2 (ap.out w2 cH.out) 102 #[.pointer (some ⟨w1.heap.size,0,none⟩)] (cF func102 zK rfl) (fun X hX j hj us _ hu=>by
  obtain rfl:=hu;exact TH _ rn _ X (nO (HR.out X hX)).1.1))
 rw[ag.out] at Y;obtain⟨K,Z,y2,y3⟩:=b4z V.out;have aw:=(U.out.cell (p:=⟨bM n,bT n+i*5,none⟩) OB).trans r0;have ax:=(U.out.cell (p:=⟨bM n,bT n+i*5+1,none⟩) OB).trans r1;have ay:=(U.out.cell (p:=⟨bM n,bT n+i*5+2,none⟩) OB).trans r2;have az:=(U.out.cell (p:=⟨bM n,bT n+i*5+3,none⟩) OB).trans r3;have aA:=(U.out.cell (p:=⟨bM n,bT n+i*5+4,none⟩) OB).trans r4;clear r0 r1 r2 r3 r4;go_enter func58,ntmps58;go_upto_region 1 with fail;rw[<-au.out];go_upto_region 2 with fail;rw[<-av.out];clear K Z y2 y3 aw ax ay az aA;obtain⟨K,Z,y2,y3⟩:=b4z (HX.out w2 aG);have aU:(i:Int)<=O:=aD
 go_wp2_with fail;refine Y.out.mono ?_;rintro e w3 ⟨rfl,aa⟩;have gT:Hid (BL w2 w3):=hid aa;have cN:=aR cH aa;clear aa K Z y2 y3 Y;obtain⟨K,Z,y2,y3⟩:=b4z (HX.out w3 gT.out);obtain⟨⟨z0,z1,z2,z3,z4⟩, -⟩:=nO (HR.out w3 gT.out);go_wp2_with fail;refine(R.out w3 cN.out).mono ?_;rintro e w4 ⟨rfl,ab⟩;have kJ:=aR gT ab;have gX:=aR cN ab;clear ab K Z y2 y3 z0 z1 z2 z3 z4;obtain⟨K,Z,y2,y3⟩:=b4z (HX.out w4 kJ.out);obtain⟨⟨z0,z1,z2,z3,z4⟩, -⟩:=nO (HR.out w4 kJ.out);have aW:decide ((o:Int)<0)=false:=decide_eq_false aD;obtain⟨w5,rI⟩:=bJ (w4.alloc (.cells #[.string P,.string Q] 9));have kY:Hid (Below w2.heap.size w2 w5):=hid (by rw[rI];exact kJ.out.alloc kJ.out.size _);have iH:Hid (Below w.heap.size w w5):=hid (by rw[rI];exact gX.out.alloc gX.out.size _);have E1:Hid (w5.heap[w4.heap.size]?=some (.cells #[.string P,.string Q] 9 (0,0))):=hid (by rw[rI];exact bD _ _ rfl)
 have BP:Hid (∀W,BL w5 W->∀k,k<2->W.cell? ⟨w4.heap.size,k,none⟩=some (.string (q k))):=hid (fun W d k z=>by
  have h0:=(d.cell (p:=⟨w4.heap.size,k,none⟩) (aI E1.out));rw[h0,T];match k,z with
  |0,_=>exact aP E1.out 0
  |1,_=>exact aP E1.out 1)
 have EU:=hid rI;clear rI T;have aY:w4.heap.size<w5.heap.size:=aI E1.out;go_upto_region 5 with fail;go_upto_region 6 with fail;rw[<-EU.out];clear K Z y2 y3 z0 z1 z2 z3 z4;go_loopw [8,9,37] (fun s8 s9 k wr=>∃k':Nat,k'<=2/\k=.int .i64 k'/\s8=.bool false/\s9=.bool false/\Hid (BL w5 wr)) (fun _ _ k _=>2-(intOf k).toNat);case atStart=>exact⟨0,aD,rfl,rfl,rfl,hid aG⟩
 case round=>
  obtain⟨k,hk,rfl,rfl,rfl,hbr⟩:=hrel;have nJ:=aR kY hbr.out;have t:=aR iH hbr.out;by_cases z:k<2
  ·have a0:=zN k
   have a3:(k:Int)<2:=aD
   have K:=BP.out wr hbr.out k z;have ad:=hid (HG.out k z);generalize q k=s at*;by_cases hs:s=aC.nil
   ·subst hs
    clear ad;unfold aC.nil at*;go_wp2;go_roundw;case rel=>exact⟨k+1,aD,zG,rfl,rfl,hbr⟩
    exact zI
   ·have he:=nZ hs
    have am:=hid (ad.out.resolve_left hs);clear ad hs;have Dc:=hid (fun W (d:BL w W)=>JU.out s W d);generalize aC.bV ⟨kn,Gy,Gz,Fv⟩ s=tz at*;have sU:=hid (fun W (d:BL w W)=>Nn.out tz W d);unfold AtP at sU;obtain⟨g1,g2⟩:=am.out;rw[g1] at sU;have HGK:=hid g2;clear g1 g2 am;generalize mq x (o:Int) tz=g at*;obtain⟨F,go,G,gk,H,I,Fw,a4⟩:=g;simp only[dh] at sU HGK;go_upto_region 9 with fail;have qo:=eC wr ⟨w.heap.size,0,none⟩ (.int .i64 x.aQ) fun l=>(bF (HX.out l.1 (bO nJ.out l.2))).1.1;have qp:=eC wr ⟨w.heap.size,1,none⟩ (.slice c x.ah.length ck) fun l=>(bF (HX.out l.1 (bO nJ.out l.2))).1.2.1;have qt:=eC wr ⟨w.heap.size,2,none⟩ (.slice al x.aV.length cl) fun l=>(bF (HX.out l.1 (bO nJ.out l.2))).1.2.2.1;have qu:=eC wr ⟨w.heap.size,3,none⟩ (.slice n x.aX.length O) fun l=>(bF (HX.out l.1 (bO nJ.out l.2))).1.2.2.2;have TG:=eC wr ⟨bM c,bT c+o*4,none⟩ (.string kn) fun l=>(Lj.out l.1 (bO t.out l.2)).1;have agv:=eC wr ⟨bM c,bT c+o*4+1,none⟩ (.int .i64 Gy) fun l=>(Lj.out l.1 (bO t.out l.2)).2.1;have agw:=eC wr ⟨bM c,bT c+o*4+2,none⟩ (.int .i64 Gz) fun l=>(Lj.out l.1 (bO t.out l.2)).2.2.1;have Zl:=eC wr ⟨bM c,bT c+o*4+3,none⟩ (.slice af nf cf) fun l=>(Lj.out l.1 (bO t.out l.2)).2.2.2;refine alR wr 15 (.quiet 0 (.quiet 1 (.quiet 2 (.quiet 3 (.quiet 4 (.quiet 5 (.quiet 6 (.quiet 7 (.two 8 13 (.two 9 13 (.quiet 10 (.quiet 11 (.quiet 12 (.one 13 (.one 14 .done))))) (.one 9 (.quiet 10 (.quiet 11 (.quiet 12 (.one 14 .done)))))) (.one 8 (.one 9 (.quiet 10 (.quiet 11 (.quiet 12 (.one 14 .done))))))))))))))) nK zK fun w6 GF=>?_;have fH:=GF;clear GF Nn JU vE R
    iterate 8 refine gF ?_
    refine fP rfl rfl ?_ ?_
    ·go_wp2_with fail
     refine(Dc.out w6 (bO t.out fH.out)).mono ?_;rintro e w7 ⟨rfl,hb⟩;have E:=aR fH hb;clear hb;go_wp2_with fail;refine aN (BL wr) (fun _ h=>h) E.out ?_;refine fP rfl rfl ?_ ?_
     ·go_wp2_with fail
      refine(sU.out w7 (bO t.out E.out)).mono ?_;rintro e m ⟨a1,A,c1,B,C,c2,rfl, -,hb⟩;have y:=aR E hb;clear hb;go_wp2_with fail;refine aN (BL wr) (fun _ h=>h) y.out ?_
      iterate 3 refine gF ?_
      refine aZ rfl ?_;go_wp2_with fail;obtain⟨J,hw⟩:=bJ (m.alloc (.cells #[.string {data:=#[]},.string {data:=#[]},.string {data:=#[]},.int .i64 0,.int .i64 0,.int .i64 0,.slice none 0 0,.slice none 0 0] 85));rw[<-hw];have vR:Hid (Below wr.heap.size wr J):=hid (by rw[hw];exact y.out.alloc y.out.size _);have L:Hid (J.heap[m.heap.size]?=some (.cells #[.string {data:=#[]},.string {data:=#[]},.string {data:=#[]},.int .i64 0,.int .i64 0,.int .i64 0,.slice none 0 0,.slice none 0 0] 85 (0,0))):=hid Ka;clear hw;refine aN (BL wr) (fun _ h=>h) vR.out ?_;obtain⟨⟨g0,g1,g2,g3,g4,g5,g6,g7⟩,gf⟩:=ez L.out;have HS:=hid (Kq L.out (.string F) (.string go) (.string G) (.int .i64 gk) (.int .i64 H) (.int .i64 I) (.slice a1 A c1) (.slice B C c2));have an:wr.heap.size<=m.heap.size:=y.out.size;refine aZ rfl ?_;go_wp2_with fail;obtain⟨M,hw⟩:=bJ (((((((((J.setCell ⟨m.heap.size,0,none⟩ (.string F)).setCell ⟨m.heap.size,1,none⟩ (.string go)).setCell ⟨m.heap.size,2,none⟩ (.string G)).setCell ⟨m.heap.size,3,none⟩ (.int .i64 gk)).setCell ⟨m.heap.size,4,none⟩ (.int .i64 H)).setCell ⟨m.heap.size,5,none⟩ (.int .i64 I)).setCell ⟨m.heap.size,6,none⟩ (.slice a1 A c1)).setCell ⟨m.heap.size,7,none⟩ (.slice B C c2)));rw[<-hw];have Fx:Hid (Below wr.heap.size wr M):=hid Qv;have EP:Hid (M.heap[m.heap.size]?=some (.cells #[.string F,.string go,.string G,.int .i64 gk,.int .i64 H,.int .i64 I,.slice a1 A c1,.slice B C c2] 85 (0,0))):=hid (by rw[hw];exact HS.out.1);exact abb
     ·go_wp2_with fail
      obtain⟨m,hw⟩:=bJ (w7.alloc (.cells #[.string {data:=#[]},.string {data:=#[]},.string {data:=#[]},.int .i64 0,.int .i64 0,.int .i64 0,.slice none 0 0,.slice none 0 0] 85));rw[<-hw];have y:Hid (Below wr.heap.size wr m):=hid (by rw[hw];exact E.out.alloc E.out.size _);have D:Hid (m.heap[w7.heap.size]?=some (.cells #[.string {data:=#[]},.string {data:=#[]},.string {data:=#[]},.int .i64 0,.int .i64 0,.int .i64 0,.slice none 0 0,.slice none 0 0] 85 (0,0))):=hid Ka;clear hw;refine aN (BL wr) (fun _ h=>h) y.out ?_;refine aZ rfl ?_;go_wp2_with fail;refine(sU.out m (bO t.out y.out)).mono ?_;rintro e J ⟨a1,A,c1,B,C,c2,rfl, -,hb⟩;have vR:=aR y hb;have L:Hid (J.heap[w7.heap.size]?=some (.cells #[.string {data:=#[]},.string {data:=#[]},.string {data:=#[]},.int .i64 0,.int .i64 0,.int .i64 0,.slice none 0 0,.slice none 0 0] 85 (0,0))):=hid ((hb.block _ (aI D.out)).trans D.out);clear hb;go_wp2_with fail;refine aN (BL wr) (fun _ h=>h) vR.out ?_
      iterate 3 refine gF ?_
      obtain⟨⟨g0,g1,g2,g3,g4,g5,g6,g7⟩,gf⟩:=ez L.out;have HS:=hid (Kq L.out (.string F) (.string go) (.string G) (.int .i64 gk) (.int .i64 H) (.int .i64 I) (.slice a1 A c1) (.slice B C c2));have an:wr.heap.size<=w7.heap.size:=E.out.size;refine aZ rfl ?_;go_wp2_with fail;obtain⟨M,hw⟩:=bJ (((((((((J.setCell ⟨w7.heap.size,0,none⟩ (.string F)).setCell ⟨w7.heap.size,1,none⟩ (.string go)).setCell ⟨w7.heap.size,2,none⟩ (.string G)).setCell ⟨w7.heap.size,3,none⟩ (.int .i64 gk)).setCell ⟨w7.heap.size,4,none⟩ (.int .i64 H)).setCell ⟨w7.heap.size,5,none⟩ (.int .i64 I)).setCell ⟨w7.heap.size,6,none⟩ (.slice a1 A c1)).setCell ⟨w7.heap.size,7,none⟩ (.slice B C c2)));rw[<-hw];have Fx:Hid (Below wr.heap.size wr M):=hid Qv;have EP:Hid (M.heap[w7.heap.size]?=some (.cells #[.string F,.string go,.string G,.int .i64 gk,.int .i64 H,.int .i64 I,.slice a1 A c1,.slice B C c2] 85 (0,0))):=hid (by rw[hw];exact HS.out.1);exact abb
    ·go_wp2_with fail
     obtain⟨w7,hw⟩:=bJ (w6.alloc (.cells #[.string {data:=#[]},.string {data:=#[]},.string {data:=#[]},.int .i64 0,.int .i64 0,.int .i64 0,.slice none 0 0,.slice none 0 0] 85));rw[<-hw];have E:Hid (Below wr.heap.size wr w7):=hid (by rw[hw];exact fH.out.alloc fH.out.size _);have ao:Hid (w7.heap[w6.heap.size]?=some (.cells #[.string {data:=#[]},.string {data:=#[]},.string {data:=#[]},.int .i64 0,.int .i64 0,.int .i64 0,.slice none 0 0,.slice none 0 0] 85 (0,0))):=hid Ka;clear hw;refine aN (BL wr) (fun _ h=>h) E.out ?_;refine aZ rfl ?_;go_wp2_with fail;refine(Dc.out w7 (bO t.out E.out)).mono ?_;rintro e m ⟨rfl,hb⟩;have y:=aR E hb;have D:Hid (m.heap[w6.heap.size]?=some (.cells #[.string {data:=#[]},.string {data:=#[]},.string {data:=#[]},.int .i64 0,.int .i64 0,.int .i64 0,.slice none 0 0,.slice none 0 0] 85 (0,0))):=hid ((hb.block _ (aI ao.out)).trans ao.out);clear hb;go_wp2_with fail;refine aN (BL wr) (fun _ h=>h) y.out ?_;refine aZ rfl ?_;go_wp2_with fail;refine(sU.out m (bO t.out y.out)).mono ?_;rintro e J ⟨a1,A,c1,B,C,c2,rfl, -,hb⟩;have vR:=aR y hb;have L:Hid (J.heap[w6.heap.size]?=some (.cells #[.string {data:=#[]},.string {data:=#[]},.string {data:=#[]},.int .i64 0,.int .i64 0,.int .i64 0,.slice none 0 0,.slice none 0 0] 85 (0,0))):=hid ((hb.block _ (aI D.out)).trans D.out);clear hb;go_wp2_with fail;refine aN (BL wr) (fun _ h=>h) vR.out ?_
     iterate 3 refine gF ?_
     obtain⟨⟨g0,g1,g2,g3,g4,g5,g6,g7⟩,gf⟩:=ez L.out;have HS:=hid (Kq L.out (.string F) (.string go) (.string G) (.int .i64 gk) (.int .i64 H) (.int .i64 I) (.slice a1 A c1) (.slice B C c2));have an:wr.heap.size<=w6.heap.size:=fH.out.size;refine aZ rfl ?_;go_wp2_with fail;obtain⟨M,hw⟩:=bJ (((((((((J.setCell ⟨w6.heap.size,0,none⟩ (.string F)).setCell ⟨w6.heap.size,1,none⟩ (.string go)).setCell ⟨w6.heap.size,2,none⟩ (.string G)).setCell ⟨w6.heap.size,3,none⟩ (.int .i64 gk)).setCell ⟨w6.heap.size,4,none⟩ (.int .i64 H)).setCell ⟨w6.heap.size,5,none⟩ (.int .i64 I)).setCell ⟨w6.heap.size,6,none⟩ (.slice a1 A c1)).setCell ⟨w6.heap.size,7,none⟩ (.slice B C c2)));rw[<-hw];have Fx:Hid (Below wr.heap.size wr M):=hid Qv;have EP:Hid (M.heap[w6.heap.size]?=some (.cells #[.string F,.string go,.string G,.int .i64 gk,.int .i64 H,.int .i64 I,.slice a1 A c1,.slice B C c2] 85 (0,0))):=hid (by rw[hw];exact HS.out.1);exact abb
  ·obtain rfl:k=2:=by omega
   obtain⟨⟨z0,z1,z2,z3,z4⟩, -⟩:=nO (HR.out wr nJ.out);go_wp2_with fail;refine(OE _ _ _ _ _ _ _ _ _ _ (World.alloc _ _) rfl rfl rfl (by first|rfl|exact aq) (bD _ _ rfl)).mono ?_;rintro e wz ⟨rfl,hbz⟩;have xM:Hid (BL w wz):=hid ((t.out.alloc t.out.size _).trans (hbz.mono (by have:=t.out.size;simp;omega)));exact aeh
def BX(k:Int):Option Nat:=
 if k=0 then some 262 else if k=1 then some 263 else if k=4 then some 264 else if k=5 then some 265 else if k=6 then some 267
 else if k=7 then some 269 else if k=8 then some 271 else none
def TI(k:Int):Value:=match BX k with
 |some fo=>.agg #[.func (.func fo) #[] #[]]
 |none=>.agg #[.nilFunc]
structure TabC(b:Nat)(w:World):Prop where
 glob:w.cell? ⟨0,0,none⟩=some (.map (some b))
 lt:b<w.heap.size
 look:∀(W:World),W.heap[b]?=w.heap[b]?->∀k:Int,0<=k->k<=8->(Instr.lookup 114 (.map (some b)) (.int .i64 k) true).run prog W=.ok (.tuple #[TI k,.bool (BX k).isSome]) W
theorem TabC.below{b B:Nat}{w w':World}(h:TabC b w)(a:Below B w w')(hB:b<B)(h0:0<B):TabC b w':=
 ⟨(a.cell (p:=⟨0,0,none⟩) h0).trans h.glob,oN h.lt a.size,fun W c=>h.look W (c.trans (a.block _ hB))⟩
theorem Lv{f:aC.dA}(h:aC.dD f=true):0<=f.kind/\f.kind<=8:=by
 unfold aC.dD at h;simp only[pR] at h;have a:=h.2;unfold aC.kZ at a;repeat' split at a
 all_goals first|omega|simp at a
theorem acf{x:aC.cE}{i j:Int}(h0:0<=i)(h1:i<x.ah.length)(h2:0<=j)(a:j<(aC.kd x i).aF.length):aC.hasB x i j=true:=by
 unfold aC.hasB;rw[decide_eq_true h0,decide_eq_true h1,decide_eq_true h2,decide_eq_true a];rfl
theorem GI{x:aC.cE}{i j:Int}{f:aC.dA}(b:0<=aC.eD x i j)(h:¬aC.zW x i j f=none):aC.hasB x (aC.eD x i j) (l6 x i j f)=true/\aC.pS x i j f=mq x (aC.eD x i j) (l6 x i j f):=by
 unfold aC.pS;unfold aC.zW at h ⊢;rw[if_neg aD] at h ⊢;by_cases a:aC.hasB x (aC.eD x i j) (aC.bV (aC.kd x (aC.eD x i j)) f.of)=true
 ·refine⟨a,?_⟩
  rw[if_pos a];unfold mq l6;rw[if_pos a];rfl
 ·rw[if_neg a] at h
  exact absurd rfl h
theorem acg(x:aC.cE)(i j:Nat)(N:i<x.ah.length)(O:j<(aC.kd x i).aF.length)(h0:aC.mC x i j=0)(J:x.ah.length<=1000)(u:∀k∈x.ah,k.aF.length<=1000)(z:Nat)(a:BX (aC.fd x i j).kind=some z)
  (g l m:Option Addr)(n o p:Nat)(q r:Value)(S:Nat->Prop)(w:World)(s:dO S w (.agg (sBx x g l m n o p)) x):
  CP z #[.agg (lE x.aQ g x.ah.length n l x.aV.length o m x.aX.length p i j (aC.fd x i j) q r).toArray] w fun e K=>e=.returned (.int .i64 0)/\BL w K:=by
 have b:(0:Int)<=i/\(i:Int)<x.ah.length:=⟨aD,aD⟩;unfold aC.mC at h0;simp only at h0;unfold BX at a;by_cases A:(aC.fd x i j).kind=0
 ·rw[if_pos A] at a h0
  cases a
  exact OG x i j _ g l m n o p q r S w s (by
   by_cases v:(0:Int)<j
   ·rw[if_pos v] at h0;omega
   ·omega)
 rw[if_neg A] at a h0;by_cases B:(aC.fd x i j).kind=1
 ·rw[if_pos B] at a h0
  cases a
  exact OH x i j _ g l m n o p q r S w s (by
   by_cases d:aC.eD x i j<0
   ·rw[if_pos d] at h0;omega
   ·omega)
 rw[if_neg B] at a h0;by_cases C:(aC.fd x i j).kind=4
 ·rw[if_pos C] at a h0
  cases a;refine OL x i j _ g l m n o p q r S w s b ?_;by_cases D:(aC.fd x i j).of=aC.nil
  ·exact .inl D
  ·right
   by_cases c:aC.bV (aC.kd x i) (aC.fd x i j).of<0\/(j:Int)<=aC.bV (aC.kd x i) (aC.fd x i j).of\/¬(aC.fd x i (aC.bV (aC.kd x i) (aC.fd x i j).of)).kind=4
   ·rw[if_pos ⟨D,c⟩] at h0;omega
   ·have E:0<=aC.bV (aC.kd x i) (aC.fd x i j).of:=by
     by_cases h:aC.bV (aC.kd x i) (aC.fd x i j).of<0
     ·exact absurd (.inl h) c
     ·omega
    have L:aC.bV (aC.kd x i) (aC.fd x i j).of<j:=by
     by_cases h:(j:Int)<=aC.bV (aC.kd x i) (aC.fd x i j).of
     ·exact absurd (.inr (.inl h)) c
     ·omega
    refine⟨E,L,?_⟩;rw[yT (acf b.1 b.2 E aD)];exact Classical.not_not.1 fun h=>c (.inr (.inr h))
 rw[if_neg C] at a h0;by_cases F:(aC.fd x i j).kind=5
 ·rw[if_pos F] at a h0
  cases a
  exact OI x i j _ g l m n o p q r S w s (by
   by_cases d:aC.FZ x (aC.fd x i j).of=true
   ·exact d
   ·rw[if_neg d] at h0;omega)
 rw[if_neg F] at a h0;by_cases G:(aC.fd x i j).kind=6
 ·rw[if_pos G] at a h0
  cases a;by_cases H:aC.jQ x i (aC.fd x i j)<0
  ·rw[if_pos H] at h0;omega
  rw[if_neg H] at h0;by_cases M:(aC.jR x i (aC.fd x i j)).length≠1
  ·rw[if_pos M] at h0;omega
  exact OJ x i j _ g l m n o p q r S w s b.1 aD aD J u
 rw[if_neg G] at a h0;by_cases I:(aC.fd x i j).kind=7
 ·rw[if_pos I] at a h0
  cases a;by_cases d:aC.eD x i j<0
  ·rw[if_pos d] at h0;omega
  rw[if_neg d] at h0;by_cases c:aC.zW x i j (aC.fd x i j)=none\/(aC.pS x i j (aC.fd x i j)).kind≠6\/aC.dc x (aC.pS x i j (aC.fd x i j)).of≠i
  ·rw[if_pos c] at h0;omega
  obtain⟨y,t⟩:=GI (f:=aC.fd x i j) aD (fun h=>c (.inl h));exact OM x i j _ g l m n o p q r S w s b aD y (by rw[<-t];exact Classical.not_not.1 fun h=>c (.inr (.inl h))) (by rw[<-t];exact Classical.not_not.1 fun h=>c (.inr (.inr h)))
 rw[if_neg I] at a h0;by_cases k8:(aC.fd x i j).kind=8
 ·rw[if_pos k8] at a h0
  cases a;by_cases d:aC.eD x i j<0
  ·rw[if_pos d] at h0;omega
  rw[if_neg d] at h0;by_cases c:aC.zW x i j (aC.fd x i j)=none\/¬((aC.pS x i j (aC.fd x i j)).kind=2\/(aC.pS x i j (aC.fd x i j)).kind=3\/(aC.pS x i j (aC.fd x i j)).kind=4\/(aC.pS x i j (aC.fd x i j)).kind=5\/(aC.pS x i j (aC.fd x i j)).kind=8)
  ·rw[if_pos c] at h0;omega
  obtain⟨y,t⟩:=GI (f:=aC.fd x i j) aD (fun h=>c (.inl h));exact OO x i j _ g l m n o p q r S w s b aD y (by rw[<-t];exact Classical.not_not.1 fun h=>c (.inr h))
 rw[if_neg k8] at a;cases a
theorem OT{k:Int}{a:Nat}(h:BX k=some a):∀args w,(callFunc a args).run prog w=.ok (.enter a args) w:=by
 unfold BX at h;split at h
 ·cases h;exact cF func262 zK rfl
 split at h
 ·cases h;exact cF func263 zK rfl
 split at h
 ·cases h;exact cF func264 zK rfl
 split at h
 ·cases h;exact cF func265 zK rfl
 split at h
 ·cases h;exact cF func267 zK rfl
 split at h
 ·cases h;exact cF func269 zK rfl
 split at h
 ·cases h;exact cF func271 zK rfl
 ·cases h
theorem yX(a b c:Int)(g:Nat)(w:World):
  CP 52 #[.int .i64 a,.int .i64 b,.int .i64 c,.int .i64 0,.pointer (some ⟨g,0,none⟩)] w fun e d=>e=.returned (.tuple #[])/\w=d:=by
 go_enter func52,ntmps52;go_wp2;go_end0;exact⟨rfl,rfl⟩
theorem TJ(a s:ByteArray)(u1 u2:Value)(b:Nat)(w:World)(c:w.cell? ⟨b,0,none⟩=some (.string s)):
  CB 54 #[.agg #[.string a,u1,u2],.pointer (some ⟨b,0,none⟩)] w (.bool (decide (a=s))):=by
 have d:b<w.heap.size:=kK w ⟨b,0,none⟩ c;have HD:Hid ((a.toList==s.toList)=decide (a=s)):=hid NF;go_enter func54,ntmps54;exact YX
theorem TK{x:aC.cE}(h:aC.okB x=true){i:Nat}(b:i<x.aV.length):(x.aV.take i).any (fun l=>decide (l.name=x.aV[i].name))=false:=by
 unfold aC.okB at h;simp only[pR,oW,alU,List.mem_range] at h;have a:=h.1.1.2 i b;unfold aC.AQ at a;rw[lN b] at a;simp only[Option.map_some,Option.some.injEq] at a;cases hc:(x.aV.take i).any (fun l=>decide (l.name=x.aV[i].name)) with
 |false=>rfl
 |true=>rw[hc] at a;simp at a
theorem TL{x:aC.cE}(h:aC.okB x=true){i:Nat}(a:i<x.aX.length):aC.tN x i=0:=by
 unfold aC.okB at h;simp only[pR,oW,alU,List.mem_range] at h;exact h.2 i a
theorem Bk{x:aC.cE}{k:Int}{s:aC.Nm}(f:0<=k)(h1:¬(aC.sO x k s).1=true)(h2:¬(aC.sO x k s).2=true):
  s=aC.nil\/(aC.hasB x k (aC.bV (aC.kd x k) s)=true/\((mq x k (aC.bV (aC.kd x k) s)).kind=2\/(mq x k (aC.bV (aC.kd x k) s)).kind=4)):=by
 by_cases b:s=aC.nil
 ·exact .inl b
 ·unfold aC.sO at h1 h2
  have d:¬(s=aC.nil\/k<0):=fun h=>h.elim b aD;rw[if_neg d] at h1 h2;simp only at h1 h2
  have a:aC.hasB x k (aC.bV (aC.kd x k) s)=true:=by
   cases a:aC.hasB x k (aC.bV (aC.kd x k) s)
   ·rw[a] at h1;exact absurd rfl h1
   ·rfl
  refine .inr ⟨a,?_⟩;rw[yT a];rw[if_pos a] at h2;simp only[pR,oW] at h2;by_cases c:(aC.fd x k (aC.bV (aC.kd x k) s)).kind=2
  ·exact .inl c
  ·exact .inr (Classical.not_not.1 fun e=>h2 ⟨c,e⟩)
theorem OU{x:aC.cE}{i:Nat}(h:aC.tN x i=0):(x.aX.take i).any (fun s=>decide (s.name=(aC.rl x i).name))=false/\0<=aC.dc x (aC.rl x i).kind/\
  (∀s,s=(aC.rl x i).a\/s=(aC.rl x i).b->s=aC.nil\/(aC.hasB x (aC.dc x (aC.rl x i).kind) (aC.bV (aC.kd x (aC.dc x (aC.rl x i).kind)) s)=true/\((mq x (aC.dc x (aC.rl x i).kind) (aC.bV (aC.kd x (aC.dc x (aC.rl x i).kind)) s)).kind=2\/(mq x (aC.dc x (aC.rl x i).kind) (aC.bV (aC.kd x (aC.dc x (aC.rl x i).kind)) s)).kind=4)))/\¬(aC.rl x i).a=(aC.rl x i).b:=by
 unfold aC.tN at h;simp only at h;split at h
 ·omega
 rename_i h1;split at h
 ·omega
 rename_i d;split at h
 ·omega
 rename_i f;split at h
 ·omega
 rename_i g
 have c:0<=aC.dc x (aC.rl x i).kind:=by
  by_cases c:aC.dc x (aC.rl x i).kind<0
  ·exact absurd (.inl c) d
  ·omega
 refine⟨Wz,c,fun s j=>?_,g⟩;rcases j with rfl|rfl
 ·exact Bk c (fun e=>d (.inr (.inl e))) (fun e=>f (.inl e))
 ·exact Bk c (fun e=>d (.inr (.inr e))) (fun e=>f (.inr e))
theorem TM{k:Int}{a:Nat}(h:BX k=some a):TI k=.agg #[.func (.func a) #[] #[]]:=by unfold TI;rw[h]
theorem TN{k:Int}(h:BX k=none):TI k=.agg #[.nilFunc]:=by unfold TI;rw[h]
theorem Lw{x:aC.cE}{i j:Int}(h:aC.nR x i j=0):¬aC.bV (aC.kd x i) (aC.fd x i j).name<j/\aC.mC x i j=0:=by
 unfold aC.nR at h;split at h
 ·omega
 ·rename_i a;exact⟨a,h⟩
theorem uF{x:aC.cE}{i:Nat}(h:aC.wF x i=0):¬aC.dc x (aC.kd x i).name<i/\0<(aC.kd x i).aF.length/\(aC.fd x i 0).kind=0:=by
 unfold aC.wF at h;split at h
 ·omega
 rename_i b;split at h
 ·omega
 rename_i a;refine⟨b,?_,Classical.not_not.1 fun c=>a (.inr c)⟩;by_cases d:(aC.kd x i).aF.length=0
 ·exact absurd (.inl d) a
 ·omega
theorem xN(x:aC.cE)(O:aC.okB x=true)(v:Value)(S:Nat->Prop)(tb:Nat)(w:World)(hv:dO S w v x)(Cp:LaidW w)(P:TabC tb w):
  CB 25 #[v] w (.slice none 0 0):=by
 obtain⟨TQ,ai⟩:=bU.Ah O;obtain⟨v6,be,bc,vK⟩:=bU.uD TQ;have h6:x.ah.length<=1000:=aD
 have aj:∀k∈x.ah,k.aF.length<=1000:=fun k Q=>by have:=(bU.pE (vK k Q)).1;omega
 obtain⟨ak,ck,al,cl,ar,cr,rfl,Q,hl,hr,bf,bg,bh⟩:=hv.form;have HV:=hid (fun W (a:BL w W)=>hv.keep (aH.below a));have aQ:=hid (fun W (a:BL w W)=>P.below a P.lt (by have:=Cp.size;omega));obtain⟨w1,q⟩:=bJ (bSx w x ak al ar ck cl cr);have bL:=yL q;have HX:=IQ q;delta bSx fJ at q;have aS:=hid q;clear q;have I9:=hid (BV x TQ _ S w1 (HV.out w1 bL.out) (Cp.next bL.out));have aT:=hid Q;have an:=hid hl;have bi:=hid hr;have ao:=hid O;have aU:=hid ai;have aW:=hid vK;have bj:x.aV.length<=cl/\cl<=9223372036854775807:=by obtain⟨_,_,e, -,g1,g2⟩:=hl.form;cases e;exact⟨g1,g2⟩
 clear Q hl hr hv Cp P O ai vK;have qn:=cF func52 zK rfl;obtain⟨d,m,n,p⟩:=b4z (HX.out w1 aG);go_enter func25,ntmps25;go_upto_region 1 with fail;rw[<-aS.out];go_wp2_with fail;refine I9.out.mono ?_;rintro e w2 ⟨rfl,ap⟩;have f9:Hid (BL w1 w2):=hid ap;clear ap d m n p I9;obtain⟨w3,hw3⟩:=bJ (w2.alloc (.cells #[.slice none 0 0] 67));have gT:Hid (Below w1.heap.size w1 w3):=hid zR;have HO:Hid (∀W,BL w3 W->W.heap[w2.heap.size]?=some (.cells #[.slice none 0 0] 67 (0,0))):=hid (fun W a=>(a.block _ (by rw[hw3];simp)).trans (by rw[hw3];exact bD _ _ rfl));have G:Hid (∀W,BL w3 W->BL w W):=hid (fun W a=>bO bL.out (bO gT.out a));have R:Hid (∀W,BL w3 W->W.heap[w.heap.size]?=some (.cells (sBx x ak al ar ck cl cr) 27 (0,0))):=hid (fun W a=>HX.out W (bO gT.out a));have aY:=hid hw3;clear hw3 HX bL f9 gT;go_upto_region 5 with fail;rw[<-aY.out];obtain⟨d,m,n,p⟩:=b4z (R.out w3 aG);go_wp2;clear d m n p;go_loopw [28] (fun i wr=>∃k:Nat,k<=x.aV.length/\i=.int .i64 k/\Hid (BL w3 wr)) (fun i _=>x.aV.length-(intOf i).toNat);case atStart=>exact⟨0,zxa _,rfl,hid aG⟩
 case round=>
  obtain⟨k,Q,rfl,nJ⟩:=hrel;by_cases b:k<x.aV.length
  ·have aq:=zN k
   have au:=zL k x.aV.length
   have bk:(k:Int)<=cl:=aD
   obtain⟨bl, -,l0,u1,u2,l1,l2,av,og⟩:=o6.at (fC.keep dG an.out (aH.below (G.out wr nJ.out))) b;obtain⟨sx,cs,rfl, -, -, -⟩:=av.form;obtain⟨am,cm,rfl, -, -, -⟩:=og.form;clear av og;have HA:=hid (TK ao.out b);have Zm:=hid (fun W (a:BL w W)=>fC.take (fC.keep dG an.out (aH.below a)) (k:=k) aD);generalize x.aV[k]=lf at*;obtain⟨ln,aZ,a0⟩:=lf;simp only at l0 l1 l2 HA;generalize aZ.length=n1 at*;generalize a0.length=n2 at*;have nJ:=nJ;obtain⟨w4,hw⟩:=bJ (wr.alloc (.cells #[.string ln,.slice sx n1 cs,.slice am n2 cm] 58));have T:Hid (Below w3.heap.size w3 w4):=hid Ik;have r:Hid (∀W,BL w4 W->W.heap[wr.heap.size]?=some (.cells #[.string ln,.slice sx n1 cs,.slice am n2 cm] 58 (0,0))):=hid (fun W a=>(a.block _ Sr).trans Ka);have Fy:=hid hw;clear hw;have bm:wr.heap.size<w4.heap.size:=aI (r.out w4 aG)
   have EZ:=hid (IX dG (x.aV.take k) (fun l:aC.Iu=>decide (l.name=ln)) _ S w4 (Zm.out w4 (G.out w4 T.out)) 54 #[.pointer (some ⟨wr.heap.size,0,none⟩)] (cF func54 zK rfl) (fun X hX j hj us _ hu=>by
    obtain⟨u1,u2,rfl, -, -⟩:=hu;exact TJ _ ln u1 u2 _ X (aP (r.out X hX) 0)))
   rw[HA.out] at EZ;go_upto_region 9 with fail;rw[<-Fy.out];clear l0 l1 l2;obtain⟨d,m,n,p⟩:=b4z (R.out w4 T.out);go_wp2_with fail;refine EZ.out.mono ?_;rintro e w5 ⟨rfl,c⟩;have U:=aR T c;clear c;clear d m n p;go_wp2_with fail;refine(pI _ _ _ _ (World.alloc _ _) (by rfl) (bD _ _ rfl)).mono ?_;rintro e w6 ⟨rfl,c⟩;have BW:Hid (BL w3 w6):=hid ((U.out.alloc U.out.size _).trans (c.mono (by have:=U.out.size;simp;omega)));clear c;go_wp2_with fail;refine(yX _ _ _ _ _).mono ?_;rintro e wy ⟨rfl,rfl⟩;go_wp2;go_roundw;case rel=>exact⟨k+1,aD,zG,BW⟩
   exact zI
  ·obtain rfl:k=x.aV.length:=by omega
   have yS:=nJ;obtain⟨d,m,n,p⟩:=b4z (R.out wr nJ.out);go_wp2;clear d m n p;generalize a1:wr=W0 at*;go_loopw [50] (fun i wr=>∃k:Nat,k<=x.ah.length/\i=.int .i64 k/\Hid (BL w3 wr)) (fun i _=>x.ah.length-(intOf i).toNat);case atStart=>exact⟨0,zxa _,rfl,nJ⟩
   case round=>
    obtain⟨k,Q,rfl,nJ⟩:=hrel;by_cases b:k<x.ah.length
    ·have aq:=zN k
     have au:=zL k x.ah.length
     obtain⟨pU, -,k0,k1,k2,uf,k3,nN⟩:=iC.at (iC.keep aT.out (aH.below (G.out wr nJ.out))) b;obtain⟨af,cf,rfl,ax, -, -⟩:=nN.form;have tF:Hid (∀W,BL wr W->dx S W (.slice af x.ah[k].aF.length cf) x.ah[k].aF):=hid (fun W a=>nN.keep (aH.below a));have t:=hid (aU.out k b);have a2:=hid (fun W (a:BL w W)=>OP x k _ S W (HV.out W a) b (uF t.out.1).1 (uF t.out.1).2.1 (uF t.out.1).2.2);have sZ:Hid (aC.kd x k=x.ah[k]):=hid (dH b);have ay:Hid (∀f∈x.ah[k].aF,aC.dD f=true):=hid (bU.pE (aW.out _ (eV b))).2;have EV:Hid (∀(j:Nat) (h:j<x.ah[k].aF.length),aC.fd x k j=x.ah[k].aF[j]):=hid (fun j h=>iX b h);have az:Hid (∀j:Nat,j<x.ah[k].aF.length->aC.nR x k j=0):=hid (fun j hj=>t.out.2 j (by rw[sZ.out];exact hj));clear nN t;have tr:x.ah[k].aF.length<=1000:=aj _ (eV b);have JV:=hid (fun(j:Nat) (hj:j<(aC.kd x k).aF.length) (h0:aC.mC x k j=0) (A:Nat) (hf:BX (aC.fd x k j).kind=some A) (uw ug:Value) (W:World) (a:BL w W)=>acg x k j b hj h0 h6 aj A hf ak al ar ck cl cr uw ug S W (HV.out W a));rw[sZ.out] at JV;generalize Zp:x.ah[k]=kq at*;obtain⟨kn,Gy,Gz,H⟩:=kq;have bd:=hid Zp;clear Zp;simp only at k0 k1 k2 k3 ax tF ay az tr;obtain⟨B,V⟩:=bJ H.length;have AL:=hid V;rw[<-V] at k3 ax tF tr;clear V;obtain⟨w4,hw⟩:=bJ (wr.alloc (.cells #[.string kn,.int .i64 Gy,.int .i64 Gz,.slice af B cf] 53));have T:Hid (Below w3.heap.size w3 w4):=hid Ik;have r:Hid (∀W,BL w4 W->W.heap[wr.heap.size]?=some (.cells #[.string kn,.int .i64 Gy,.int .i64 Gz,.slice af B cf] 53 (0,0))):=hid (fun W a=>(a.block _ Sr).trans Ka);have Fy:=hid hw;clear hw;go_upto_region 15 with fail;rw[<-Fy.out];clear k0 k1 k2 k3;obtain⟨d,m,n,p⟩:=b4z (R.out w4 T.out);go_wp2_with fail;refine(a2.out w4 (G.out w4 T.out)).mono ?_;rintro e w5 ⟨rfl,c⟩;have Y:Hid (BL w4 w5):=hid c;have U:=aR T c;clear c;clear d m n p;go_wp2_with fail;refine(yX _ _ _ _ _).mono ?_;rintro e wy ⟨rfl,rfl⟩;obtain⟨c0,c1,c2,c3⟩:=b4z (r.out w5 Y.out);go_wp2;clear c0 c1 c2 c3;have a3:Hid (BL wr w5):=hid ((by rw[Fy.out];exact aG.alloc aL _:BL wr w4).trans (Y.out.mono (by rw[Fy.out];simp)));have aA:Hid (∀W,BL w5 W->dx S W (.slice af B cf) H):=hid (fun W a=>tF.out W (bO a3.out a));have E1:Hid (∀W,BL w5 W->W.heap[wr.heap.size]?=some (.cells #[.string kn,.int .i64 Gy,.int .i64 Gz,.slice af B cf] 53 (0,0))):=hid (fun W a=>r.out W (bO Y.out a));have qf:Hid (∀W,BL w5 W->BL w3 W):=hid (fun W a=>bO U.out a);generalize Lx:wr=Wb at*;go_loopw [64] (fun i wr=>∃j:Nat,j<=B/\i=.int .i64 j/\Hid (BL w5 wr)) (fun i _=>B-(intOf i).toNat);case atStart=>exact⟨0,zxa _,rfl,hid aG⟩
     case round=>
      obtain⟨j,hj,rfl,u⟩:=hrel;by_cases hjt:j<B
      ·have bn:=zN j
       have bo:=zL j B
       have Z:j<H.length:=FV
       obtain⟨Nj, -,I,f1,f2,J,K,L,uw,ug,M,N,CV,aB⟩:=dx.at (aA.out wr u.out) Z;obtain⟨aw,cw,rfl, -, -, -⟩:=CV.form;obtain⟨ag,cg,rfl, -, -, -⟩:=aB.form;clear CV aB;have nJ:Hid (BL w3 wr):=hid (qf.out wr u.out);have D:=Lw (az.out j Z);rw[show aC.kd x k=⟨kn,Gy,Gz,H⟩ from sZ.out,EV.out j Z] at D;have aE:=hid D;have HC:=hid (fun(A:Nat) (hf:BX (H[j]).kind=some A) (uw ug:Value) (W:World) (a:BL w W)=>by have:=JV.out j Z D.2 A (by rw[EV.out j Z];exact hf) uw ug W a;rw[EV.out j Z] at this;exact this);have Wg:=Lv (ay.out _ (eV Z));have aa:=hid (fun(s:ByteArray) (W:World) (a:BL w5 W)=>pH ⟨kn,Gy,Gz,H⟩ s (.slice af B cf) S W (aA.out W a));simp only[kH] at aa;clear D;generalize H[j]=g at*;obtain⟨gn,go,gu,gk,gl,gh,Fw,a4⟩:=g;simp only at I f1 f2 J K L M N aE Wg HC;generalize Fw.length=nw at*;generalize a4.length=ng at*;have a5:=hid (aa.out gn);obtain⟨a6, -⟩:=aE.out;generalize aC.bV ⟨kn,Gy,Gz,H⟩ gn=fz at*;have a7:=decide_eq_false a6;clear aa;obtain⟨w6,hw⟩:=bJ (wr.alloc (.cells #[.string gn,.string go,.string gu,.int .i64 gk,.int .i64 gl,.int .i64 gh,.slice aw nw cw,.slice ag ng cg] 85));have BW:Hid (Below w3.heap.size w3 w6):=hid Ik;have ab:Hid (∀W,BL w6 W->W.heap[wr.heap.size]?=some (.cells #[.string gn,.string go,.string gu,.int .i64 gk,.int .i64 gl,.int .i64 gh,.slice aw nw cw,.slice ag ng cg] 85 (0,0))):=hid (fun W a=>(a.block _ Sr).trans Ka);have EY:=hid hw;clear hw;have E:Hid (Below w5.heap.size w5 w6):=hid (by rw[EY.out];exact u.out.alloc u.out.size _);go_upto_region 19 with fail;rw[<-EY.out];clear I f1 f2 J K L M N;obtain⟨⟨I,f1,f2,J,K,L,M,N⟩, -⟩:=ez (ab.out w6 aG);obtain⟨c0,c1,c2,c3⟩:=b4z (E1.out w6 E.out);go_wp2_with fail;refine(a5.out w6 E.out).mono ?_;rintro e w7 ⟨rfl,c⟩;have ad:Hid (BL w6 w7):=hid c;have xO:=aR BW c;clear c;clear I f1 f2 J K L M N c0 c1 c2 c3;go_wp2_with fail;refine(pI _ _ _ _ (World.alloc _ _) (by first|rfl|exact a7) (bD _ _ rfl)).mono ?_;rintro e C ⟨rfl,c⟩;have ae:Hid (BL w3 C):=hid ((xO.out.alloc xO.out.size _).trans (c.mono (by have:=xO.out.size;simp;omega)));have y:Hid (BL w6 C):=hid ((ad.out.alloc ad.out.size _).trans (c.mono (by have:=ad.out.size;simp;omega)));clear c;obtain⟨⟨I,f1,f2,J,K,L,M,N⟩, -⟩:=ez (ab.out C y.out);have JW:=hid (aQ.out C (G.out C ae.out));have a8:=JW.out.glob;have z:=JW.out.look C rfl gk Wg.1 Wg.2;go_upto_region 20 with fail;cases hcf:BX gk with
       |none=>
        rw[TN hcf,hcf] at z
        have a9:Hid (∀o,BL w5 (C.alloc o)):=hid (fun o=>bO E.out (y.out.alloc y.out.size _))
        clear hcf HC
        simp only[Option.isSome_none] at z
        go_wp2_with fail
        refine(yX _ _ _ _ _).mono ?_
        rintro e wy ⟨rfl,rfl⟩
        go_wp2
        go_roundw
        case rel=>exact⟨j+1,aD,zG,hid (a9.out _)⟩
        exact zI
       |some A=>
        rw[TM hcf,hcf] at z
        have bp:=OT hcf
        have GJ:=hid (HC.out A hcf)
        clear hcf HC
        simp only[Option.isSome_some] at z
        obtain⟨F,hw⟩:=bJ (C.alloc (.cells #[.func (.func A) #[] #[]] 112))
        have aJ:Hid (Below w3.heap.size w3 F):=hid (by rw[hw];exact ae.out.alloc ae.out.size _)
        have ba:Hid (∀W,BL F W->W.heap[C.heap.size]?=some (.cells #[.func (.func A) #[] #[]] 112 (0,0))):=hid (fun W a=>(a.block _ Sr).trans Ka)
        have aK:=hid hw
        clear hw
        have aM:Hid (Below w6.heap.size w6 F):=hid (by rw[aK.out];exact y.out.alloc y.out.size _)
        go_upto_region 21 with fail
        rw[<-aK.out]
        clear z a8 I f1 f2 J K L M N
        obtain⟨⟨I,f1,f2,J,K,L,M,N⟩, -⟩:=ez (ab.out F aM.out)
        obtain⟨d,m,n,p⟩:=b4z (R.out F aJ.out)
        have d0:F.cell? ⟨C.heap.size,0,none⟩=some (.func (.func A) #[] #[]):=aP (ba.out F aG) 0
        have aN:=hid (GJ.out (.slice aw nw cw) (.slice ag ng cg) F (G.out F aJ.out))
        simp only[lE] at aN
        go_wp2_with fail
        refine aN.out.mono ?_
        rintro e mL ⟨rfl,c⟩
        have aO:Hid (BL w5 mL):=hid (bO E.out (bO aM.out c))
        clear c d m n p d0 I f1 f2 J K L M N
        go_wp2_with fail
        refine(yX _ _ _ _ _).mono ?_
        rintro e wy ⟨rfl,rfl⟩
        go_wp2
        go_roundw
        case rel=>exact⟨j+1,aD,zG,aO⟩
        exact zI
      ·obtain rfl:j=B:=by omega
       go_wp2;go_roundw;case rel=>exact⟨k+1,aD,zG,hid (qf.out wr u.out)⟩
       exact zI
    ·obtain rfl:k=x.ah.length:=by omega
     have yS:=nJ;obtain⟨d,m,n,p⟩:=b4z (R.out wr nJ.out);go_wp2;clear d m n p;generalize a1:wr=W0 at*;go_loopw [108] (fun i wr=>∃k:Nat,k<=x.aX.length/\i=.int .i64 k/\Hid (BL w3 wr)) (fun i _=>x.aX.length-(intOf i).toNat);case atStart=>exact⟨0,zxa _,rfl,nJ⟩
     case round=>
      obtain⟨k,Q,rfl,nJ⟩:=hrel;by_cases b:k<x.aX.length
      ·have aq:=zN k
       have au:=zL k x.aX.length
       obtain⟨p1,p2,p3,p4⟩:=OU (TL ao.out b);have bb:=hid (OQ x k _ S wr (HV.out wr (G.out wr nJ.out)) b p1 p2 p3 p4);clear p1 p2 p3 p4;obtain⟨d,m,n,p⟩:=b4z (R.out wr nJ.out);go_wp2_with fail;refine bb.out.mono ?_;rintro e w5 ⟨rfl,c⟩;have U:=aR nJ c;clear c;clear d m n p;go_wp2_with fail;refine(yX _ _ _ _ _).mono ?_;rintro e wy ⟨rfl,rfl⟩;go_wp2;go_roundw;case rel=>exact⟨k+1,aD,zG,U⟩
       exact zI
      ·obtain rfl:k=x.aX.length:=by omega
       have o0:wr.cell? ⟨w2.heap.size,0,none⟩=some (.slice none 0 0):=aP (HO.out wr nJ.out) 0;go_wp2;go_ret;exact⟨rfl,G.out wr nJ.out⟩
def OV(_:Nat->Prop)(_:World)(us:List Value)(r:bU.Ref):Prop:=us=[.int .i64 (r.kind:Int),.int .i64 (r.field:Int),.int .i64 r.up,.int .i64 r.least]
theorem dL:dM OV:=⟨fun h _=>h,fun h _=>h⟩
abbrev wS(B:Nat):=dX 4 OV (fun _=>True) B 174
abbrev GK(S:Nat->Prop):=fC 4 (OV S) S
theorem Rt{a b c d:Int}:∀u∈[Value.int .i64 a,.int .i64 b,.int .i64 c,.int .i64 d],u.oneCell'=true:=by
 intro u e;simp only[mr,Na,or_false] at e;rcases e with rfl|rfl|rfl|rfl<;>rfl
theorem Tryz.agz:kF prog 167 174 4 32:=jV (z:=.agg #[.int .i64 0,.int .i64 0,.int .i64 0,.int .i64 0]) zK zK rfl aD aD
theorem dX.base{α:Type}{n:Nat}{b:(Nat->Prop)->World->List Value->α->Prop}{S:Nat->Prop}{B c:Nat}{e:TypeId}{w:World}{v:Value}{xs:List α}(h:dX n b S B e w v xs)(hB:c<=B):dX n b S c e w v xs:=by
 obtain⟨f,d,i,j,k⟩:=h;exact⟨f,⟨d.1,d.2.imp id (fun⟨g,cap,a,l,m,r⟩=>⟨g,cap,a,l,zxb hB m,r⟩)⟩,i,j,k⟩
theorem alO(h:p:=by
  go_wp2
  go_roundw
  case rel=>exact⟨j+1,l2,a2,c2,aD,zG,rfl,aD,HL9,Ba,HL8⟩
  exact zI):p:=h
theorem al8(h:p:=by
  go_wp2
  go_roundw
  case rel=>exact⟨k+1,l,a,c,aD,zG,rfl,aD,HE,wQ,f9⟩
  exact zI):p:=h
theorem Lz(x:aC.cE)(h6:x.ah.length<=6)(T:∀k∈x.ah,k.aF.length<=10)(v:Value)(S:Nat->Prop)(w:World)(U:dO S w v x):
  CP 106 #[v] w fun e w'=>∃a c l,e=.returned (.slice a l.length c)/\l.length<=60/\l=bU.fS x/\wS w.heap.size w' (.slice a l.length c) l/\BL w w':=by
 obtain⟨y,ck,al,cl,ar,cr,rfl,V,hl,hr,aj,am,an⟩:=U.form;have HV:=hid (fun W (o:BL w W)=>U.keep (aH.below o));have q:=hid V;have zM:=hid (fun(i j:Nat) (W:World) (o:BL w W)=>uE x i j _ S W (HV.out W o));obtain⟨w1,m⟩:=bJ (bSx w x y al ar ck cl cr);have z:=yL m;have HX:=IQ m;delta bSx fJ at m;have X:=hid m;clear V hl hr U m;obtain⟨y0,y1,y2,y3⟩:=b4z (HX.out w1 aG);go_enter func106,ntmps106;go_upto_region 1 with fail;rw[<-X.out];go_wp2;clear y0 y1 y2 y3;go_loopw [3,11] (fun Y Z wr=>∃(k:Nat) (l:List bU.Ref) (a:Option Addr) (c:Nat),k<=x.ah.length/\Z=.int .i64 k/\Y=.slice a l.length c/\l.length<=10*k/\Hid (l=bU.oh x k)/\Hid (wS w1.heap.size wr (.slice a l.length c) l)/\Hid (BL w1 wr)) (fun _ Z _=>x.ah.length-(intOf Z).toNat);case atStart=>exact⟨0,[],none,0,zxa _,rfl,rfl,aL,hid rfl,hid (dX.nil _ _ _ _ _ _),hid aG⟩
 case round=>
  obtain⟨k,l,a,c,V,rfl,rfl,ao,yV,HO,HL⟩:=hrel;by_cases f:k<x.ah.length
  ·have ap:=zN k
   have aq:=zL k x.ah.length
   have G:=aR z HL.out;obtain⟨pU, -,k0,k1,k2,uf,H,nN⟩:=iC.at (iC.keep q.out (aH.below G.out)) f;obtain⟨-, -, -, -, -,aa,A,I7⟩:=iC.at q.out f;have B:bM y<w.heap.size:=by obtain⟨h, -⟩:=iC.at q.out f;exact h
   have e:aa=uf:=oO (((G.out.cell (p:=⟨bM y,bT y+k*4+3,none⟩) B).trans A).symm.trans H);subst e;obtain⟨af,cf,rfl,C, -, -⟩:=I7.form;have tF:Hid (∀W,BL w W->dx S W (.slice af x.ah[k].aF.length cf) x.ah[k].aF):=hid (fun W o=>I7.keep (aH.below o));have sZ:Hid (aC.kd x k=x.ah[k]):=hid (dH f);have EV:Hid (∀(j:Nat) (h:j<x.ah[k].aF.length),aC.fd x k j=x.ah[k].aF[j]):=hid (fun j h=>iX f h);have tr:x.ah[k].aF.length<=10:=T _ (eV f);clear nN I7 A;generalize x.ah[k]=kq at*;obtain⟨kn,Gy,Gz,fs⟩:=kq;simp only at k0 k1 k2 H C tF tr EV;obtain⟨r,s⟩:=bJ fs.length;have AL:=hid s;rw[<-s] at H C tF tr;clear s;obtain⟨w4,hw⟩:=bJ (wr.alloc (.cells #[.string kn,.int .i64 Gy,.int .i64 Gz,.slice af r cf] 53));have kJ:Hid (Below w1.heap.size w1 w4):=hid ahX;have Ru:Hid (wS w1.heap.size w4 (.slice a l.length c) l):=hid (by rw[hw];exact dX.below dL HO.out (aG.alloc aL _));have c3:w4.cell? ⟨wr.heap.size,3,none⟩=some (.slice af r cf):=Sm
   have Fy:=hid hw;clear hw;go_upto_region 5 with fail;rw[<-Fy.out];clear k0 k1 k2 H;go_wp2;clear c3;generalize Lx:wr=Wb at*;go_loopw [3,19] (fun Y jj wr=>∃(j:Nat) (l:List bU.Ref) (a:Option Addr) (c:Nat),j<=r/\jj=.int .i64 j/\Y=.slice a l.length c/\l.length<=10*k+j/\Hid (l=bU.oh x k++bU.kA x k j)/\Hid (wS w1.heap.size wr (.slice a l.length c) l)/\Hid (BL w1 wr)) (fun _ jj _=>r-(intOf jj).toNat);case atStart=>exact⟨0,l,a,c,zxa _,rfl,rfl,aD,hid (by rw[yV.out,bU.Dk,zxp]),Ru,kJ⟩
   case round=>
    obtain⟨j,l,a,c,hj,rfl,rfl,ae,yU,wQ,f9⟩:=hrel;by_cases hjt:j<r
    ·have au:=zN j
     have av:=zL j r
     have rG:j<fs.length:=FV
     have G:=aR z f9.out;obtain⟨Nj, -,I,f1,f2,J,K,L,uw,ug,M,N,CV,D⟩:=dx.at (tF.out wr G.out) rG;obtain⟨aw,cw,rfl, -, -, -⟩:=CV.form;obtain⟨ag,cg,rfl, -, -, -⟩:=D.form;clear CV D;have Cg:aC.fd x k j=fs[j]:=EV.out j rG;have O:Hid ((fs[j]).kind=1->bU.kA x k (j+1)=bU.kA x k j++[⟨k,j,aC.eD x k j,(fs[j]).lo⟩]):=hid (fun h=>by rw[bU.py,bU.Af abz,Cg]);have P:Hid (¬(fs[j]).kind=1->bU.kA x k (j+1)=bU.kA x k j):=hid (fun h=>by rw[bU.py,bU.KX abz,zxp]);have ab:=hid (zM.out k j);clear Cg;generalize fs[j]=g at*;obtain⟨gn,go,gu,gk,u,gh,Fw,ad⟩:=g;simp only at I f1 f2 J K L M N O P;generalize Fw.length=nw at*;generalize ad.length=ng at*;generalize aC.eD x k j=uz at*;obtain⟨w5,hw⟩:=bJ (wr.alloc (.cells #[.string gn,.string go,.string gu,.int .i64 gk,.int .i64 u,.int .i64 gh,.slice aw nw cw,.slice ag ng cg] 85));have t:Hid (Below w1.heap.size w1 w5):=hid (by rw[hw];exact f9.out.alloc f9.out.size _);have Zq:Hid (wS w1.heap.size w5 (.slice a l.length c) l):=hid (by rw[hw];exact dX.below dL wQ.out (aG.alloc aL _));have E1:Hid (∀W,BL w5 W->W.heap[wr.heap.size]?=some (.cells #[.string gn,.string go,.string gu,.int .i64 gk,.int .i64 u,.int .i64 gh,.slice aw nw cw,.slice ag ng cg] 85 (0,0))):=hid (fun W o=>(o.block _ Sr).trans Ka);have EU:=hid hw;clear hw;go_upto_region 8 with fail;rw[<-EU.out];clear I f1 f2 J K L M N;obtain⟨⟨I,f1,f2,J,K,L,M,N⟩, -⟩:=ez (E1.out w5 aG);by_cases Q:gk=1
     ·subst Q
      have JX:=hid (O.out rfl);clear O P;go_upto_region 9 with fail;have qo:=eC w5 ⟨w.heap.size,0,none⟩ (.int .i64 x.aQ) fun d=>(bF (HX.out d.1 (bO t.out d.2))).1.1;have qp:=eC w5 ⟨w.heap.size,1,none⟩ (.slice y x.ah.length ck) fun d=>(bF (HX.out d.1 (bO t.out d.2))).1.2.1;have qt:=eC w5 ⟨w.heap.size,2,none⟩ (.slice al x.aV.length cl) fun d=>(bF (HX.out d.1 (bO t.out d.2))).1.2.2.1;have qu:=eC w5 ⟨w.heap.size,3,none⟩ (.slice ar x.aX.length cr) fun d=>(bF (HX.out d.1 (bO t.out d.2))).1.2.2.2;have E:=eC w5 ⟨wr.heap.size,4,none⟩ (.int .i64 u) fun d=>(ez (E1.out d.1 d.2)).1.2.2.2.2.1;refine alR w5 11 (.quiet 0 (.quiet 1 (.quiet 2 (.quiet 3 (.quiet 4 (.quiet 5 (.quiet 7 (.quiet 8 (.one 6 (.quiet 9 (.one 10 .done))))))))))) nK zK fun w6 fH=>?_
      iterate 8 refine gF ?_
      refine aZ rfl ?_;go_wp2_with fail;refine(ab.out w6 (bO z.out (bO t.out fH.out))).mono ?_;rintro e w7 ⟨rfl,R⟩;have F:=aR fH R;clear R;go_wp2_with fail;refine aN (BL w5) (fun _ h=>h) F.out ?_;refine gF ?_;refine aZ rfl ?_;go_wp2_with fail;refine aN (BL w5) (fun _ h=>h) (F.out.alloc F.out.size _) ?_;refine bG ?_;try simp only[jW,jH]
      clear qo qp qt qu E I f1 f2 J K L M N;have xO:=aR t F.out;have OW:Hid (wS w1.heap.size w7 (.slice a l.length c) l):=hid (dX.below dL Zq.out F.out);go_wp2_with (at_builtin;go_must (refine d9 dL rfl _ _ rfl Tryz.agz rfl OW.out (us:=[.int .i64 (k:Int),.int .i64 (j:Int),.int .i64 uz,.int .i64 u]) rfl rfl rfl (⟨k,j,uz,u⟩:bU.Ref) rfl Rt aD xO.out.size ?_));intro v' w8 how ht hn;obtain⟨l2,n⟩:=bJ (l++[(⟨k,j,uz,u⟩:bU.Ref)]);rw[<-n] at how;have ai:l2.length=l.length+1:=by rw[n];simp
      obtain⟨a2,c2,rfl, -⟩:=how.form;have HL8:Hid (BL w1 w8):=hid (xO.out.trans (ht.below xO.out.size (fun b R=>by have:=(OW.out.lt b R.symm).1;omega)));have Ba:Hid (wS w1.heap.size w8 (.slice a2 l2.length c2) l2):=hid how;have HL9:Hid (l2=bU.oh x k++bU.kA x k (j+1)):=hid (by rw[n,JX.out,yU.out,zxm]);clear how ht hn n;exact alO
     ·have e1:(gk==1)=false:=by simpa using Q
      have JX:=hid (P.out Q);clear O P Q;go_wp2;go_roundw;case rel=>exact⟨j+1,l,a,c,aD,zG,rfl,aD,hid (by rw[JX.out];exact yU.out),Zq,t⟩
      exact zI
    ·obtain rfl:j=r:=by omega
     have HE:Hid (l=bU.oh x (k+1)):=hid (by rw[yU.out,bU.xI,sZ.out,AL.out]);exact al8
  ·obtain rfl:k=x.ah.length:=by omega
   go_wp2;go_ret;exact⟨a,c,l,rfl,aD,yV.out,dX.base HO.out z.out.size,bO z.out HL.out⟩
theorem TR(k b e h i c:Nat)(d j a:Option Addr)(f g:Nat)(w:World)(h1:w.cell? ⟨f,1,none⟩=some (.slice d b h))(h2:w.cell? ⟨g,0,none⟩=some (.int .i64 k))(o:k<b)(l:dV d b)(p:w.cell? ⟨bM d,bT d+k*4+3,none⟩=some (.slice j e i)):
  CB 151 #[.slice a e c,.pointer (some ⟨f,0,none⟩),.pointer (some ⟨g,0,none⟩)] w (.bool false):=by
 have m:(0:Int)<=k:=aD
 have n:(k:Int)<b:=aD
 go_enter func151,ntmps151;go_wp2;go_ret;exact⟨bH,aG⟩
theorem TS(f u n d b c i j:Nat)(kd v k:Int)(a e l:Option Addr)(g h:Nat)(w:World)(m:w.heap[g]?=some (.cells #[.int .i64 kd,.int .i64 f,.int .i64 u,.int .i64 k] 174 (0,0)))(z:w.cell? ⟨h,0,none⟩=some (.slice e d i))
  (A:f<n)(B:dV a n)(C:w.cell? ⟨bM a,bT a+f,none⟩=some (.int .i64 v))(D:u<d)(o:dV e d)(E:w.cell? ⟨bM e,bT e+u,none⟩=some (.slice l b j)):
  CB 152 #[.slice a n c,.pointer (some ⟨g,0,none⟩),.pointer (some ⟨h,0,none⟩)] w (.bool (!(decide (0<=v)&&decide (v<b)))):=by
 obtain⟨F,G,H,I⟩:=b4z m;have q:(0:Int)<=f:=aD
 have r:(f:Int)<n:=aD
 have s:(0:Int)<=u:=aD
 have t:(u:Int)<d:=aD
 by_cases x:v<0
 ·go_enter func152,ntmps152
  go_wp2;go_quiet (fail);go_wp2;go_ret;exact⟨by rw[decide_eq_false (p:=0<=v) aD];rfl,aJ aG _⟩
 ·by_cases y:(b:Int)<=v
  all_goals
   go_enter func152,ntmps152
   go_wp2
   go_quiet (fail)
   go_wp2
   go_ret
   exact⟨by rw[decide_eq_true (p:=0<=v) aD];first|(rw[decide_eq_true (p:=v<(b:Int)) aD];first|rfl|(simp;omega))|(rw[decide_eq_false (p:=v<(b:Int)) aD];first|rfl|(simp;omega)),aJ aG _⟩
theorem GL(x:aC.cE)(W:aC.dw)(i:bU.kV x W)(v u:Value)(S:Nat->Prop)(w:World)(hv:dO S w v x)(hW:bK S w u W):
  CB 104 #[v,u] w (.bool (bU.kB x W)):=by
 obtain⟨I,ck,al,cl,ar,cr,rfl,hk,hl,hr,ad,aS,aT⟩:=hv.form;obtain⟨J,cw,rfl,ae, -, -⟩:=hW.form;have HV:=hid (fun X (d:BL w X)=>hv.keep (aH.below d));have A:=hid (fun X (d:BL w X)=>hW.keep (aH.below d));have ag:=hid hk
 have DE:=hid (fun X (d:BL w X)=>Lz x i.ah (fun k hk=>by
  obtain⟨j,hj,rfl⟩:=zxf hk;rw[<-dH hj];exact i.aF j) _ S X (HV.out X d))
 have h6:=i.ah;have F:=i.len;obtain⟨n,B⟩:=bJ x.ah.length;have K:W.length=n:=by rw[B];exact F
 rw[<-B] at ad h6 DE ag HV ⊢;rw[K] at ae A ⊢;have L:=hid B;have GN:=hid K;clear hk hl hr hv hW F B K;obtain⟨w1,hw1⟩:=bJ ((fJ w x.aQ (.slice I n ck) (.slice al x.aV.length cl) (.slice ar x.aX.length cr)).alloc (.cells #[.slice J n cw] 33));have M:Hid (Below w.heap.size w w1):=hid J8;have HX:Hid (∀X,BL w1 X->X.heap[w.heap.size]?=some (.cells #[.int .i64 x.aQ,.slice I n ck,.slice al x.aV.length cl,.slice ar x.aX.length cr] 27 (0,0))):=hid (fun X d=>(d.block _ (by rw[hw1];simp[fJ];omega)).trans BK);have E2:Hid (∀X,BL w1 X->X.cell? ⟨w.heap.size+1,0,none⟩=some (.slice J n cw)):=hid (fun X d=>aP ((d.block (w.heap.size+1) (by rw[hw1];simp[fJ])).trans (by rw[hw1];exact bD _ _ (by simp[fJ]))) 0);unfold fJ at hw1;have az:=hid hw1;clear hw1;obtain⟨N,O,P,Q⟩:=b4z (HX.out w1 aG);have z0:=E2.out w1 aG;have aU:=i.tot;go_enter func104,ntmps104;go_upto_region 1 with fail;rw[<-az.out];go_wp2;clear N O P Q z0;go_loopw [5,18] (fun s R wr=>∃(k sz:Nat),k<=n/\R=.int .i64 k/\s=.int .i64 sz/\sz<=512/\Hid (sz=aC.total (W.take k))/\Hid (BL w1 wr)) (fun _ R _=>n-(intOf R).toNat);case atStart=>exact⟨0,0,zxa _,rfl,rfl,aD,hid rfl,hid aG⟩
 case round=>
  obtain⟨k,sz,hk,rfl,rfl,hsz,U,HL⟩:=hrel;by_cases q:k<n
  ·have aW:=zN k
   have aY:=zL k n
   have V:k<W.length:=by rw[GN.out];exact q
   have ai:k<x.ah.length:=by rw[<-L.out];exact q
   have kM:=aR M HL.out;obtain⟨u,z,aj,f⟩:=eA.at (A.out wr kM.out) V;obtain⟨ao,co,rfl, -, -, -⟩:=f.form;obtain⟨pU, -, -, -, -,uf,k3,nN⟩:=iC.at ag.out ai;obtain⟨af,cf,rfl, -, -, -⟩:=nN.form;have rV:Hid (∀X,BL w X->X.cell? ⟨bM I,bT I+k*4+3,none⟩=some (.slice af x.ah[k].aF.length cf)):=hid (fun X d=>(d.cell (p:=⟨bM I,bT I+k*4+3,none⟩) pU).trans k3);have Y:Hid (∀r∈W[k],r.length=x.ah[k].aF.length):=hid (fun r hr=>by rw[i.lX k V r hr,dH ai])
   have Z:Hid (aC.total (W.take (k+1))=aC.total (W.take k)+W[k].length):=hid (by
    rw[yh V]
    simp only[aC.total,zxj,List.sum_append,zxt,List.map_nil,List.sum_cons,List.sum_nil]
    omega)
   have am:=si W (k+1);have wK:=i.tot;rw[Z.out] at am;have aZ:Hid (W[k].length+aC.total (W.take k)<=512):=hid aD;have an:W[k].length+aC.total (W.take k)<=512:=aD
   clear k3 nN am wK;obtain⟨w4,hw⟩:=bJ (wr.alloc (.cells #[.int .i64 (k:Int)] 3));have kJ:Hid (Below w1.heap.size w1 w4):=hid ahX
   have C:Hid (∀X,BL w4 X->X.cell? ⟨wr.heap.size,0,none⟩=some (.int .i64 (k:Int))):=hid (fun X d=>by
    have:=d.block wr.heap.size Sr;exact aP (this.trans ahT) 0)
   have o:BL wr w4:=R7
   have Fy:=hid hw;clear hw;have gX:=aR M kJ.out
   have EZ:=hid (Rk dP W[k] (fun _=>false) _ S w4 (f.keep (aH.below o)) (fun X u y h=>by obtain⟨a,c,e, -⟩:=h.form;exact⟨_,_,_,e⟩) 151 #[.pointer (some ⟨w.heap.size,0,none⟩),.pointer (some ⟨wr.heap.size,0,none⟩)] (cF func151 zK rfl) (fun X d j hj u z=>by
    obtain⟨a1,c1,rfl, -, -, -⟩:=z.form;rw[Y.out _ (eV hj)];exact TR k n _ ck cf c1 I af a1 w.heap.size wr.heap.size X (bF (HX.out X (bO kJ.out d))).1.2.1 (C.out X d) q ad (rV.out X (bO gX.out d))))
   rw[show W[k].any (fun _=>false)=false from by simp] at EZ;clear f o;obtain⟨nr,qg⟩:=bJ (W[k].length);rw[<-qg] at z EZ Z an;clear qg;have vU:Hid (((sz:Nat):Int)+nr=(aC.total (W.take (k+1)):Nat)):=hid (by rw[Z.out,U.out];omega);rw[<-U.out] at an;go_upto_region 7 with fail;rw[<-Fy.out];clear z;go_wp2_with fail;refine EZ.out.mono ?_;rintro e w5 ⟨rfl,D⟩;have kY:=aR kJ D;clear D;go_wp2;go_roundw;case rel=>exact⟨k+1,sz+nr,aD,zG,zG,aD,hid (by have:=vU.out;omega),kY⟩
   exact zI
  ·obtain rfl:n=k:=by omega
   clear U;obtain⟨N,O,P,Q⟩:=b4z (HX.out wr HL.out);have Fz:=hid (DE.out wr (bO M.out HL.out));go_wp2_with fail;refine Fz.out.mono ?_;rintro e w6 ⟨E,cx,l,rfl,Zr,ap,hrf,D⟩;have HLx:=hid ap;have aq:=hrf.sl dL (T:=fun _=>True) (fun b _ h=>trivial) (fun b D=>trivial);have au:=hid (fun X (d:BL w6 X)=>fC.keep dL aq (aH.below d));have BW:=aR HL D;have aA:dV E l.length:=afk
   clear ap hrf D aq N O P Q;obtain⟨nl,aa⟩:=bJ l.length;have JY:=hid aa;rw[<-aa] at au aA Zr ⊢;clear aa;go_wp2;generalize a0:wr=W0 at*;go_loopw [34] (fun R wr=>∃(r:Nat),r<=nl/\R=.int .i64 r/\Hid (BL w6 wr)/\Hid (bU.kB x W=(l.drop r).all fun y=>(W.getD y.kind []).all (bU.mD W y.field y.up))) (fun R _=>nl-(intOf R).toNat);case atStart=>exact⟨0,zxa _,rfl,hid aG,hid (by rw[jH,HLx.out];rfl)⟩
   case round=>
    obtain⟨r,a3,rfl,f9,K9⟩:=hrel;have HL:=aR BW f9.out;by_cases q:r<nl
    ·have hr0:=zN r
     have a4:=zL r nl
     have hrl:r<l.length:=by rw[<-JY.out];exact q
     have kM:=aR M HL.out;obtain⟨-,us,FA,t,TU⟩:=fC.at (au.out wr f9.out) hrl;obtain rfl:us=_:=TU;have N:wr.cell? ⟨bM E,bT E+r*4,none⟩=some (.int .i64 (l[r].kind:Int)):=t 0 _ rfl;have O:wr.cell? ⟨bM E,bT E+r*4+1,none⟩=some (.int .i64 (l[r].field:Int)):=t 1 _ rfl;have P:wr.cell? ⟨bM E,bT E+r*4+2,none⟩=some (.int .i64 l[r].up):=t 2 _ rfl;have Q:wr.cell? ⟨bM E,bT E+r*4+3,none⟩=some (.int .i64 l[r].least):=t 3 _ rfl;have G:l[r]∈bU.fS x:=ah0
     obtain⟨q1,q2,q3,q4,q5,q6,q7,q8⟩:=i.refs _ G;have xL:Hid (bU.kB x W=((W.getD l[r].kind []).all (bU.mD W l[r].field l[r].up)&&(l.drop (r+1)).all fun y=>(W.getD y.kind []).all (bU.mD W y.field y.up))):=hid (by rw[K9.out,zxe hrl,List.all_cons]);clear t FA G;generalize l[r]=rf at*;obtain⟨rk,H,ru,rl⟩:=rf;simp only at N O P Q q1 q2 q3 q4 q5 q6 q7 q8 xL;clear q7 q8;obtain⟨m,rfl⟩:∃m:Nat,ru=(m:Int):=⟨ru.toNat,aD⟩;have V:rk<W.length:=by rw[GN.out,L.out];exact q1
     have VP:m<W.length:=aD
     have TV:rk<n:=by rw[L.out];exact q1
     have aM:(0:Int)<=rk:=aD
     have aN:(rk:Int)<n:=aD
     have aB:m<n:=aD
     obtain⟨u,z,aj,f⟩:=eA.at (A.out wr kM.out) V;obtain⟨ao,co,rfl, -, -, -⟩:=f.form;have Y:Hid (∀y∈W[rk],H<y.length):=hid (fun y hy=>by rw[i.lX rk V y hy];exact q2);obtain⟨w4,hw⟩:=bJ (wr.alloc (.cells #[.int .i64 (rk:Int),.int .i64 (H:Int),.int .i64 (m:Int),.int .i64 rl] 174));have kJ:Hid (Below w1.heap.size w1 w4):=hid ahX;have aE:Hid (Below w6.heap.size w6 w4):=hid (by rw[hw];exact f9.out.alloc f9.out.size _);have C:Hid (∀X,BL w4 X->X.heap[wr.heap.size]?=some (.cells #[.int .i64 (rk:Int),.int .i64 (H:Int),.int .i64 (m:Int),.int .i64 rl] 174 (0,0))):=hid (fun X d=>(d.block wr.heap.size Sr).trans ahT);have o:BL wr w4:=R7
     have Fy:=hid hw;clear hw;have gX:=aR M kJ.out
     have EZ:=hid (Rk dP W[rk] (fun y=> !bU.mD W H m y) _ S w4 (f.keep (aH.below o)) (fun X u y h=>by obtain⟨a,c,e, -⟩:=h.form;exact⟨_,_,_,e⟩) 152 #[.pointer (some ⟨wr.heap.size,0,none⟩),.pointer (some ⟨w.heap.size+1,0,none⟩)] (cF func152 zK rfl) (fun X d j hj u z=>by
      obtain⟨a1,c1,rfl,aI, -, -⟩:=z.form;have ab:=Y.out _ (eV hj);obtain⟨uv,hc, -,rfl⟩:=eA.at z ab;obtain⟨ur,aJ, -,aK⟩:=eA.at (A.out X (bO gX.out d)) VP;obtain⟨a2,c2,rfl, -, -, -⟩:=aK.form;have ea:(W[rk][j]).getD H 0=W[rk][j][H]:=by simp[iY,ab]
      have eb:aC.gK W (m:Int)=W[m].length:=by unfold aC.gK;simp[iY,VP]
      have:=TS H m _ n W[m].length c1 cw c2 rk _ rl a1 J a2 wr.heap.size (w.heap.size+1) X (C.out X d) (E2.out X (bO kJ.out d)) ab aI hc aB ae aJ;unfold bU.mD;rw[ea,eb];exact this))
     rw[show W.getD rk []=W[rk] from by simp[iY,V]] at xL;rw[<-List.not_all_eq_any_not] at EZ;obtain⟨bb,av⟩:=bJ (W[rk].all (bU.mD W H m));rw[<-av] at EZ xL;have a5:w4.cell? ⟨bM J,bT J+rk,none⟩=some (.slice ao W[rk].length co):=(o.cell (p:=⟨bM J,bT J+rk,none⟩) aj).trans z;clear f o VP av;generalize W[rk].length=nr at*;go_upto_region 14 with fail;rw[<-Fy.out];clear N O P Q z;obtain⟨N,O,P,Q⟩:=b4z (C.out w4 aG);have z0:=E2.out w4 kJ.out;go_wp2_with fail;refine EZ.out.mono ?_;rintro e w5 ⟨rfl,D⟩;have ay:=aR aE D;clear D;cases bb with
     |false=>
      go_wp2
      go_ret
      exact⟨by rw[xL.out];rfl,bO M.out (bO BW.out ay.out)⟩
     |true=>
      rw[Bool.true_and] at xL
      go_wp2
      go_roundw
      case rel=>exact⟨r+1,aD,zG,ay,xL⟩
      exact zI
    ·obtain rfl:r=nl:=by omega
     have aO:(sz:Int)<=512:=aD
     have HE:Hid (bU.kB x W=true):=hid (by rw[K9.out,JY.out,List.drop_length];rfl);go_wp2;go_ret;exact⟨by rw[HE.out];first|rfl|(simp;done)|(simp;omega),bO M.out HL.out⟩
theorem LA(n c d:Nat)(a b:Option Addr)(w:World):CP 154 #[.slice a n c,.slice b n d] w fun e f=>e=.returned (.bool true)/\w=f:=by
 go_enter func154,ntmps154;go_wp2;go_ret;exact⟨bH,rfl⟩
theorem Zt(W:aC.dw)(s:Sub.S)(h:W.map List.length=s.map List.length)(D:W.length<=1000000)(v u:Value)(S T:Nat->Prop)(w:World)(r:bK S w v W)(t:nU T w u s):
  CP 153 #[v,u,.func (.func 154) #[] #[]] w fun e E=>e=.returned (.bool true)/\w=E:=by
 obtain⟨F,G,rfl,z, -, -⟩:=r.form;obtain⟨H,cs,rfl,A, -, -⟩:=t.form;have I:=hid r;have J:=hid t;have f:W.length=s.length:=by simpa using congrArg List.length h
 have K:Hid (∀k (i:k<W.length) (j:k<s.length),W[k].length=s[k].length):=hid (fun k i j=>by
  have:=congrArg (fun l=>l[k]?) h;simpa [i,j] using this)
 obtain⟨n,q⟩:=bJ s.length;have g:W.length=n:=by rw[q];exact f
 rw[g] at z D ⊢;rw[<-q] at A ⊢;have HN:=hid q;have C:=hid g;clear r t h f q g;go_enter func153,ntmps153;go_wp2;go_loopw [17] (fun B wr=>∃k:Nat,k<=n/\B=.int .i64 k/\w=wr) (fun B _=>n-(intOf B).toNat);case atStart=>exact⟨0,zxa _,rfl,rfl⟩
 case round=>
  obtain⟨k,N,rfl,rfl⟩:=hrel;by_cases hlt:k<n
  ·have L:(0:Int)<=k:=by omega
   have M:(k:Int)<n:=aD
   have i:k<W.length:=by rw[C.out];exact hlt
   have j:k<s.length:=Nv
   obtain⟨x,hx, -,o⟩:=eA.at (by rw[<-C.out];exact I.out:bK S w (.slice F n G) W) i;obtain⟨y,O, -,p⟩:=eA.at (by rw[HN.out];exact J.out:nU T w (.slice H n cs) s) j;obtain⟨a,c,rfl, -, -, -⟩:=o.form;obtain⟨b,d,rfl, -, -, -⟩:=p.form;rw[K.out k i j] at hx;clear o p;generalize s[k].length=m at*;have P:=cF func154 zK rfl;go_wp2_with fail;refine(LA m c d a b w).mono ?_;rintro e w2 ⟨rfl,rfl⟩;go_wp2;go_roundw;case rel=>exact⟨k+1,aD,zG,afr⟩
   exact zI
  ·obtain rfl:n=k:=by omega
   exact Ez
theorem LB(W:aC.dw)(s:Sub.S)(h:W.map List.length=s.map List.length)(c:W.length<=1000000)(v u:Value)(S T:Nat->Prop)(w:World)(a:bK S w v W)(b:nU T w u s):
  CP 105 #[v,u] w fun e d=>e=.returned (.bool true)/\w=d:=by
 have f:=hid (Zt W s h c v u S T w a b);obtain⟨g,i,rfl, -, -, -⟩:=a.form;obtain⟨j,cs,rfl, -, -, -⟩:=b.form;go_enter func105,ntmps105;go_wp2_with fail;refine f.out.mono ?_;rintro e w2 ⟨rfl,rfl⟩;exact Ez
theorem aeD(h:p:=by
  unfold bU.Ag at hc
  by_cases h1:aC.okB x=true
  ·rw[if_pos h1] at hc
   by_cases h2:bU.sV x W=true
   ·rw[if_pos h2] at hc
    by_cases h3:bU.sj W s=true
    ·exact⟨h1,h2,h3⟩
    ·rw[if_neg h3] at hc;omega
   ·rw[if_neg h2] at hc;omega
  ·rw[if_neg h1] at hc;omega):p:=h
theorem Ja(x:aC.cE)(W:aC.dw)(s:Sub.S)(hc:bU.Ag x W s=0)(v u t:Value)(S T U:Nat->Prop)(tb:Nat)(w:World)(l:dO S w v x)(m:bK T w u W)(o:nU U w t s)(p:LaidW w)(d:TabC tb w):
  CB 59 #[v,u,t] w (.int .i64 0):=by
 have D:aC.okB x=true/\bU.sV x W=true/\bU.sj W s=true:=by
  exact aeD
 obtain⟨g,E,q⟩:=D;have c:=bU.YL g E;have i:W.length<=1000000:=by have:=c.len;have:=c.ah;omega
 obtain⟨F,G,H,I,J,K,rfl, -⟩:=l.form;obtain⟨w1,a⟩:=bJ (bSx w x F H J G I K);have n:=yL a;have HX:=IQ a;delta bSx fJ at a;have r:=hid a;clear a;have L:=hid (xN x g _ S tb w1 (l.keep (aH.below n.out)) (p.next n.out) (d.below n.out d.lt (by have:=p.size;omega)));have j:=hid (fun X (k:BL w X)=>GL x W c.shape _ u (fun b=>S b\/T b) X ((l.keep (aH.below k)).mono (fun b _ h=>.inl h)) ((m.keep (aH.below k)).mono (fun b _ h=>.inr h)));rw[(bU.qV.1 c).2] at j;have M:=hid (fun X (k:BL w X)=>LB W s (of_decide_eq_true q) i u t T U X (m.keep (aH.below k)) (o.keep (aH.below k)));obtain⟨O,P,rfl, -, -, -⟩:=m.form;obtain⟨Q,cs,rfl, -, -, -⟩:=o.form;clear l m o p d;obtain⟨y,z,A,B⟩:=b4z (HX.out w1 aG);go_enter func59,ntmps59;go_upto_region 1 with fail;rw[<-r.out];go_wp2_with fail;refine L.out.mono ?_;rintro e w2 ⟨rfl,f⟩;have N:Hid (BL w1 w2):=hid f;have C:=aR n f;clear f y z A B;obtain⟨y,z,A,B⟩:=b4z (HX.out w2 N.out);go_wp2_with fail;refine(j.out w2 C.out).mono ?_;rintro e w3 ⟨rfl,f⟩;have cN:=aR C f;clear f y z A B;go_wp2_with fail;refine(M.out w3 cN.out).mono ?_;rintro e w4 ⟨rfl,rfl⟩;exact adz
theorem Jb(x:aC.cE)(W:aC.dw)(g:aC.okB x=true)(v u t:Value)(s:Sub.S)(S T U:Nat->Prop)(tb:Nat)(w:World)(h:dO S w v x)(p:bK T w u W)(q:nU U w t s)(i:LaidW w)(b:TabC tb w)
  (d:∀X,BL w X->CB 104 #[v,u] X (.bool false)):
  CB 59 #[v,u,t] w (.int .i64 2):=by
 obtain⟨y,z,A,B,C,D,rfl, -⟩:=h.form;obtain⟨w1,a⟩:=bJ (bSx w x y A C z B D);have f:=yL a;have HX:=IQ a;delta bSx fJ at a;have j:=hid a;clear a;have E:=hid (xN x g _ S tb w1 (h.keep (aH.below f.out)) (i.next f.out) (b.below f.out b.lt (by have:=i.size;omega)));have k:=hid d;obtain⟨G,H,rfl, -, -, -⟩:=p.form;obtain⟨I,cs,rfl, -, -, -⟩:=q.form;clear h p q i b d;obtain⟨l,m,n,o⟩:=b4z (HX.out w1 aG);go_enter func59,ntmps59;go_upto_region 1 with fail;rw[<-j.out];go_wp2_with fail;refine E.out.mono ?_;rintro e w2 ⟨rfl,c⟩;have F:Hid (BL w1 w2):=hid c;have r:=aR f c;clear c l m n o;obtain⟨l,m,n,o⟩:=b4z (HX.out w2 F.out);go_wp2_with fail;refine(k.out w2 r.out).mono ?_;rintro e w3 ⟨rfl,c⟩;have cN:=aR r c;clear c l m n o;exact adz
end Go.Proofs.YtohddpbgflgiaaaGreatDoor
