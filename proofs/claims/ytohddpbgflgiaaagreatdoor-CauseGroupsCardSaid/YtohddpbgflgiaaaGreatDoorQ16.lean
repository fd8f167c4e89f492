/- Part 16 of the walks and plain laws that the proof needs (packed). -/
import Derived.Test.YtohddpbgflgiaaaGreatDoorQ1
import Derived.Test.YtohddpbgflgiaaaGreatDoorQ6
import Derived.Test.YtohddpbgflgiaaaGreatDoorQ7
import Derived.Test.YtohddpbgflgiaaaGreatDoorQ8
import Derived.Test.YtohddpbgflgiaaaGreatDoorQ9
import Derived.Test.YtohddpbgflgiaaaGreatDoorQ13
import Derived.Test.YtohddpbgflgiaaaGreatDoorQ15
set_option linter.all false
set_option maxRecDepth 100000
set_option maxHeartbeats 8000000
open Go.Proofs.Tryz
namespace Go.Proofs.YtohddpbgflgiaaaGreatDoor
open Go.RowKit
theorem JJ(s:ByteArray)(n:Int)(a:s.size<=100000)(h: -9000000000000000000<=n)(h2:n<=9000000000000000000)(w:World):CP 169 #[.string s,.int .i64 n] w fun e b=>∃r:ByteArray,e=.returned (.string r)/\r.size<=s.size+(1+aC.dN n)/\BL w b:=
 (pO s n a h h2 w).mono fun _ _ ⟨c,d⟩=>⟨_,c,Nat.le_of_eq (kr s n),d⟩
theorem Vb(s:ByteArray)(w:World):CP 171 #[.string s] w fun e a=>∃r:ByteArray,e=.returned (.string r)/\r.size<=aC.eF s/\w=a:=
 (xZ s w).mono fun _ _ ⟨b,c⟩=>⟨_,b,Nat.le_of_eq (Ay s),c⟩
def JK:Array Value:=#[.string ⟨#[107,101,121]⟩,.string ⟨#[114,101,102]⟩,.string ⟨#[110,117,109]⟩,.string ⟨#[112,105,99,107]⟩,.string ⟨#[100,97,121]⟩,.string ⟨#[115,116,101,112]⟩,.string ⟨#[115,117,109]⟩,.string ⟨#[115,104,97,114,101]⟩,.string ⟨#[99,111,112,121]⟩]
theorem P8(w:World):CP 216 #[] w fun e a=>e=.returned (.slice (some ⟨w.heap.size,0,none⟩) 9 9)/\a=w.alloc (.cells JK 9):=by
 go_enter func216,ntmps216;exact Ez
theorem aaL(k:Int)(h0:0<=k)(a:k<9):∃s:ByteArray,JK[k.toNat]?=some (.string s)/\s.size=aC.mU k:=by
 rcases nine h0 a with rfl|rfl|rfl|rfl|rfl|rfl|rfl|rfl|rfl<;>exact⟨_,rfl,rfl⟩
theorem Sq(c:UInt8):(⟨#[c]⟩:ByteArray).size=1:=rfl
theorem eB(n:Int):aC.dN n<=42:=by rw[<-aC.Aw];exact R3 n
theorem FQ{f:aC.dA}(a:aC.dD f=true):f.of.size<=12/\f.up.size<=12/\ -1048576<=f.lo/\f.lo<=1048576/\ -1048576<=f.hi/\f.hi<=1048576/\f.cV.length<=12/\f.bY.length=f.cV.length/\(∀s∈f.cV,s.size<=12)/\∀g∈f.bY,0<=g/\g<=1048576:=by
 obtain⟨b,c⟩:=aC.mQ a;obtain⟨e,o,up,k,i,j,l,m⟩:=f;simp only at b c ⊢;rcases nine b aD with rfl|rfl|rfl|rfl|rfl|rfl|rfl|rfl|rfl<;>by_cases d:o=aC.nil
 all_goals
  try subst d
  try (simp[aC.dD,aC.lT,aC.kZ,and_assoc,uN, *] at a;done)
 all_goals
  simp[aC.dD,aC.lT,aC.kZ,aC.tE,aC.ig,and_assoc,uN, *] at a
  repeat (obtain⟨h,a⟩:=a;try subst h)
  refine⟨?_,?_,?_,?_,?_,?_,?_,?_,?_,?_⟩<;>first|omega|exact dK (by assumption)|exact zxa _|rfl|(intro _ h;cases h;done)|skip
 all_goals
  obtain⟨p1,p2,p3,p4,p5⟩:=lZ a
  first|(have:=(eM p2).2;omega)|exact p3.symm|exact fun s h=>dK (alU.1 p5 s h)|exact fun g h=>eM (p1 g h)
theorem aaM{f:aC.dA}(b:aC.dD f=true)(a:6<=f.kind):aC.eF f.of=f.of.size:=by
 obtain⟨c,d⟩:=aC.mQ b;obtain⟨g,o,up,k,h,i,j,l⟩:=f;simp only at c d a ⊢;have a:k=6\/k=7\/k=8:=aD
 refine if_neg fun e=>?_;rcases a with rfl|rfl|rfl<;>(subst e;simp[aC.dD,aC.lT,aC.kZ,uN] at b)
theorem P9(a:List ByteArray)(b:List Int){k:Nat}(h:k<a.length)(h2:k<b.length):aC.je (a.drop k) (b.drop k)=1+a[k].size+(1+aC.dN b[k])+aC.je (a.drop (k+1)) (b.drop (k+1)):=by
 rw[zxe h,zxe h2];rfl
theorem Vc(f:aC.dA)(F:aC.dD f=true)(hN:aC.cL f<=8192)(uw ug:Value)(S T:Nat->Prop)(w:World)(h1:gE S w uw f.cV)(h2:bB T w ug f.bY):
 CP 170 #[.agg (dh f uw ug).toArray] w fun e w'=>∃r:ByteArray,e=.returned (.string r)/\r.size<=aC.cL f/\BL w w':=by
 obtain⟨K3,YZ⟩:=aC.mQ F;obtain⟨G, -⟩:=qa F;have hz:=dK G;obtain⟨H,I,J,K,L,M,N,b,t,u⟩:=FQ F;obtain⟨aw,cw,rfl,ab,ad,ae⟩:=h1.form;obtain⟨ag,cg,rfl,O,P,af⟩:=h2.form;obtain⟨w1,l,bL,v,aI⟩:=boxed w (dh f (.slice aw f.cV.length cw) (.slice ag f.bY.length cg)).toArray 85;have Q:=hid (fun W (D:BL w W)=>h1.keep (aH.below D));have y:=hid (fun W (D:BL w W)=>bB.keep h2 (aH.below D));have HU:=hid (Ie f.kind K3 aD w1);have HF:=hid F;clear h1 h2 F G;obtain⟨q,o,up,k,lo,hi,a,d⟩:=f;simp only[dh] at l v HU HF Q y K3 YZ H I J K L M N b t u hz ab ad ae O P af ⊢;have ah:=hid hN;obtain⟨z,R,c⟩:=aaL k K3 aD;have U:=hid R;have HW:=hid l;rw[b] at l v y O P HW;rw[b];have ai:=hid b;have aj:=hid t;have ak:=hid u;clear l R hN b t u;obtain⟨⟨Y,y1,y2,y3,y4,y5,y6,y7⟩, -⟩:=ez (v.out w1 aG);have al:aC.mU k<=5:=by unfold aC.mU;split<;>(try split)<;>omega
 have am:(⟨#[10]⟩++z:ByteArray).size<=20:=by rw[zxc,Sq,c];omega
 have an:(⟨#[10]⟩++z++⟨#[32]⟩:ByteArray).size<=20:=by rw[zxc,zxc,Sq,Sq,c];omega
 have Z:z.size<=5:=aD
 have A:Hid ((⟨#[10]⟩++z++⟨#[32]⟩++q:ByteArray).size=2+aC.mU k+q.size):=hid (by rw[zxc,zxc,zxc,Sq,Sq,c];omega);clear c;go_enter func170,ntmps170;go_upto_region 1 with fail;rw[HW.out];clear HW;go_wp2_with fail;refine HU.out.mono ?_;rintro e w' ⟨rfl,rfl⟩;clear Y y1 y2 y3 y4 y5 y6 y7;unfold aaJ;go_upto_region 2 with fail;have ao:=eC w1 ⟨w.heap.size,3,none⟩ (.int .i64 k) fun m=>aP (v.out m.1 m.2) 3;have ap:=eC w1 ⟨w.heap.size,0,none⟩ (.string q) fun m=>aP (v.out m.1 m.2) 0;refine alR w1 9 (iq.lV [1,2,7,8] (.one 0 (iq.lV [3,4,5,6] .done))) nK zK fun V HC=>?_
 iterate 4 refine gF ?_
 clear ao ap;refine aZ rfl ?_;go_wp2_with fail;refine(P8 V).mono ?_;rintro e w2 ⟨rfl,rfl⟩;have GJ:Hid (BL w1 (V.alloc (.cells JK 9))/\(V.alloc (.cells JK 9)).heap[V.heap.size]?=some (.cells JK 9 (0,0))):=hid ⟨HC.out.alloc HC.out.size _,bD V _ rfl⟩;generalize V.alloc (.cells JK 9)=V2 at*;generalize V.heap.size=g at*;go_wp2_with fail;refine aN (fun X=>BL w1 X/\X.heap[g]?=some (.cells JK 9 (0,0))) (fun _ h=>h.1) GJ.out ?_;have aq:dV (some ⟨g,0,none⟩) 9:=fun _=>⟨_,_,rfl⟩;have ar:∀m:Held (fun X=>BL w1 X/\X.heap[g]?=some (.cells JK 9 (0,0))),m.1.cell? ⟨g,k.toNat,none⟩=some (.string z):=fun m=>(aP m.2.2 _).trans U.out
 iterate 4 refine gF ?_
 refine bG ?_;try simp only[jW,jH]
 have E:=hid GJ.out.1;clear ar GJ HC aq;generalize V2=V at*;have n:(⟨#[10]⟩++z++⟨#[32]⟩++q:ByteArray).size<=40:=by rw[A.out];omega
 go_upto_region 3 with fail;generalize (⟨#[10]⟩++z++⟨#[32]⟩++q:ByteArray)=s0 at*;have aJ:=eB lo;have aK:=eB hi;have aL:=eB a.length;have aM:=aC.lC H;clear al am an Z n U;have n:=A.out;clear A;rcases nine K3 aD with rfl|rfl|rfl|rfl|rfl|rfl|rfl|rfl|rfl
 all_goals
  simp[aC.mU] at n
  iterate 4
   try
    obtain⟨⟨Y,y1,y2,y3,y4,y5,y6,y7⟩, -⟩:=ez (v.out _ E.out)
    go_wp2_with fail
    first
     |(with_reducible refine(Vb _ _).mono ?_
       rintro e w' ⟨r,rfl,hr,rfl⟩)
     |(with_reducible refine(JJ _ _ ?_ ?_ ?_ _).mono ?_
       ·first|omega|(simp only[zxc,Sq];omega)
       ·omega
       ·omega
       rintro e w2 ⟨r,rfl,hr,D⟩
       try simp only[zxc,Sq] at hr
       replace E:=hid (bO E.out D)
       clear D)
    clear Y y1 y2 y3 y4 y5 y6 y7
 all_goals try (go_wp2;go_ret;exact⟨_,rfl,by simp[aC.cL,aC.mU,zxc,Sq];omega,bO bL.out E.out⟩)
 rotate_left
 all_goals try
  have aO:aC.eF o=o.size:=aaM HF.out bH
  go_wp2
  go_ret
  exact⟨_,rfl,by simp[aC.cL,aC.mU,zxc,Sq];omega,bO bL.out E.out⟩
 have Zf:r.size+aC.je (a.drop 0) (d.drop 0)<=aC.cL ⟨q,o,up,3,lo,hi,a,d⟩:=by
  simp[aC.cL,aC.mU];omega
 have au:=hid Zf;clear Zf hr n;go_upto_region 14 with fail;generalize r=r0 at*;go_loopw [8,9] (fun s i wr=>∃(j:Nat) (r:ByteArray),j<=a.length/\i=.int .i64 (j:Int)/\s=.string r/\Hid (r.size+aC.je (a.drop j) (d.drop j)<=aC.cL ⟨q,o,up,3,lo,hi,a,d⟩)/\Hid (BL w1 wr)) (fun _ i _=>a.length-(intOf i).toNat);case atStart=>exact⟨0,r0,aD,rfl,rfl,au,E⟩
 case round=>
  obtain⟨j,r,hj,rfl,rfl,HN,HR⟩:=hrel;have cH:=aR bL HR.out;obtain⟨⟨Y,y1,y2,y3,y4,y5,y6,y7⟩, -⟩:=ez (v.out wr HR.out);have aQ:r.size<=8192:=by have:=HN.out;have:=ah.out;omega
  by_cases p:j<a.length
  ·have B:j<d.length:=by rw[ai.out];exact p
   obtain⟨u1,c1, -,rfl⟩:=(Q.out wr cH.out).at p;obtain⟨u2,c2, -,rfl⟩:=(y.out wr cH.out).at B;have hp:=P9 a d p B;have c:=aj.out _ (eV p);have av:=ak.out _ (eV B);obtain⟨aS,aT⟩:=av;have aU:(0:Int)<=j:=aD
   have aV:(j:Int)<a.length:=aD
   obtain⟨p0,C⟩:=bJ (aC.je (a.drop (j+1)) (d.drop (j+1)));have Rm:=HN.out;rw[hp,<-C] at Rm;have ax:=hid C;clear hp C HN;generalize a[j]=wj at*;generalize d[j]=gj at*;have ay:=hid Rm;clear Rm;have hsz:(r++⟨#[32]⟩++wj:ByteArray).size<=10000:=by rw[zxc,zxc,Sq];omega
   have aF:(r++⟨#[32]⟩:ByteArray).size<=10000:=by rw[zxc,Sq];omega
   have az:Hid ((qw (r++⟨#[32]⟩++wj) gj).size=r.size+(1+wj.size)+(1+aC.dN gj)):=hid (by rw[kr,zxc,zxc,Sq];omega);have HG:=hid (fun(x:gV wr)=>Calls.fQ (x:=x) (pO (r++⟨#[32]⟩++wj) gj aD aD aD x.1));generalize qw (r++⟨#[32]⟩++wj) gj=r2 at*;have hg:=gV.cell (w:=wr);have aA:=kK wr _ c1;have aB:=kK wr _ c2;have vW:=kK wr _ Y;simp only at aA aB vW;go_wp2;refine cQ zK zK ?_;repeat (go_big_quiet_step ((exact HG.out _)))
   refine iU ?_;intro w2 hx;have aa:=eP hx;have jm:=aR HR aa;have aE:Hid (r2.size+aC.je (a.drop (j+1)) (d.drop (j+1))<=aC.cL ⟨q,o,up,3,lo,hi,a,d⟩):=hid (by rw[az.out,<-ax.out];have:=ay.out;omega);clear hx hg aa HG;go_wp2;go_roundw;case rel=>exact⟨j+1,r2,aD,zG,rfl,aE,jm⟩
   exact zI
  ·go_wp2
   go_ret;exact⟨r,rfl,abn,cH.out⟩
theorem oT{α:Type}(g:α->Nat)(l:List α){k:Nat}(h:k<l.length):aC.bP g (l.drop k)=g l[k]+aC.bP g (l.drop (k+1)):=by
 rw[zxe h,fU]
theorem yd{W V:World}{F:Nat}{o:Obj}(h:W.heap[F]?=some o)(a:BL W V):V.heap[F]?=some o:=(a.block _ (aI h)).trans h
theorem MR(x:aC.cE)(hx:aC.ql x=true)(hn:aC.xC x<=8192)(v:Value)(S:Nat->Prop)(w:World)(hv:dO S w v x):
  CP 128 #[v] w fun e w'=>∃r:ByteArray,e=.returned (.string r)/\r.size<=aC.xC x/\BL w w':=by
 obtain⟨Ts,DC,ba,bb,aj,Uc,an⟩:=l5 hx;obtain⟨bc,bd⟩:=eM Ts;obtain⟨ak,ck,al,cl,ar,cr,rfl,hk,hl,hr,be,bf,bg⟩:=hv.form;obtain⟨w1,ao,bL,HK,hz⟩:=boxed w (sBx x ak al ar ck cl cr) 27;have aJ:=hid (fun W (t:BL w1 W)=>hk.keep (aH.below (bO bL.out t)));have aK:=hid (fun W (t:BL w1 W)=>fC.keep dG hl (aH.below (bO bL.out t)));have aM:=hid (fun W (t:BL w1 W)=>fC.keep fO hr (aH.below (bO bL.out t)))
 have hT:7+aC.dN x.aQ+1+aC.bP aC.iB (x.ah.drop 0)+aC.bP aC.jf (x.aV.drop 0)+aC.bP aC.jI (x.aX.drop 0)=aC.xC x:=by
  unfold aC.xC;simp only[jH];omega
 obtain⟨T,ap⟩:=bJ (aC.xC x);rw[<-ap] at hT hn ⊢;have aN:=hid aj;have aO:=hid Uc;have aP:=hid an;clear hv hk hl hr hx ap aj Uc an;obtain⟨aT,p,o,rs⟩:=x;simp only at*;have bh:(p.length:Int)<=6:=aD
 have bi:(o.length:Int)<=6:=aD
 have bj:(rs.length:Int)<=16:=aD
 obtain⟨L0,aa⟩:=bJ (aC.bP aC.jf (o.drop 0));obtain⟨R0,ab⟩:=bJ (aC.bP aC.jI (rs.drop 0));rw[<-aa,<-ab] at hT;have HT:=hid hT;have S9:=hid aa;have uG:=hid ab;clear hT aa ab;obtain⟨M,O,P,Q⟩:=b4z (HK.out w1 aG);have HW:=hid ao;clear ao;go_enter func128,ntmps128;go_upto_region 1 with fail;rw[HW.out];clear HW;go_wp2_with fail;refine(JJ _ aT (show 6<=_ by omega) aD aD _).mono ?_;rintro e wa ⟨r0,rfl,hr0,t⟩;have HA:Hid (BL w1 wa):=hid t
 have H0:Hid (r0.size+aC.bP aC.iB (p.drop 0)+1+L0+R0<=T):=hid (by
  have B:(⟨#[115,99,104,101,109,97]⟩:ByteArray).size=6:=rfl
  rw[B] at hr0
  have:=HT.out
  omega)
 clear t hr0 M O P Q;go_upto_region 3 with fail;go_loopw [3,4,5,6] (fun s i _ _ wr=>∃(j:Nat) (r:ByteArray),j<=p.length/\i=.int .i64 (j:Int)/\s=.string r/\Hid (r.size+aC.bP aC.iB (p.drop j)+1+L0+R0<=T)/\Hid (BL w1 wr)) (fun _ i _ _ _=>p.length-(intOf i).toNat);case atStart=>exact⟨0,r0,aD,rfl,rfl,H0,HA⟩
 case round=>
  obtain⟨j,r,hj,rfl,rfl,z,HR⟩:=hrel;obtain⟨M,O,P,Q⟩:=b4z (HK.out wr HR.out);by_cases c:j<p.length
  ·have aq:(0:Int)<=j:=by omega
   have au:(j:Int)<p.length:=aD
   obtain⟨-, -,k0,k1,k2,uf,k3,hf⟩:=(aJ.out wr HR.out).at c;obtain⟨af,cf,rfl,Ta,bk,bl⟩:=hf.form;obtain⟨Z,q2,q3,q4⟩:=lD (aN.out _ (eV c));have aU:=dK Z;obtain⟨a5,a6,a7⟩:=kW q2;have hd:=oT aC.iB p c;have q:aC.iB p[j]=4+(1+p[j].name.size)+(1+aC.dN p[j].lo)+(1+aC.dN p[j].hi)+1+aC.bP aC.cL (p[j].aF.drop 0):=rfl;rw[q] at hd;obtain⟨D,F⟩:=bJ (aC.bP aC.iB (p.drop (j+1)));rw[<-F] at hd;have HD:=hid F;have aW:=hid q4;have y:=z.out;rw[hd] at y;clear q hd F Z q2 q4 z;generalize p[j]=kd at*;obtain⟨d,G,hi,fs⟩:=kd;simp only at*;have av:=eB G;have bm:=eB hi;obtain⟨k,hW2⟩:=bJ (wr.alloc (.cells #[.string d,.int .i64 G,.int .i64 hi,.slice af fs.length cf] 53));have C:k.heap[wr.heap.size]?=some (.cells #[.string d,.int .i64 G,.int .i64 hi,.slice af fs.length cf] 53 (0,0)):=Qr
   have jm:Hid (Below w1.heap.size w1 k):=hid (by rw[hW2];exact HR.out.alloc HR.out.size _);have Dc:Hid (∀W,BL k W->dx S W (.slice af fs.length cf) fs):=hid (fun W hW=>hf.keep (aH.below (((Below.refl wr.heap.size wr).alloc aL (.cells #[.string d,.int .i64 G,.int .i64 hi,.slice af fs.length cf] 53)).trans (by rw[<-hW2];exact hW.mono (by rw[hW2];simp)))));have R:=hid C;go_upto_region 6 with fail;rw[<-hW2];clear hW2 M O P Q k0 k1 k2 k3 hf;obtain⟨z0,z1,z2,z3⟩:=b4z C;have aY:=aI C;clear C;have B:(⟨#[10,107,105,110,100,32]⟩:ByteArray).size=6:=rfl;have H:(r++⟨#[10,107,105,110,100,32]⟩:ByteArray).size<=10000:=by rw[zxc,B];omega
   have ad:(r++⟨#[10,107,105,110,100,32]⟩++d:ByteArray).size<=10000:=by rw[zxc,zxc,B];omega
   have ax:(qw (r++⟨#[10,107,105,110,100,32]⟩++d) G).size<=10000:=by rw[kr,zxc,zxc,B];omega
   have HS:Hid ((qw (qw (r++⟨#[10,107,105,110,100,32]⟩++d) G) hi).size=r.size+(6+d.size+(1+aC.dN G)+(1+aC.dN hi))):=hid (by rw[kr,kr,zxc,zxc,B];omega);have Dt:=hid (fun(x:gV k)=>Calls.fQ (x:=x) (pO (r++⟨#[10,107,105,110,100,32]⟩++d) G aD aD aD x.1));have I:=hid (fun(x:gV k)=>Calls.fQ (x:=x) (pO (qw (r++⟨#[10,107,105,110,100,32]⟩++d) G) hi aD aD aD x.1));generalize qw (qw (r++⟨#[10,107,105,110,100,32]⟩++d) G) hi=r3 at*;generalize qw (r++⟨#[10,107,105,110,100,32]⟩++d) G=r2 at*;have hg:=gV.cell (w:=k);refine cQ zK zK ?_;repeat (go_big_quiet_step (with_reducible first|exact Dt.out _|exact I.out _))
   refine iU ?_;intro w3 J;have A:=eP J;have vw:=aR jm A;have gT:Hid (BL k w3):=hid A;have U:Hid (r3.size+aC.bP aC.cL (fs.drop 0)+D+1+L0+R0<=T):=hid (by have:=HS.out;omega);clear J A hg Dt I HS H ad ax y z0 z1 z2 z3;have tr:(fs.length:Int)<=10:=aD
   go_upto_region 8 with fail;go_loopw [3,6] (fun s i wr=>∃(m:Nat) (r:ByteArray),m<=fs.length/\i=.int .i64 (m:Int)/\s=.string r/\Hid (r.size+aC.bP aC.cL (fs.drop m)+D+1+L0+R0<=T)/\Hid (BL k wr)) (fun _ i _=>fs.length-(intOf i).toNat);case atStart=>exact⟨0,r3,aD,rfl,rfl,U,gT⟩
   case round=>
    obtain⟨m,l,hm,rfl,rfl,E,V⟩:=hrel;obtain⟨z0,z1,z2,z3⟩:=b4z (yd R.out V.out);by_cases K:m<fs.length
    ·obtain⟨-, -,f0,f1,f2,f3,f4,f5,uw,ug,f6,f7,ae,ai⟩:=(Dc.out wr V.out).at K
     obtain⟨aw,cw,rfl, -, -, -⟩:=ae.form;obtain⟨ag,cg,rfl, -, -, -⟩:=ai.form;have ay:(0:Int)<=m:=aD
     have az:(m:Int)<fs.length:=aD
     have hd:=oT aC.cL fs K;have g:=E.out;rw[hd] at g;have HF:=hid (Vc fs[m] (aW.out _ (eV K)) aD _ _ S S wr ae ai);obtain⟨D2,L⟩:=bJ (aC.bP aC.cL (fs.drop (m+1)));rw[<-L] at g;have K9:=hid L;clear hd L ae ai E;obtain⟨N,hN⟩:=bJ (aC.cL fs[m]);rw[<-hN] at g HF;clear hN;generalize fs[m]=f at*;simp only[dh] at HF;go_wp2_with fail;refine HF.out.mono ?_;rintro e w5 ⟨r5,rfl,bn,t⟩;have kY:=aR V t;have aA:(l++r5:ByteArray).size=l.size+r5.size:=zxc ..;have E1:Hid ((l++r5).size+aC.bP aC.cL (fs.drop (m+1))+D+1+L0+R0<=T):=hid (by rw[aA,<-K9.out];omega);clear t z0 z1 z2 z3 f0 f1 f2 f3 f4 f5 f6 f7;go_wp2;go_roundw;case rel=>exact⟨m+1,_,aD,zG,rfl,E1,kY⟩
     exact zI
    ·have X:Hid (l.size+aC.bP aC.iB (p.drop (j+1))+1+L0+R0<=T):=hid (by
      have:=E.out
      rw[<-HD.out]
      omega)
     have aZ:=aR jm V.out;go_wp2;go_roundw;case rel=>exact⟨j+1,l,aD,zG,rfl,X,aZ⟩
     exact zI
  ·obtain rfl:j=p.length:=by omega
   have Yk:Hid (r.size+aC.bP aC.jf (o.drop 0)+1+R0<=T):=hid (by
    have:=z.out
    rw[<-S9.out]
    omega)
   clear z S9 HT H0 HA;generalize r=r1 at*;generalize wr=wo at*;go_upto_region 12 with fail;go_loopw [3,7,8,9,10] (fun s i _ _ _ wr=>∃(j:Nat) (r:ByteArray),j<=o.length/\i=.int .i64 (j:Int)/\s=.string r/\Hid (r.size+aC.bP aC.jf (o.drop j)+1+R0<=T)/\Hid (BL w1 wr)) (fun _ i _ _ _ _=>o.length-(intOf i).toNat);case atStart=>exact⟨0,r1,aD,rfl,rfl,Yk,HR⟩
   case round=>
    clear M O P Q Yk HR;obtain⟨j,r,hj,rfl,rfl,z,HR⟩:=hrel;obtain⟨M,O,P,Q⟩:=b4z (HK.out wr HR.out);by_cases c:j<o.length
    ·have aq:(0:Int)<=j:=by omega
     have au:(j:Int)<o.length:=aD
     obtain⟨-, -,k0,u1,u2,k1,k2,hs,hm⟩:=o6.at (aK.out wr HR.out) c;obtain⟨aS,cS,rfl,a8,bo,bp⟩:=hs.form;obtain⟨am,cm,rfl,a9,bq,br⟩:=hm.form;obtain⟨Z,q2,q3,q4,q5⟩:=qb (aO.out _ (eV c));have aU:=dK Z;have bs:=(eM q2).2;have hd:=oT aC.jf o c;have q:aC.jf o[j]=4+(1+o[j].name.size)+(1+aC.dN o[j].dR.length)+aC.bP (fun s:aC.Nm=>1+s.size) (o[j].dR.drop 0)+1+aC.bP kC (o[j].jd.drop 0):=rfl;rw[q] at hd;obtain⟨D,F⟩:=bJ (aC.bP aC.jf (o.drop (j+1)));obtain⟨M0,Oy⟩:=bJ (aC.bP kC (o[j].jd.drop 0));rw[<-F,<-Oy] at hd;have HD:=hid F;have a0:=hid Oy;have a1:=hid q3;have a2:=hid q5;have y:=z.out;rw[hd] at y;clear q hd F Oy Z q2 q3 q5 z;generalize o[j]=kd at*;obtain⟨d,ss,ms⟩:=kd;simp only at*;have bt:(ms.length:Int)<=32:=aD
     have av:=eB ss.length;obtain⟨k,hW2⟩:=bJ (wr.alloc (.cells #[.string d,.slice aS ss.length cS,.slice am ms.length cm] 58));have C:k.heap[wr.heap.size]?=some (.cells #[.string d,.slice aS ss.length cS,.slice am ms.length cm] 58 (0,0)):=Qr
     have Y:BL wr k:=by rw[hW2];exact aG.alloc aL _
     have jm:=aR HR Y;have a3:=hid (fun W (hW:BL k W)=>hs.keep (aH.below (bO Y hW)));have yj:=hid (fun W (hW:BL k W)=>fC.keep fW hm (aH.below (bO Y hW)));have R:=hid C;go_upto_region 15 with fail;rw[<-hW2];clear hW2 M O P Q k0 k1 k2 hs hm Y;obtain⟨z0,z1,z2⟩:=wN C;clear C;have B:(⟨#[10,108,105,102,101,32]⟩:ByteArray).size=6:=rfl;have H:(r++⟨#[10,108,105,102,101,32]⟩:ByteArray).size<=10000:=by rw[zxc,B];omega
     have ad:(r++⟨#[10,108,105,102,101,32]⟩++d:ByteArray).size=r.size+6+d.size:=by rw[zxc,zxc,B]
     go_wp2_with fail;refine(JJ _ ss.length aD aD aD _).mono ?_;rintro e w3 ⟨r3,rfl,Ch,t⟩;have vw:=aR jm t;have gT:Hid (BL k w3):=hid t;have U:Hid (r3.size+aC.bP (fun s:aC.Nm=>1+s.size) (ss.drop 0)+M0+D+1+R0<=T):=hid aD;clear t Ch H ad y z0 z1 z2;go_upto_region 17 with fail;go_loopw [3,9] (fun s i wr=>∃(m:Nat) (r:ByteArray),m<=ss.length/\i=.int .i64 (m:Int)/\s=.string r/\Hid (r.size+aC.bP (fun s:aC.Nm=>1+s.size) (ss.drop m)+M0+D+1+R0<=T)/\w3=wr) (fun _ i _=>ss.length-(intOf i).toNat);case atStart=>exact⟨0,r3,aD,rfl,rfl,U,rfl⟩
     case round=>
      obtain⟨m,l,hm,rfl,rfl,E,rfl⟩:=hrel;obtain⟨z0,z1,z2⟩:=wN (yd R.out gT.out);by_cases K:m<ss.length
      ·obtain⟨u,f0, -,rfl⟩:=(a3.out w3 gT.out).at K
       have ay:(0:Int)<=m:=aD
       have az:(m:Int)<ss.length:=aD
       have hd:=oT (fun s:aC.Nm=>1+s.size) ss K;have g:=E.out;rw[hd] at g;have aB:=dK (alU.1 a1.out _ (eV K));obtain⟨D2,L⟩:=bJ (aC.bP (fun s:aC.Nm=>1+s.size) (ss.drop (m+1)));rw[<-L] at g;have K9:=hid L;clear hd L E;generalize ss[m]=f at*;have E1:Hid ((l++⟨#[32]⟩++f).size+aC.bP (fun s:aC.Nm=>1+s.size) (ss.drop (m+1))+M0+D+1+R0<=T):=hid (by rw[zxc,zxc,Sq,<-K9.out];omega);have aA:(l++⟨#[32]⟩:ByteArray).size<=10000:=by rw[zxc,Sq];omega
       go_wp2;go_roundw;case rel=>exact⟨m+1,_,aD,zG,rfl,E1,trivial⟩
       exact zI
      ·have X:Hid (l.size+aC.bP kC (ms.drop 0)+D+1+R0<=T):=hid (by
        have:=E.out
        rw[<-a0.out]
        omega)
       clear E U;generalize l=r5 at*;go_upto_region 21 with fail;clear z0 z1 z2;go_loopw [3,10] (fun s i wr=>∃(m:Nat) (r:ByteArray),m<=ms.length/\i=.int .i64 (m:Int)/\s=.string r/\Hid (r.size+aC.bP kC (ms.drop m)+D+1+R0<=T)/\Hid (BL k wr)) (fun _ i _=>ms.length-(intOf i).toNat);case atStart=>exact⟨0,r5,aD,rfl,rfl,X,gT⟩
       case round=>
        clear X;obtain⟨m,l,hm,rfl,rfl,E,V⟩:=hrel;obtain⟨z0,z1,z2⟩:=wN (yd R.out V.out);by_cases K:m<ms.length
        ·obtain⟨-, -,f0,f1⟩:=yD.at (yj.out wr V.out) K
         have ay:(0:Int)<=m:=aD
         have az:(m:Int)<ms.length:=aD
         have hd:=oT kC ms K;have g:=E.out;rw[hd] at g;have hq:=a2.out _ (eV K);obtain⟨D2,L⟩:=bJ (aC.bP kC (ms.drop (m+1)));rw[<-L] at g;have K9:=hid L;clear hd L E;generalize ms[m]=mv at*;obtain⟨m1,m2⟩:=mv;obtain⟨h1,h2⟩:=zxv.1 hq;have h1:=eM h1;have h2:=eM h2;simp only[kC] at f0 f1 g h1 h2;obtain⟨bu,bv⟩:=h1;obtain⟨bw,bx⟩:=h2;have h5:(⟨#[10,109,111,118,101]⟩:ByteArray).size=5:=rfl;have H:(l++⟨#[10,109,111,118,101]⟩:ByteArray).size<=10000:=by rw[zxc,h5];omega
         have ax:(qw (l++⟨#[10,109,111,118,101]⟩) m1).size<=10000:=by rw[kr,zxc,h5];omega
         have E1:Hid ((qw (qw (l++⟨#[10,109,111,118,101]⟩) m1) m2).size+aC.bP kC (ms.drop (m+1))+D+1+R0<=T):=hid (by rw[kr,kr,zxc,h5,<-K9.out];omega);have Dt:=hid (fun(x:gV wr)=>Calls.fQ (x:=x) (pO (l++⟨#[10,109,111,118,101]⟩) m1 aD aD aD x.1));have I:=hid (fun(x:gV wr)=>Calls.fQ (x:=x) (pO (qw (l++⟨#[10,109,111,118,101]⟩) m1) m2 aD aD aD x.1));generalize qw (qw (l++⟨#[10,109,111,118,101]⟩) m1) m2=r6 at*;generalize qw (l++⟨#[10,109,111,118,101]⟩) m1=r7 at*;have hg:=gV.cell (w:=wr);have aB:=kK wr _ f0;have vW:=kK wr _ z0;simp only at aB vW;have bz:l.size<=9000:=aD
         clear hq g;go_wp2;refine cQ zK zK ?_;repeat (go_big_quiet_step (with_reducible first|exact Dt.out _|exact I.out _))
         refine iU ?_;intro w6 aE;have oH:=eP aE;have BW:=aR V oH;clear aE oH hg Dt I;go_wp2;go_roundw;case rel=>exact⟨m+1,r6,aD,zG,rfl,E1,BW⟩
         exact zI
        ·have a4:Hid (l.size+aC.bP aC.jf (o.drop (j+1))+1+R0<=T):=hid (by
          have:=E.out
          rw[<-HD.out]
          omega)
         have Gh:=aR jm V.out;go_wp2;go_roundw;case rel=>exact⟨j+1,l,aD,zG,rfl,a4,Gh⟩
         exact zI
    ·obtain rfl:j=o.length:=by omega
     have Yk:Hid (r.size+aC.bP aC.jI (rs.drop 0)+1<=T):=hid (by
      have:=z.out
      rw[<-uG.out]
      omega)
     clear z uG;generalize r=r1 at*;generalize wr=wo at*;go_upto_region 25 with fail;go_loopw [3,11,12] (fun s i _ wr=>∃(j:Nat) (r:ByteArray),j<=rs.length/\i=.int .i64 (j:Int)/\s=.string r/\Hid (r.size+aC.bP aC.jI (rs.drop j)+1<=T)/\Hid (BL w1 wr)) (fun _ i _ _=>rs.length-(intOf i).toNat);case atStart=>exact⟨0,r1,aD,rfl,rfl,Yk,HR⟩
     case round=>
      clear M O P Q Yk HR;obtain⟨j,r,hj,rfl,rfl,z,HR⟩:=hrel;obtain⟨M,O,P,Q⟩:=b4z (HK.out wr HR.out);by_cases c:j<rs.length
      ·have aq:(0:Int)<=j:=by omega
       have au:(j:Int)<rs.length:=aD
       obtain⟨-, -,k0,k1,k2,k3,k4⟩:=qI.at (aM.out wr HR.out) c;obtain⟨Z,q2,q3,q4,q5,q6⟩:=qc (aP.out _ (eV c));have bA:=dK Z;have bB:=dK q2;have bC:=aC.lC (qX q3);have bE:=aC.lC (qX q4);obtain⟨bF,bG⟩:=eM q6;have hd:=oT aC.jI rs c;have q:aC.jI rs[j]=4+(1+rs[j].name.size)+(1+rs[j].kind.size)+(1+aC.eF rs[j].a)+(1+aC.eF rs[j].b)+(1+aC.dN rs[j].n)+1:=rfl;rw[q] at hd;obtain⟨D,F⟩:=bJ (aC.bP aC.jI (rs.drop (j+1)));rw[<-F] at hd;have HD:=hid F;have y:=z.out;rw[hd] at y;clear q hd F Z q2 q3 q4 q5 q6 z;generalize rs[j]=kd at*;obtain⟨d,kn,ra,rb,rn⟩:=kd;simp only at*;have av:=eB rn;obtain⟨k,hW2⟩:=bJ (wr.alloc (.cells #[.string d,.string kn,.string ra,.string rb,.int .i64 rn] 61));have C:k.heap[wr.heap.size]?=some (.cells #[.string d,.string kn,.string ra,.string rb,.int .i64 rn] 61 (0,0)):=Qr
       have jm:Hid (Below w1.heap.size w1 k):=hid (by rw[hW2];exact HR.out.alloc HR.out.size _);go_upto_region 28 with fail;rw[<-hW2];clear hW2 M O P Q k0 k1 k2 k3 k4;obtain⟨⟨z0,z1,z2,z3,z4⟩, -⟩:=nO C;have aY:=aI C;clear C;have B:(⟨#[10,114,117,108,101,32]⟩:ByteArray).size=6:=rfl;have ha:=Ay ra;have t:=Ay rb;have E6:=hid (fun(x:gV k)=>Calls.fQ (x:=x) ((xZ ra x.1).mono fun _ _ h=>⟨h.1,h.2▸aG⟩));have sU:=hid (fun(x:gV k)=>Calls.fQ (x:=x) ((xZ rb x.1).mono fun _ _ h=>⟨h.1,h.2▸aG⟩));generalize P7 ra=na at*;generalize P7 rb=nb at*;have HX:Hid (∀s:ByteArray,s=r++⟨#[10,114,117,108,101,32]⟩++d++⟨#[32]⟩++kn++⟨#[32]⟩++na++⟨#[32]⟩++nb->s.size=r.size+9+d.size+kn.size+na.size+nb.size):=hid (fun s e=>by subst e;simp only[zxc,Sq,B];omega);have hX:=HX.out _ rfl;have E1:Hid ((qw (r++⟨#[10,114,117,108,101,32]⟩++d++⟨#[32]⟩++kn++⟨#[32]⟩++na++⟨#[32]⟩++nb) rn).size+aC.bP aC.jI (rs.drop (j+1))+1<=T):=hid (by rw[kr,hX,<-HD.out];omega);have Dt:=hid (fun(x:gV k)=>Calls.fQ (x:=x) (pO (r++⟨#[10,114,117,108,101,32]⟩++d++⟨#[32]⟩++kn++⟨#[32]⟩++na++⟨#[32]⟩++nb) rn aD aD aD x.1));have hg:=gV.cell (w:=k);have H:(r++⟨#[10,114,117,108,101,32]⟩:ByteArray).size=r.size+6:=by rw[zxc,B]
       refine cQ zK zK ?_;repeat (go_big_quiet_step (with_reducible first|exact Dt.out _|exact E6.out _|exact sU.out _))
       refine iU ?_;intro w3 J;have A:=eP J;have vw:=aR jm A;clear J A hg Dt;go_wp2;go_roundw;case rel=>exact⟨j+1,_,aD,zG,rfl,E1,vw⟩
       exact zI
      ·have bH:r.size+1<=T:=by have:=z.out;omega
       have HE:Hid ((r++⟨#[10]⟩).size<=T):=hid (by rw[zxc,Sq];omega);have E9:=aR bL HR.out;clear z;go_wp2;go_ret;exact⟨_,rfl,HE.out,E9.out⟩
theorem zB{x:aC.cE}(h:aC.mH x=0):aC.ql x=true/\aC.xC x<=8192:=by
 unfold aC.mH at h;split at h
 ·rename_i a
  split at h
  ·omega
  ·exact⟨a,aD⟩
 ·omega
theorem Qa(x:aC.cE)(hx:aC.mH x=0)(v:Value)(S:Nat->Prop)(w:World)(C:dO S w v x):
  CB 78 #[v] w (.int .i64 0):=by
 obtain⟨hx,N⟩:=zB hx;obtain⟨O,DC,aa,ab,n,P,o⟩:=l5 hx;obtain⟨ak,ck,al,cl,ar,cr,rfl,Q,R,B,ad,ae,ag⟩:=C.form;obtain⟨w1,p,q,s,hz⟩:=boxed w (sBx x ak al ar ck cl cr) 27;have U:=hid (fun W (a:BL w1 W)=>C.keep (aH.below (bO q.out a)));have D:=hid (fun W (a:BL w1 W)=>Q.keep (aH.below (bO q.out a)));have E:=hid (fun W (a:BL w1 W)=>fC.keep dG R (aH.below (bO q.out a)));have F:=hid (fun W (a:BL w1 W)=>fC.keep fO B (aH.below (bO q.out a)));have V:=hid (fun W (a:BL w1 W)=>MR x hx N _ S W (U.out W a));obtain⟨T,X⟩:=bJ (aC.xC x);rw[<-X] at N V;have G:=hid n;have H:=hid P;have I:=hid o;have Y:=hid (jr x.aQ 0 1048576 w1);rw[O] at Y;clear C Q R B hx n P o O U X;obtain⟨ah,l,m,rs⟩:=x;simp only at*;have ai:(l.length:Int)<=6:=aD
 have aj:(m.length:Int)<=6:=aD
 have an:(rs.length:Int)<=16:=aD
 obtain⟨c,d,f,g⟩:=b4z (s.out w1 aG);have Z:=hid p;clear p;go_enter func78,ntmps78;go_upto_region 1 with fail;rw[Z.out];clear Z;go_wp2_with fail;refine Y.out.mono ?_;rintro e w' ⟨rfl,rfl⟩;have h:Hid (BL w1 w1):=hid aG;clear c d f g;obtain⟨c,d,f,g⟩:=b4z (s.out w1 aG);go_upto_region 4 with fail;clear c d f g;go_loopw [3] (fun i wr=>∃j:Nat,j<=l.length/\i=.int .i64 (j:Int)/\Hid (BL w1 wr)) (fun i _=>l.length-(intOf i).toNat);case atStart=>exact⟨0,aD,rfl,h⟩
 case round=>
  clear h;obtain⟨j,hj,rfl,HR⟩:=hrel;obtain⟨c,d,f,g⟩:=b4z (s.out wr HR.out);by_cases b:j<l.length
  ·have t:(0:Int)<=j:=by omega
   have u:(j:Int)<l.length:=aD
   obtain⟨-, -,y,z,A,uf,J,K⟩:=(D.out wr HR.out).at b;obtain⟨af,cf,rfl, -, -, -⟩:=K.form;have k:=hid (ML l[j] (G.out _ (eV b)) _ S wr K);clear K;generalize l[j]=kd at*;simp only[kH] at k;go_wp2_with fail;refine k.out.mono ?_;rintro e w2 ⟨rfl,a⟩;have jm:=aR HR a;clear a c d f g y z A J;exact aen
  ·have h:=HR
   generalize wr=wo at*;go_upto_region 9 with fail;clear c d f g;go_loopw [4] (fun i wr=>∃j:Nat,j<=m.length/\i=.int .i64 (j:Int)/\Hid (BL w1 wr)) (fun i _=>m.length-(intOf i).toNat);case atStart=>exact⟨0,aD,rfl,h⟩
   case round=>
    clear h HR;obtain⟨j,hj,rfl,HR⟩:=hrel;obtain⟨c,d,f,g⟩:=b4z (s.out wr HR.out);by_cases b:j<m.length
    ·have t:(0:Int)<=j:=by omega
     have u:(j:Int)<m.length:=aD
     obtain⟨-, -,y,u1,u2,z,A,L,M⟩:=o6.at (E.out wr HR.out) b;obtain⟨aS,cS,rfl, -, -, -⟩:=L.form;obtain⟨am,cm,rfl, -, -, -⟩:=M.form;have k:=hid (MN m[j] (H.out _ (eV b)) _ _ S wr L M);clear L M;generalize m[j]=kd at*;go_wp2_with fail;refine k.out.mono ?_;rintro e w2 ⟨rfl,a⟩;have jm:=aR HR a;clear a c d f g y z A;exact aen
    ·have h:=HR
     generalize wr=wo at*;go_upto_region 14 with fail;clear c d f g;go_loopw [5] (fun i wr=>∃j:Nat,j<=rs.length/\i=.int .i64 (j:Int)/\Hid (BL w1 wr)) (fun i _=>rs.length-(intOf i).toNat);case atStart=>exact⟨0,aD,rfl,h⟩
     case round=>
      clear h HR;obtain⟨j,hj,rfl,HR⟩:=hrel;obtain⟨c,d,f,g⟩:=b4z (s.out wr HR.out);by_cases b:j<rs.length
      ·have t:(0:Int)<=j:=by omega
       have u:(j:Int)<rs.length:=aD
       obtain⟨-, -,y,z,A,J,k4⟩:=qI.at (F.out wr HR.out) b;have k:=hid (MO rs[j] (I.out _ (eV b)) wr);generalize rs[j]=kd at*;go_wp2_with fail;refine k.out.mono ?_;rintro e w2 ⟨rfl,a⟩;have jm:=aR HR a;clear a c d f g y z A J k4;exact aen
      ·have k:=hid (V.out wr HR.out)
       go_wp2_with fail;refine k.out.mono ?_;rintro e w2 ⟨r,rfl,B,a⟩;have jm:=hid (bO q.out (bO HR.out a));have wu:(r.size:Int)<=8192:=aD
       clear a B c d f g;go_wp2;go_ret;exact⟨rfl,jm.out⟩
theorem iC.Vd{S:Nat->Prop}{w:World}{d:Option Addr}{n v:Nat}{ks:List aC.fT}(h:iC S w (.slice d n v) ks){m j:Nat}(x:m<ks.length)(y:j<ks[m].aF.length):∃a e f g i l,
  dV a ks[m].aF.length/\gE S w (.slice f ks[m].aF[j].cV.length g) ks[m].aF[j].cV/\bB S w (.slice i ks[m].aF[j].bY.length l) ks[m].aF[j].bY/\dx S w (.slice a ks[m].aF.length e) ks[m].aF/\bM d<w.heap.size/\bM a<w.heap.size/\
  ∀W,BL w W->W.cell? ⟨bM d,bT d+m*4+3,none⟩=some (.slice a ks[m].aF.length e)/\
   W.cell? ⟨bM a,bT a+j*8,none⟩=some (.string ks[m].aF[j].name)/\W.cell? ⟨bM a,bT a+j*8+1,none⟩=some (.string ks[m].aF[j].of)/\W.cell? ⟨bM a,bT a+j*8+2,none⟩=some (.string ks[m].aF[j].up)/\W.cell? ⟨bM a,bT a+j*8+3,none⟩=some (.int .i64 ks[m].aF[j].kind)/\
   W.cell? ⟨bM a,bT a+j*8+4,none⟩=some (.int .i64 ks[m].aF[j].lo)/\W.cell? ⟨bM a,bT a+j*8+5,none⟩=some (.int .i64 ks[m].aF[j].hi)/\W.cell? ⟨bM a,bT a+j*8+6,none⟩=some (.slice f ks[m].aF[j].cV.length g)/\W.cell? ⟨bM a,bT a+j*8+7,none⟩=some (.slice i ks[m].aF[j].bY.length l):=by
 obtain⟨s, -, -, -, -,H,z,q⟩:=h.at x;obtain⟨a,e,rfl,r, -, -⟩:=q.form;obtain⟨c, -,A,f1,f2,B,C,D,I,J,E,F,t,u⟩:=dx.at q y;obtain⟨f,g,rfl, -, -, -⟩:=t.form;obtain⟨i,l,rfl, -, -, -⟩:=u.form;refine⟨a,e,f,g,i,l,r,t,u,q,s,c,fun W G=>?_⟩;have k (b o:Nat) (hb:b<w.heap.size):W.cell? ⟨b,o,none⟩=w.cell? ⟨b,o,none⟩:=G.cell (p:=⟨b,o,none⟩) hb;exact⟨(k _ _ s).trans z,(k _ _ c).trans A,(k _ _ c).trans f1,(k _ _ c).trans f2,(k _ _ c).trans B,(k _ _ c).trans C,(k _ _ c).trans D,(k _ _ c).trans E,(k _ _ c).trans F⟩
theorem Ve(x:aC.cE)(m n o:Nat)(hm:m<x.ah.length)(hn:n<x.ah[m].aF.length)(h6:x.ah[m].aF[n].kind=6)(ho:aC.dc x x.ah[m].aF[n].of=(o:Int))(au:m<o)(DC:x.ah.length<=6)(tC:∀k∈x.ah,k.aF.length<=10)(v:Value)(S:Nat->Prop)(w:World)(hv:dO S w v x):
  CP 129 #[v,.int .i64 (m:Int),.int .i64 (n:Int)] w fun e w'=>∃a c,e=.returned (.tuple #[.int .i64 (o:Int),.slice a (aC.mP x m o x.ah[m].aF[n].name).length c])/\BL w w':=by
 obtain⟨ak,ck,al,cl,ar,cr,rfl,hk,hl,hr,av,ax,ay⟩:=hv.form
 have Jd:o<x.ah.length:=by
  have:aC.dc x x.ah[m].aF[n].of<x.ah.length:=by
   rcases kS (fun k:aC.fT=>decide (k.name=x.ah[m].aF[n].of)) x.ah with h|h
   ·exact h
   ·unfold aC.dc;rw[h];omega
  omega
 obtain⟨w1,P,Q,HK,hz⟩:=boxed w (sBx x ak al ar ck cl cr) 27;have HV:=hid (fun W (d:BL w1 W)=>hv.keep (aH.below (bO Q.out d)));obtain⟨af,cf,aw,cw,ag,cg,az, -, -, -, -, -,hX⟩:=hk.Vd hm hn;have HX:=hid (fun W (d:BL w1 W)=>hX W (bO Q.out d));obtain⟨ab, -, -, -, -,uf,D,y⟩:=hk.at Jd;obtain⟨ao,co,rfl,yp, -, -⟩:=y.form;have R:=hid (fun W (d:BL w1 W)=>dx.keep y (aH.below (bO Q.out d)));have rV:=hid (fun W (d:BL w1 W)=>((bO Q.out d).cell (p:=⟨bM ak,bT ak+o*4+3,none⟩) ab).trans D);have EV:Hid (∀(j:Nat) (h:j<x.ah[o].aF.length),aC.fd x o j=x.ah[o].aF[j]):=hid (fun j h=>iX Jd h);have zM:=hid (fun(j:Nat) (hj:j<=10) (W:World) (d:BL w1 W)=>rX x o j _ S W (HV.out W d) aD aD);have vE:=hid (fun W (d:BL w1 W)=>qM x x.ah[m].aF[n].of _ S W (HV.out W d));have tr:=tC _ (eV Jd);have r:Hid (aC.mP x m o x.ah[m].aF[n].name=Nk x m o x.ah[m].aF[n].name x.ah[o].aF.length):=hid (by unfold aC.mP Nk;rw[dH Jd]);rw[ho] at vE;have aA:(0:Int)<=m:=aD
 have aB:(m:Int)<x.ah.length:=aD
 have aE:(0:Int)<=n:=aD
 have aI:(n:Int)<x.ah[m].aF.length:=aD
 have aJ:(0:Int)<=o:=aD
 have K4:(o:Int)<x.ah.length:=aD
 have aq:¬(o:Int)<=m:=aD
 have aK:decide (o<=m)=false:=decide_eq_false aD;clear hv hk hl hr hX D y ho tC;generalize x.ah[o].aF=fs at*;obtain⟨f,hf⟩:=bJ (x.ah[m].aF[n]);rw[<-hf] at HX h6 vE r ⊢;clear hf;obtain⟨T,z⟩:=bJ fs.length;have AL:=hid z;rw[<-z] at rV yp tr r R;clear z;obtain⟨t,fo,fu,fk,fl,fh,EW,EX⟩:=f;simp only at HX h6 vE r ⊢;subst h6;obtain⟨A,E,F,G⟩:=b4z (HK.out w1 aG);obtain⟨D,B,f1,f2,H,I,J,K,L⟩:=HX.out w1 aG;have HW:=hid P;clear P;obtain⟨w2,hw2⟩:=bJ (w1.alloc (.cells #[.string t,.string fo,.string fu,.int .i64 6,.int .i64 fl,.int .i64 fh,.slice aw EW.length cw,.slice ag EX.length cg] 85));have f9:Hid (Below w1.heap.size w1 w2):=hid Ii;have HF:Hid (∀W,BL w2 W->W.heap[w1.heap.size]?=some (.cells #[.string t,.string fo,.string fu,.int .i64 6,.int .i64 fl,.int .i64 fh,.slice aw EW.length cw,.slice ag EX.length cg] 85 (0,0))):=hid (fun W hW=>(hW.block _ afo).trans afm);go_enter func129,ntmps129;go_upto_region 1 with fail;rw[HW.out];clear HW;go_upto_region 2 with fail;rw[<-hw2];clear hw2 A E F G D B f1 f2 H I J K L;obtain⟨A,E,F,G⟩:=b4z (HK.out w2 f9.out);obtain⟨⟨B,f1,f2,H,I,J,K,L⟩, -⟩:=ez (HF.out w2 aG);go_wp2_with fail;refine(vE.out w2 f9.out).mono ?_;rintro e w3 ⟨rfl,d⟩;have vV:Hid (BL w2 w3):=hid d;have gT:=aR f9 d;clear d A E F G B f1 f2 H I J K L;obtain⟨A,E,F,G⟩:=b4z (HK.out w3 gT.out);obtain⟨⟨B,f1,f2,H,I,J,K,L⟩, -⟩:=ez (HF.out w3 vV.out);have D:=rV.out w3 gT.out;go_upto_region 8 with fail;clear A E F G B f1 f2 H I J K L D;go_loopw [10,12] (fun s i wr=>∃(j:Nat) (l:List Int) (v:Value),j<=T/\i=.int .i64 (j:Int)/\s=v/\l.length<=j/\Hid (l=Nk x m o t j)/\Hid (fG (fun _ _ u (x:Int)=>u=.int .i64 x) w2.heap.size 3 wr v l)/\Hid (BL w2 wr)) (fun _ i _=>T-(intOf i).toNat);case atStart=>exact⟨0,[],_,zxa _,rfl,rfl,aL,hid rfl,hid (fG.nil _ _ _ _),vV⟩
 case round=>
  obtain⟨j,l,s0,hj,rfl,rfl,aM,U,V,HR⟩:=hrel;have X:=aR f9 HR.out;by_cases ad:j<T
  ·have aN:(0:Int)<=j:=by omega
   have aO:(j:Int)<T:=aD
   have rG:j<fs.length:=by rw[<-AL.out];exact ad
   obtain⟨Nj, -,g0,g1,g2,g3,g4,g5,aP,aQ,g6,g7, -, -⟩:=dx.at (R.out wr X.out) rG;have HE:Hid (aC.fd x o j=fs[j]):=hid (EV.out j rG);have HU:=hid (zM.out j aD wr X.out);have C:Hid (¬((aC.fd x o j).kind=7/\(aC.fd x o j).of=t/\aC.eD x o j=m)->l=Nk x m o t (j+1)):=hid (fun h=>by rw[Zj h];exact U.out);have M:Hid (((aC.fd x o j).kind=7/\(aC.fd x o j).of=t/\aC.eD x o j=m)->l++[(j:Int)]=Nk x m o t (j+1)):=hid (fun h=>by rw[Rp h,U.out]);have HG:=hid (fun(q:gV wr)=>Calls.fQ (x:=q) (zM.out j aD q.1 (bO X.out q.2)));rw[HE.out] at C M;generalize fs[j]=g at*;generalize aC.eD x o j=uz at*;obtain⟨gn,go,gu,gk,gl,gh,Fw,aS⟩:=g;simp only at g0 g1 g3 C M;obtain⟨A,E,F,G⟩:=b4z (HK.out wr X.out);obtain⟨⟨B,f1,f2,H,I,J,K,L⟩, -⟩:=ez (HF.out wr HR.out);have ae:=kK wr _ A;have ai:=kK wr _ B;simp only at ae ai;have hg:=gV.cell (w:=wr);clear HE U HU rG;by_cases h7:gk=7<;>by_cases GD:go=t
   ·subst h7
    have es:=Sy GD;by_cases N:uz=m
    ·have eu:(uz==(m:Int))=true:=by simpa using N
     have aj:=hid (M.out ⟨rfl,GD,N⟩);clear C M N GD;go_wp2;refine cQ zK zK ?_;repeat (go_big_quiet_step (exact HG.out _))
     refine iU ?_;intro w4 hx;have b:=eP hx;have O:=aR HR b;have Y:=hid (fG.below jN V.out b);clear hx b hg;go_wp2_with (at_builtin;go_must (refine jO jN rfl _ _ rfl Tryz.jG rfl Y.out rfl (j:Int) rfl rfl aD O.out.size O.out aL ?_));intro v5 w5 Z jZ _;have Zq:=hid Z;have am:=hid jZ;clear Z jZ;go_wp2;go_roundw;case rel=>exact⟨j+1,_,_,aD,zG,rfl,jo,aj,Zq,am⟩
     exact zI
    ·have eu:(uz==(m:Int))=false:=by simpa using N
     have Rm:=hid (C.out fun h=>N h.2.2);clear C M N GD;go_wp2;refine cQ zK zK ?_;repeat (go_big_quiet_step (exact HG.out _))
     refine iU ?_;intro w4 hx;have b:=eP hx;have O:=aR HR b;have Y:=hid (fG.below jN V.out b);clear hx b hg;go_wp2;go_roundw;case rel=>exact⟨j+1,_,_,aD,zG,rfl,aD,Rm,Y,O⟩
     exact zI
   all_goals
    have Rm:=hid (C.out fun h=>by first|exact GD h.2.1|exact h7 h.1)
    try have e7:(gk==7)=false:=tH h7
    try subst h7
    try have es:=CK GD
    clear C M GD
    go_wp2
    refine cQ zK zK ?_
    repeat (go_big_quiet_step (fail))
    refine iU ?_
    intro w4 hx
    have b:=eP hx
    have O:=aR HR b
    have Y:=hid (fG.below jN V.out b)
    clear hx b hg
    go_wp2
    go_roundw
    case rel=>exact⟨j+1,_,_,aD,zG,rfl,aD,Rm,Y,O⟩
    exact zI
  ·have aa:l.length=(aC.mP x m o t).length:=by
    rw[r.out,U.out,show j=T by omega]
   obtain⟨a,c,an, -, -, -⟩:=(V.out.sl jN).form;subst an;have E9:=aR Q X.out;have ap:=hid aa;clear aa U V;go_wp2;refine bodyPost_ret (results_tmp2 rfl _ _ _) rfl ?_;exact⟨a,c,by rw[<-ap.out];rfl,E9.out⟩
theorem jC(w:World)(x:aC.cE)(v:Value)(S:Nat->Prop)(k:dO S w v x):∃a d b e c f w1,v=.agg (sBx x a b c d e f)/\
  w.alloc (.cells (sBx x a b c d e f) 27)=w1/\Hid (BL w w1)/\Hid (∀W,BL w1 W->W.heap[w.heap.size]?=some (.cells (sBx x a b c d e f) 27 (0,0)))/\w.heap.size<w1.heap.size/\
  Hid (∀W,BL w1 W->dO S W (.agg (sBx x a b c d e f)) x)/\
  dV a x.ah.length/\dV b x.aV.length/\dV c x.aX.length/\iC S w (.slice a x.ah.length d) x.ah/\o6 S w (.slice b x.aV.length e) x.aV/\qI S w (.slice c x.aX.length f) x.aX:=by
 obtain⟨a,d,b,e,c,f,rfl,m,n,o,g,h,i⟩:=k.form;obtain⟨w1,j,l,p,q⟩:=boxed w (sBx x a b c d e f) 27;exact⟨a,d,b,e,c,f,w1,rfl,j,l,p,q,hid (fun W r=>k.keep (aH.below (bO l.out r))),g,h,i,m,n,o⟩
theorem Qb{w:World}{g:Nat}{c d e f i j l m k:Value}{a:Array Value}(h:w.heap[g]?=some (.cells #[c,d,e,f,i,j,l,m] 85 (0,0)))(n:a[6]?=some k)(o:a[7]?=some (.pointer (some ⟨g,0,none⟩))):
  (results Tryz.f172 a).run prog w=.ok (.tuple #[k,.agg #[c,d,e,f,i,j,l,m]]) w:=by
 obtain⟨⟨p,q,r,s,t,u,b,v⟩, -⟩:=ez h;simp[results,results172,go_sem,o,n,p,q,r,s,t,u,b,v]
theorem Qc(x:aC.cE)(m n u t:Nat)(hm:m<x.ah.length)(hn:n<x.ah[m].aF.length)(R:aC.eD x m n=(u:Int))(T:u<x.ah.length)(U:aC.bV x.ah[u] x.ah[m].aF[n].of=(t:Int))(G:t<x.ah[u].aF.length)(DC:x.ah.length<=6)(tC:x.ah[m].aF.length<=10)(v:Value)(S:Nat->Prop)(w:World)(V:dO S w v x):
  CP 172 #[v,.int .i64 (m:Int),.int .i64 (n:Int)] w fun e w'=>∃a1 n1 c1 a2 n2 c2,e=.returned (.tuple #[.int .i64 x.ah[u].aF[t].kind,.agg (dh x.ah[u].aF[t] (.slice a1 n1 c1) (.slice a2 n2 c2)).toArray])/\BL w w':=by
 obtain⟨c,ck,al,cl,ar,cr,w1,rfl,d,g,H,hz,HV,aa,ad,ae,I,hl,hr⟩:=jC w x v S V;obtain⟨af,cf,aw,cw,ag,cg,ai, -, -, -, -, -,X⟩:=I.Vd hm hn;obtain⟨au,cu,Cv,Nt,J,K,aj, -, -, -, -, -,L⟩:=I.Vd T G;obtain⟨M, -,h,z,A,uf,b3,C⟩:=I.at T;obtain⟨ab,cb,rfl, -, -, -⟩:=C.form;have i:Value.slice ab x.ah[u].aF.length cb=.slice au x.ah[u].aF.length cu:=oO (b3.symm.trans (L w aG).1);rw[i] at b3 C;have gX:=hid (fun W (a:BL w1 W)=>have hw:=bO g.out a;have k (o:Nat):W.cell? ⟨bM c,o,none⟩=w.cell? ⟨bM c,o,none⟩:=hw.cell (p:=⟨bM c,o,none⟩) M;(⟨(k _).trans h,(k _).trans z,(k _).trans A⟩:W.cell? ⟨bM c,bT c+u*4,none⟩=some (.string x.ah[u].name)/\W.cell? ⟨bM c,bT c+u*4+1,none⟩=some (.int .i64 x.ah[u].lo)/\W.cell? ⟨bM c,bT c+u*4+2,none⟩=some (.int .i64 x.ah[u].hi)));have HX:=hid (fun W (a:BL w1 W)=>X W (bO g.out a));have Y:=hid (fun W (a:BL w1 W)=>L W (bO g.out a));have Z:=hid (fun W (a:BL w1 W)=>rX x m n _ S W (HV.out W a) aD aD);have j:=hid (fun W (a:BL w1 W)=>o8 x.ah[u] x.ah[m].aF[n].of _ S W (dx.keep C (aH.below (bO g.out a))) _ rfl);rw[R] at Z;rw[U] at j;have am:(0:Int)<=m:=aD
 have an:(m:Int)<x.ah.length:=aD
 have ao:(0:Int)<=n:=aD
 have ap:(n:Int)<x.ah[m].aF.length:=aD
 have aq:(0:Int)<=u:=aD
 have av:(u:Int)<x.ah.length:=aD
 have ax:(0:Int)<=t:=aD
 have ay:(t:Int)<x.ah[u].aF.length:=aD
 have og:¬(u:Int)<0:=aD
 have az:¬(t:Int)<0:=aD
 clear V X L h z A b3 C i R U DC tC;obtain⟨w2,hw2⟩:=bJ (w1.alloc (.cells #[.string ⟨#[]⟩,.string ⟨#[]⟩,.string ⟨#[]⟩,.int .i64 0,.int .i64 0,.int .i64 0,.slice none 0 0,.slice none 0 0] 85));have N:Hid (Below w1.heap.size w1 w2):=hid Ii;have O:Hid (∀W,BL w2 W->W.heap[w1.heap.size]?=some (.cells #[.string ⟨#[]⟩,.string ⟨#[]⟩,.string ⟨#[]⟩,.int .i64 0,.int .i64 0,.int .i64 0,.slice none 0 0,.slice none 0 0] 85 (0,0))):=hid (fun W hW=>(hW.block _ afo).trans afm);rw[show w1.heap.size=w.heap.size+1 by rw[<-d];simp] at O;obtain⟨l,D,E,F⟩:=b4z (H.out w2 N.out);have HW:=hid d;clear d;go_enter func172,ntmps172;go_upto_region 1 with fail;rw[HW.out];clear HW;rw[<-hw2];clear hw2;go_wp2_with fail;refine(Z.out w2 N.out).mono ?_;rintro e w3 ⟨rfl,a⟩;have vV:Hid (BL w2 w3):=hid a;have gT:=aR N a;clear a l D E F;obtain⟨l,D,E,F⟩:=b4z (H.out w3 gT.out);obtain⟨k3,f0,f1,f2,f3,f4,f5,f6,f7⟩:=HX.out w3 gT.out;obtain⟨q3, -⟩:=Y.out w3 gT.out;obtain⟨h,z,A⟩:=gX.out w3 gT.out;have hg:=gV.cell (w:=w3);have r:=kK w3 _ l;have s:=kK w3 _ f0;have vW:=kK w3 _ h;simp only at r s vW;have P:=hid (fun(q:gV w3)=>Calls.fQ (x:=q) (j.out q.1 (bO gT.out q.2)));simp only[kH] at P;go_upto_region 4 with fail;refine cQ zK zK ?_;repeat (go_big_quiet_step (exact P.out _))
 refine iU ?_;intro w4 hx;have f:=eP hx;have DM:=aR vV f;have Q:=aR gT f;clear hx f hg P l D E F k3 f0 f1 f2 f3 f4 f5 f6 f7 q3 h z A r s vW;obtain⟨l,D,E,F⟩:=b4z (H.out w4 Q.out);obtain⟨q3,g0,g1,g2,g3,g4,g5,g6,g7⟩:=Y.out w4 Q.out;obtain⟨⟨z0,z1,z2,z3,z4,z5,z6,z7⟩,zz⟩:=ez (O.out w4 DM.out);have nM:=hid (Kq (W:=w4.drewN 1) (O.out w4 DM.out) (.string x.ah[u].aF[t].name) (.string x.ah[u].aF[t].of) (.string x.ah[u].aF[t].up) (.int .i64 x.ah[u].aF[t].kind) (.int .i64 x.ah[u].aF[t].lo) (.int .i64 x.ah[u].aF[t].hi) (.slice Cv x.ah[u].aF[t].cV.length Nt) (.slice J x.ah[u].aF[t].bY.length K));go_upto_region 7 with fail;refine fB 20 nK zK ?_;simp only[List.take_succ_cons,List.take_zero,jW,jH];repeat (go_big_quiet_step (fail))
 refine iU ?_;go_wp2;refine bodyPost_ret (Qb nM.out.1 rfl rfl) rfl ⟨_,_,_,_,_,_,rfl,?_⟩;have y:BL w w4:=bO g.out Q.out;exact y.trans ((Turns.bg (S:=fun b=>b=w.heap.size+1) (aJ (Below.refl w4.heap.size w4) 1)|>.trans nM.out.2).below (B:=w.heap.size) y.size (fun b a=>by rw[a];exact Nat.le_succ _))
theorem Vf{x:aC.cE}{i j:Int}{f:aC.dA}(h:aC.zW x i j f≠none):∃u t:Nat,aC.eD x i j=(u:Int)/\∃a:u<x.ah.length,aC.bV x.ah[u] f.of=(t:Int)/\∃b:t<x.ah[u].aF.length,aC.pS x i j f=x.ah[u].aF[t]:=by
 unfold aC.pS;unfold aC.zW at*;split at h
 ·exact absurd rfl h
 ·rename_i g
  split at h
  ·rename_i e
   obtain⟨u,t,c,d,a,b⟩:=yK e;rw[c,dH a] at d;refine⟨u,t,c,a,d,b,?_⟩;rw[if_neg g,if_pos e,c,dH a,d,iX a b];rfl
  ·exact absurd rfl h
theorem aaO{x:aC.cE}{m n:Nat}(i:m<x.ah.length)(j:n<x.ah[m].aF.length)(c:aC.mC x m n=0)(a:x.ah[m].aF[n].kind=7\/x.ah[m].aF[n].kind=8):
 ∃u t:Nat,aC.eD x m n=(u:Int)/\∃d:u<x.ah.length,aC.bV x.ah[u] x.ah[m].aF[n].of=(t:Int)/\∃e:t<x.ah[u].aF.length,
  (x.ah[m].aF[n].kind=7/\x.ah[u].aF[t].kind=6/\aC.dc x x.ah[u].aF[t].of=(m:Int)\/
   x.ah[m].aF[n].kind=8/\(x.ah[u].aF[t].kind=2\/x.ah[u].aF[t].kind=3\/x.ah[u].aF[t].kind=4\/x.ah[u].aF[t].kind=5\/x.ah[u].aF[t].kind=8)):=by
 unfold aC.mC at c;simp only[iX i j] at c;rcases a with a|a
 all_goals
  simp[a] at c
  split at c
  ·omega
  split at c
  ·omega
  rename_i h
  rw[not_or] at h
  obtain⟨k,b⟩:=h
  obtain⟨u,t,f,d,g,e,l⟩:=Vf k
  rw[l] at b
 ·rw[not_or,Decidable.not_not,Decidable.not_not] at b
  exact⟨u,t,f,d,g,e,.inl ⟨a,b⟩⟩
 ·exact⟨u,t,f,d,g,e,.inr ⟨a,by first|exact Decidable.not_not.1 b|(simp only[<-not_or] at b;exact Decidable.not_not.1 b)|omega⟩⟩
theorem Qd(x:aC.cE)(m n:Nat)(k:m<x.ah.length)(l:n<x.ah[m].aF.length)(z:aC.mC x m n=0)(o:x.ah[m].aF[n].kind=7\/x.ah[m].aF[n].kind=8)(A:x.ah.length<=6)(B:x.ah[m].aF.length<=10)(v:Value)(S:Nat->Prop)(w:World)(C:dO S w v x):
 CB 130 #[v,.int .i64 (m:Int),.int .i64 (n:Int),.int .i64 (aC.eD x m n)] w (.int .i64 0):=by
 obtain⟨u,t,p,V,D,q,r⟩:=aaO k l z o;rw[p];obtain⟨ak,ck,al,cl,ar,cr,w1,rfl,c,s,E,hz,F,X,Y,Z,d,hl,hr⟩:=jC w x v S C;obtain⟨af,cf,aw,cw,ag,cg,aa, -, -, -, -, -,G⟩:=d.Vd k l;have HX:=hid (fun W (a:BL w1 W)=>G W (bO s.out a));have H:=hid (Qc x m n u t k l p V D q A B _ S w1 (F.out w1 aG));have y:=hid (fun W (a:BL w1 W)=>qM x x.ah[u].aF[t].of _ S W (F.out W a));have ab:(0:Int)<=m:=aD
 have ad:(m:Int)<x.ah.length:=aD
 have ae:(0:Int)<=n:=aD
 have ai:(n:Int)<x.ah[m].aF.length:=aD
 have og:¬(u:Int)<0:=aD
 clear C G d hl hr p D A B z;generalize x.ah[u].aF[t]=g at*;generalize x.ah[m].aF[n]=f at*;obtain⟨I,go,J,gk,K,L,Fw,aj⟩:=g;obtain⟨fn,fo,fu,fk,fl,fh,EW,EX⟩:=f;simp only[dh] at H HX y r o;have j:=hid r;clear r;obtain⟨M,N,O,P⟩:=b4z (E.out w1 aG);have Q:=hid c;clear c;go_enter func130,ntmps130;go_upto_region 1 with fail;rw[Q.out];clear Q;go_wp2_with fail;refine H.out.mono ?_;rintro e w2 ⟨a1,R,c1,T,U,c2,rfl,a⟩;have f9:Hid (BL w1 w2):=hid a;clear a M N O P;obtain⟨w3,hw3⟩:=bJ (w2.alloc (.cells #[.string I,.string go,.string J,.int .i64 gk,.int .i64 K,.int .i64 L,.slice a1 R c1,.slice T U c2] 85));have gT:Hid (Below w1.heap.size w1 w3):=hid zR;have i:w3.heap[w2.heap.size]?=some (.cells #[.string I,.string go,.string J,.int .i64 gk,.int .i64 K,.int .i64 L,.slice a1 R c1,.slice T U c2] 85 (0,0)):=ahS
 obtain⟨M,N,O,P⟩:=b4z (E.out w3 gT.out);obtain⟨k3,f0,f1,f2,f3,f4,f5,f6,f7⟩:=HX.out w3 gT.out;obtain⟨⟨z0,z1,z2,z3,z4,z5,z6,z7⟩, -⟩:=ez i;go_upto_region 4 with fail;rw[<-hw3];clear hw3 i;rcases o with rfl|rfl
 ·obtain⟨rfl,b⟩:gk=6/\aC.dc x go=(m:Int):=by
   rcases j.out with h|h
   ·exact h.2
   ·exact absurd h.1 aD
  rw[b] at y;clear b j;go_wp2_with fail;refine(y.out w3 gT.out).mono ?_;rintro e w4 ⟨rfl,a⟩;have E9:=hid (bO s.out (bO gT.out a));clear a;exact amD
 ·have b:gk=2\/gk=3\/gk=4\/gk=5\/gk=8:=by
   rcases j.out with h|h
   ·exact absurd h.1 aD
   ·exact h.2
  have E9:=aR s gT.out;clear j;rcases b with rfl|rfl|rfl|rfl|rfl<;>(go_wp2;go_ret;exact⟨rfl,E9.out⟩)
theorem aaP{x:aC.cE}{m n:Nat}(b:m<x.ah.length)(f:n<x.ah[m].aF.length)(a:aC.mC x m n=0)(g:x.ah[m].aF[n].kind=4)(h:¬x.ah[m].aF[n].of=aC.nil):
  ∃t:Nat,∃c:t<x.ah[m].aF.length,aC.bV x.ah[m] x.ah[m].aF[n].of=(t:Int)/\t<n/\x.ah[m].aF[t].kind=4:=by
 unfold aC.mC at a;simp only[iX b f,dH b] at a;simp[g,h] at a;obtain⟨i,j,d⟩:=a;obtain⟨t,c⟩:∃t:Nat,aC.bV x.ah[m] x.ah[m].aF[n].of=(t:Int):=⟨_,(Int.toNat_of_nonneg i).symm⟩;rw[c] at j d;have e:t<n:=aD
 rw[iX b (show t<x.ah[m].aF.length by omega)] at d;exact⟨t,aD,c,e,d⟩
theorem aaQ{x:aC.cE}{m n:Nat}(c:m<x.ah.length)(d:n<x.ah[m].aF.length)(a:aC.mC x m n=0)(e:x.ah[m].aF[n].kind=6):
  ∃o:Nat,aC.dc x x.ah[m].aF[n].of=(o:Int)/\m<o/\(aC.mP x m o x.ah[m].aF[n].name).length=1:=by
 unfold aC.mC at a;simp only[iX c d] at a;simp[e,aC.jQ,aC.jR] at a;by_cases h:(m:Int)<aC.dc x x.ah[m].aF[n].of
 ·have f:0<=aC.dc x x.ah[m].aF[n].of:=by omega
  obtain⟨o,b⟩:∃o:Nat,aC.dc x x.ah[m].aF[n].of=(o:Int):=⟨_,(Int.toNat_of_nonneg f).symm⟩;rw[b] at a h;simp[h] at a;refine⟨o,b,aD,?_⟩;by_cases g:(o:Int)<0
  ·omega
  ·simpa [g] using a
 ·simp[h] at a
theorem Vg{x:aC.cE}{m n:Nat}(c:m<x.ah.length)(d:n<x.ah[m].aF.length)(a:aC.mC x m n=0):
  (x.ah[m].aF[n].kind=0->n=0)/\(x.ah[m].aF[n].kind=1->0<=aC.eD x m n)/\(x.ah[m].aF[n].kind=5->aC.FZ x x.ah[m].aF[n].of=true):=by
 unfold aC.mC at a;simp only[iX c d] at a;refine⟨fun b=>?_,fun b=>?_,fun b=>?_⟩
 ·simp[b] at a;omega
 ·simp[b] at a;omega
 ·simp[b] at a;exact a
theorem Qe(x:aC.cE)(m n:Nat)(s:m<x.ah.length)(T:n<x.ah[m].aF.length)(V:aC.mC x m n=0)(H:0<=x.ah[m].aF[n].kind)(I:x.ah[m].aF[n].kind<9)(DC:x.ah.length<=6)(tC:∀k∈x.ah,k.aF.length<=10)(ay:x.aV.length<=6)(v:Value)(S:Nat->Prop)(w:World)(hv:dO S w v x):
  CB 81 #[v,.int .i64 (m:Int),.int .i64 (n:Int)] w (.int .i64 0):=by
 obtain⟨ak,ck,al,cl,ar,cr,w1,rfl,X,J,Y,hz,HV,az,aA,aB,u,Z,hr⟩:=jC w x v S hv;obtain⟨af,cf,aw,cw,ag,cg,aE, -, -,aa, -, -,hX⟩:=u.Vd s T;have HX:=hid (fun W (b:BL w1 W)=>hX W (bO J.out b));have aq:=hid (fun W (b:BL w1 W)=>dx.keep aa (aH.below (bO J.out b)));have au:=hid (fun W (b:BL w1 W)=>iC.keep u (aH.below (bO J.out b)));have Zm:=hid (fun W (b:BL w1 W)=>fC.keep dG Z (aH.below (bO J.out b)));have av:=tC _ (eV s);have zM:=hid (fun W (b:BL w1 W)=>rX x m n _ S W (HV.out W b) aD aD);have K:=hid (fun W (b:BL w1 W)=>o8 x.ah[m] x.ah[m].aF[n].of _ S W (aq.out W b) _ rfl);have Wv:=hid (fun hk (W:World) (b:BL w1 W)=>Qd x m n s T V hk DC av _ S W (HV.out W b));have y:=hid (fun h6 o B L (W:World) (b:BL w1 W)=>Ve x m n o s T h6 B L DC tC _ S W (HV.out W b));obtain⟨ab,ad,ae⟩:=Vg s T V;have M:=hid ab;have N:=hid ad;have O:=hid ae;have d:=hid (fun hk B=>aaP s T V hk B);have z:=hid (fun hk=>aaQ s T V hk);have HT:=hid (fun(t:Nat) (ht:t<x.ah[m].aF.length)=>u.Vd s ht);have aI:(0:Int)<=m:=aD
 have aK:(m:Int)<x.ah.length:=aD
 have aM:(0:Int)<=n:=aD
 have aN:(n:Int)<x.ah[m].aF.length:=aD
 clear hv hX u Z hr tC V ab ad ae aa;generalize aC.eD x m n=uz at*;obtain⟨f,hf⟩:=bJ (x.ah[m].aF[n]);rw[<-hf] at HX H I K Wv y M N O d z;clear hf;obtain⟨fn,fo,fu,fk,fl,fh,EW,EX⟩:=f;simp only at HX H I K Wv y M N O d z;obtain⟨g,l,p,r⟩:=b4z (Y.out w1 aG);obtain⟨k3,A,f1,f2,C,D,E,F,G⟩:=HX.out w1 aG;obtain⟨w2,hw2⟩:=bJ (w1.alloc (.cells #[.string fn,.string fo,.string fu,.int .i64 fk,.int .i64 fl,.int .i64 fh,.slice aw EW.length cw,.slice ag EX.length cg] 85));have f9:Hid (Below w1.heap.size w1 w2):=hid Ii;have HF:Hid (∀W,BL w2 W->W.heap[w1.heap.size]?=some (.cells #[.string fn,.string fo,.string fu,.int .i64 fk,.int .i64 fl,.int .i64 fh,.slice aw EW.length cw,.slice ag EX.length cg] 85 (0,0))):=hid (fun W hW=>(hW.block _ afo).trans afm);have HW:=hid X;clear X;go_enter func81,ntmps81;go_upto_region 1 with fail;rw[HW.out];clear HW;go_upto_region 2 with fail;rw[<-hw2];clear hw2 g l p r k3 A f1 f2 C D E F G;obtain⟨g,l,p,r⟩:=b4z (Y.out w2 f9.out);go_wp2_with fail;refine(zM.out w2 f9.out).mono ?_;rintro e w3 ⟨rfl,b⟩;have vV:Hid (BL w2 w3):=hid b;have gT:=aR f9 b;have cN:=aR J gT.out;clear b g l p r;obtain⟨g,l,p,r⟩:=b4z (Y.out w3 gT.out);obtain⟨⟨A,f1,f2,C,D,E,F,G⟩, -⟩:=ez (HF.out w3 vV.out);rcases nine H I with rfl|rfl|rfl|rfl|rfl|rfl|rfl|rfl|rfl
 case inl=>
  obtain rfl:=M.out bH;exact adz
 case inr.inl=>
  have hu:=N.out bH;exact adz
 case inr.inr.inl=>
  exact adz
 case inr.inr.inr.inl=>
  exact adz
 case inr.inr.inr.inr.inl=>
  obtain⟨-, -,b0,b1,b2,uf,b3,FR⟩:=(au.out w3 gT.out).at s;obtain⟨k3, -⟩:=HX.out w3 gT.out;obtain rfl:uf=.slice af x.ah[m].aF.length cf:=oO (b3.symm.trans k3);have hg:=gV.cell (w:=w3);have ai:=kK w3 _ g;have aj:=kK w3 _ A;have vW:=kK w3 _ b0;simp only at ai aj vW;have HG:=hid (fun(q:gV w3)=>Calls.fQ (x:=q) (K.out q.1 (bO gT.out q.2)));simp only[kH] at HG;clear FR k3;go_upto_region 15 with fail;refine cQ zK zK ?_;repeat (go_big_quiet_step (exact HG.out _))
  refine iU ?_;intro w4 hx;have P:=eP hx;have DM:=aR vV P;have U:=aR gT P;have gX:=aR J U.out;clear hx P hg HG g l p r b0 b1 b2 b3 A f1 f2 C D E F G ai aj vW;obtain⟨⟨A,f1,f2,C,D,E,F,G⟩, -⟩:=ez (HF.out w4 DM.out);by_cases B:fo=aC.nil
  ·subst B
   simp only[aC.nil] at f1;clear d;exact aeQ
  ·obtain⟨t,ht,e1,aO,e4⟩:=d.out bH B
   rw[e1];obtain⟨aP,aQ,Cv,Nt,aS,aT,aU, -, -, -, -, -,hT⟩:=HT.out t ht;obtain⟨q3,g0,g1,g2,g3,g4,g5,g6,g7⟩:=hT w4 gX.out;rw[e4] at g3;have aW:=nZ B;have aX:(0:Int)<=t:=aD
   have aY:(t:Int)<x.ah[m].aF.length:=aD
   have aZ:¬(t:Int)<0:=aD
   have a0:¬(n:Int)<=t:=aD
   obtain⟨g,l,p,r⟩:=b4z (Y.out w4 U.out);clear d B e1 e4 hT;exact aeQ
 case inr.inr.inr.inr.inr.inl=>
  have Q:=O.out bH;unfold aC.FZ at Q;obtain⟨lf,am,an⟩:=List.any_eq_true.1 Q;obtain⟨q,hq,rfl⟩:=zxf am;have HQ:=hid (of_decide_eq_true an);have U:=hid (fun mm=>gT.out.trans ((aJ (Below.refl w3.heap.size w3) mm).mono gT.out.size));have DM:=hid (fun mm=>vV.out.trans ((aJ (Below.refl w3.heap.size w3) mm).mono vV.out.size));have a1:(x.aV.length:Int)<=6:=aD
  clear Q am an;go_upto_region 24 with fail;clear g l p r A f1 f2 C D E F G;go_loopw [10] (fun i wr=>∃j:Nat,j<=q/\i=.int .i64 (j:Int)/\Hid (∃mm,wr=w3.drewN mm)) (fun i _=>x.aV.length-(intOf i).toNat);case atStart=>exact⟨0,aD,rfl,hid ⟨0,rfl⟩⟩
  case round=>
   obtain⟨j,hj,rfl,HR⟩:=hrel;obtain⟨mm,R⟩:=HR.out;obtain⟨g,l,p,r⟩:=b4z (Y.out _ (U.out mm));obtain⟨⟨A,f1,f2,C,D,E,F,G⟩, -⟩:=ez (HF.out _ (DM.out mm));have ax:j<x.aV.length:=aD
   obtain⟨-, -,l0, -⟩:=o6.at (Zm.out _ (U.out mm)) ax;have E9:=hid (bO J.out (U.out mm));rw[<-R] at g l p r A f1 f2 C D E F G l0 E9;have a2:(0:Int)<=j:=aD
   have a3:(j:Int)<x.aV.length:=aD
   have HWR:=hid R
   have HJ:Hid (¬x.aV[j].name=fo->j<q):=hid (fun h=>by
    rcases Nat.lt_or_ge j q with h1|h1
    ·exact h1
    ·obtain rfl:j=q:=by omega
     exact absurd HQ.out h)
   clear R;by_cases he:x.aV[j].name=fo
   ·have es:=Sy he
    generalize x.aV[j].name=ln at*;clear he;go_wp2;go_quiet (fail);have ao:=hid (E9.out.trans ((aJ (Below.refl wr.heap.size wr) nq).mono E9.out.size));go_wp2;go_ret;exact⟨rfl,ao.out⟩
   ·have es:=CK he
    have a4:=HJ.out he;generalize x.aV[j].name=ln at*;clear he;go_wp2;go_quiet (fail);have jm:Hid (∃mm,wr.drewN nq=w3.drewN mm):=hid Qy;exact aen
 case inr.inr.inr.inr.inr.inr.inl=>
  obtain⟨o,e1,L,ap⟩:=z.out bH;go_wp2_with fail;refine(y.out bH o e1 L w3 gT.out).mono ?_;rintro e w4 ⟨a,c,rfl,b⟩;have gX:=aR cN b;have a5:¬(o:Int)<0:=aD
  rw[ap];clear b g l p r A f1 f2 C D E F G z y e1;exact aeQ
 all_goals
  go_wp2_with fail
  refine(Wv.out bH w3 gT.out).mono ?_
  rintro e w4 ⟨rfl,b⟩
  have gX:=aR cN b
  clear b
  go_wp2
  go_ret
  exact⟨rfl,gX.out⟩
theorem MS{x:aC.cE}{i:Nat}(z:i<x.aX.length)(c:aC.tN x i=0):
  (∀j (A:j<i),x.aX[j].name≠x.aX[i].name)/\x.aX[i].a≠x.aX[i].b/\∃k:Nat,∃d:k<x.ah.length,aC.dc x x.aX[i].kind=(k:Int)/\
   ∀s,s=x.aX[i].a\/s=x.aX[i].b->s=aC.nil\/∃t:Nat,∃p:t<x.ah[k].aF.length,aC.bV x.ah[k] s=(t:Int)/\(x.ah[k].aF[t].kind=2\/x.ah[k].aF[t].kind=4):=by
 have B:aC.rl x i=x.aX[i]:=by unfold aC.rl;rw[iY,lN z];rfl
 unfold aC.tN at c;simp only[B] at c;split at c
 ·omega
 rename_i C;split at c
 ·omega
 rename_i g;split at c
 ·omega
 rename_i l;split at c
 ·omega
 rename_i D;simp only[not_or,Bool.not_eq_true] at g l;refine⟨fun j A e=>C ?_,D,?_⟩
 ·rw[List.any_eq_true]
  have q:j<(x.aX.take i).length:=Qt
  exact⟨(x.aX.take i)[j],eV q,by rw[List.getElem_take];exact decide_eq_true e⟩
 ·obtain⟨k,d⟩:∃k:Nat,aC.dc x x.aX[i].kind=(k:Int):=⟨_,(Int.toNat_of_nonneg (Int.not_lt.1 g.1)).symm⟩
  have r:k<x.ah.length:=by
   rcases kS (fun f:aC.fT=>decide (f.name=x.aX[i].kind)) x.ah with h|h
   ·unfold aC.dc at d;omega
   ·unfold aC.dc at d;omega
  refine⟨k,r,d,fun s E=>?_⟩;by_cases w:s=aC.nil
  ·exact .inl w
  ·rw[d] at g l
   have n:(aC.sO x k s).1=false/\(aC.sO x k s).2=false:=by
    rcases E with rfl|rfl
    ·exact⟨g.2.1,l.1⟩
    ·exact⟨g.2.2,l.2⟩
   unfold aC.sO at n;rw[if_neg (by rintro (h|h);exact w h;omega)] at n;simp only[Bool.not_eq_false'] at n;obtain⟨y,o⟩:=n;obtain⟨m,t,F,u,v,p⟩:=yK y;obtain rfl:m=k:=aD
   rw[if_pos y,dH v] at o;rw[dH v] at u;rw[u,iX v p] at o;refine .inr ⟨t,p,u,?_⟩;simp only[Bool.and_eq_false_iff,decide_eq_false_iff_not,Decidable.not_not] at o;exact o
theorem MT(v a b c:Value)(w:World):CP 79 #[v,a,b,c,.int .i64 0] w fun e d=>e=.returned v/\w=d:=by
 go_enter func79,ntmps79;exact Ez
theorem Qf(fs:List aC.dA)(h0:0<fs.length)(h:fs[0].kind=0)(v:Value)(S:Nat->Prop)(w:World)(b:dx S w v fs):CP 80 #[v] w fun e f=>e=.returned (.bool true)/\w=f:=by
 obtain⟨a,c,rfl,g, -, -⟩:=b.form;obtain⟨-, -, -, -, -,d, -⟩:=b.at h0;have i:(0:Int)<fs.length:=aD
 have hd:¬fs.length=0:=aD
 rw[h] at d;simp only[Nat.zero_mul,Nat.add_zero] at d;clear h;go_enter func80,ntmps80;exact Ez
theorem ane{p:Prop}(h:p:=by
  go_wp2
  go_roundw
  case rel=>exact⟨q+1,aD,zG,rfl,HR⟩
  exact zI):p:=h
theorem Qg(x:aC.cE)(i:Nat)(hi:i<x.aX.length)(hE:aC.tN x i=0)(DC:x.ah.length<=6)(tC:∀k∈x.ah,k.aF.length<=10)(an:x.aX.length<=16)(v:Value)(S:Nat->Prop)(w:World)(hv:dO S w v x):
  CB 82 #[v,.int .i64 (i:Int)] w (.int .i64 0):=by
 obtain⟨C,n,k,hk,D,hs⟩:=MS hi hE;obtain⟨ak,ck,al,cl,ar,cr,w1,rfl,E,U,F,hz,HV,ao,ap,aq,o,V,qC⟩:=jC w x v S hv;have X:=hid (fun W (c:BL w1 W)=>iC.keep o (aH.below (bO U.out c)));have G:=hid (fun W (c:BL w1 W)=>fC.keep fO qC (aH.below (bO U.out c)));have O:=hid (fun W (c:BL w1 W)=>qM x x.aX[i].kind _ S W (HV.out W c));rw[D] at O;have Y:=hid hs;have Yk:=hid C;have HT:=hid (fun(t:Nat) (Z:t<x.ah[k].aF.length)=>o.Vd hk Z);have au:(0:Int)<=i:=aD
 have av:(i:Int)<x.aX.length:=aD
 have aw:(0:Int)<=k:=aD
 have ax:(k:Int)<x.ah.length:=aD
 have ay:¬(k:Int)<0:=aD
 obtain⟨-, -,r0,r1,r2,r3,r4⟩:=qI.at (G.out w1 aG) hi;clear hv o V qC tC hE D hs C;obtain⟨r,hr⟩:=bJ (x.aX[i]);rw[<-hr] at r0 r1 r2 r3 r4 O Y n;have aa:=hid hr;clear hr;obtain⟨rn,rk,A,B,rN⟩:=r;simp only at r0 r1 r2 r3 r4 O Y n;obtain⟨d,f,g,h⟩:=b4z (F.out w1 aG);obtain⟨w2,hw2⟩:=bJ (w1.alloc (.cells #[.string rn,.string rk,.string A,.string B,.int .i64 rN] 61));have f9:Hid (Below w1.heap.size w1 w2):=hid Ii;have HF:Hid (∀W,BL w2 W->W.heap[w1.heap.size]?=some (.cells #[.string rn,.string rk,.string A,.string B,.int .i64 rN] 61 (0,0))):=hid (fun W hW=>(hW.block _ afo).trans afm);have vV:=hid (fun mm=>aJ (Below.refl w2.heap.size w2) mm);have gT:=hid (fun mm=>bO f9.out (vV.out mm));have HW:=hid E;clear E;go_enter func82,ntmps82;go_upto_region 1 with fail;rw[HW.out];clear HW;go_upto_region 3 with fail;rw[<-hw2];clear hw2 d f g h r0 r1 r2 r3 r4;go_loopw [6] (fun q wr=>∃j:Nat,j<=i/\q=.int .i64 (j:Int)/\Hid (∃mm,wr=w2.drewN mm)) (fun q _=>i-(intOf q).toNat);case atStart=>exact⟨0,aD,rfl,hid ⟨0,rfl⟩⟩
 case round=>
  obtain⟨j,hj,rfl,HR⟩:=hrel;obtain⟨mm,a⟩:=HR.out;obtain⟨d,f,g,h⟩:=b4z (F.out _ (gT.out mm));obtain⟨⟨m,f1,f2,u,y⟩, -⟩:=nO (HF.out _ (vV.out mm));by_cases H:j<i
  ·have ab:j<x.aX.length:=by omega
   obtain⟨-, -,l0, -⟩:=qI.at (G.out _ (gT.out mm)) ab;rw[<-a] at d f g h m f1 f2 u y l0;have az:(0:Int)<=j:=aD
   have aA:(j:Int)<x.aX.length:=aD
   have aB:(j:Int)<i:=aD
   have es:=CK (Yk.out j H);rw[<-aa.out] at es;simp only at es;have HWR:=hid a;clear a;generalize x.aX[j].name=ln at*;go_wp2;go_quiet (fail);have jm:Hid (∃mm,wr.drewN nq=w2.drewN mm):=hid Qy;exact aen
  ·obtain rfl:j=i:=by omega
   have DM:Hid (Below w2.heap.size w2 wr):=hid (by rw[a];exact vV.out mm);rw[<-a] at d f g h m f1 f2 u y;have kJ:=aR f9 DM.out;clear a;generalize wr=w3 at*;go_wp2_with fail;refine(O.out w3 kJ.out).mono ?_;rintro e w4 ⟨rfl,c⟩;have I:=aR DM c;have kY:=aR kJ c;clear c d f g h m f1 f2 u y kJ DM HR;obtain⟨d,f,g,h⟩:=b4z (F.out _ kY.out);obtain⟨⟨m,f1,f2,u,y⟩, -⟩:=nO (HF.out _ I.out);obtain⟨w5,J⟩:=bJ (w4.alloc (.cells #[.string A,.string B] 9));have jZ:BL w4 w5:=by rw[J];exact aG.alloc aL _
   have BW:=aR kY jZ;have ad:=aR I jZ;have HC:Hid (∀W,BL w5 W->W.heap[w4.heap.size]?=some (.cells #[.string A,.string B] 9 (0,0))):=hid (fun W hW=>(hW.block _ (by rw[J];simp)).trans (by rw[J];exact bD w4 _ rfl));go_upto_region 13 with fail;rw[<-J];clear J jZ d f g h m f1 f2 u y;go_loopw [9,10,11,12] (fun b q _ _ wr=>∃j:Nat,j<=2/\q=.int .i64 (j:Int)/\b=.bool false/\Hid (BL w5 wr)) (fun _ q _ _ _=>2-(intOf q).toNat);case atStart=>exact⟨0,aD,rfl,rfl,hid aG⟩
   case round=>
    obtain⟨q,hq,rfl,rfl,HR⟩:=hrel;have P:=aR BW HR.out;have ae:=aR ad HR.out;have jb:=aR U P.out;obtain⟨d,f,g,h⟩:=b4z (F.out _ P.out);obtain⟨⟨m,f1,f2,u,y⟩, -⟩:=nO (HF.out _ ae.out);have Q:=HC.out wr HR.out;by_cases H:q<2
    ·obtain⟨s,z,K⟩:∃s,wr.cell? ⟨w4.heap.size,q,none⟩=some (.string s)/\(s=A\/s=B):=by
      have af:q=0\/q=1:=aD
      rcases af with rfl|rfl
      ·exact⟨A,aP Q 0,.inl rfl⟩
      ·exact⟨B,aP Q 1,.inr rfl⟩
     have rW:(0:Int)<=q:=aD
     have aE:(q:Int)<2:=aD
     have hP:=Y.out s K;have aI:dV (some ⟨w4.heap.size,0,none⟩) 2:=fun _=>⟨_,_,rfl⟩;clear Q K;by_cases l:s=aC.nil
     ·subst l
      simp only[aC.nil] at z;clear hP;exact ane
     ·obtain⟨t,Z,e1,ag⟩:=hP.resolve_left l
      obtain⟨ai,aj,Cv,Nt,aK,aM,aN, -, -, -, -, -,hT⟩:=HT.out t Z;have vU:=hid (fun W (c:BL wr W)=>hT W (bO jb.out c));obtain⟨-, -,b0,b1,b2,uf,b3,FR⟩:=(X.out wr P.out).at hk;obtain⟨k3, -⟩:=hT wr jb.out;obtain rfl:uf=.slice ai x.ah[k].aF.length aj:=oO (b3.symm.trans k3);have aO:=nZ l;have hg:=gV.cell (w:=wr);have L:=kK wr _ d;have M:=kK wr _ m;have vW:=kK wr _ b0;have N:=kK wr _ z;simp only at L M vW N;have R:=hid (fun(p:gV wr)=>Calls.fQ (x:=p) (o8 x.ah[k] s _ S p.1 (dx.keep FR (aH.below p.2)) _ rfl));rw[e1] at R;simp only[kH] at R;clear FR k3 hP hT e1 l;go_upto_region 16 with fail;refine cQ zK zK ?_;repeat (go_big_quiet_step (exact R.out _))
      refine iU ?_;intro w8 hx;have T:=eP hx;have Fo:=aR HR T;have am:=aR P T;obtain⟨q3,g0,g1,g2,g3,g4,g5,g6,g7⟩:=vU.out w8 T;clear hx T hg R d f g h b0 b1 b2 b3 m f1 f2 u y z L M vW N;obtain⟨d,f,g,h⟩:=b4z (F.out _ am.out);have aQ:(0:Int)<=t:=aD
      have aS:(t:Int)<x.ah[k].aF.length:=aD
      have aT:¬(t:Int)<0:=aD
      generalize x.ah[k].aF[t].kind=gk at*;rcases ag with rfl|rfl
      all_goals
       go_wp2
       go_roundw
       case rel=>exact⟨q+1,aD,zG,rfl,Fo⟩
       exact zI
    ·have es:=CK n
     clear Q;go_wp2;go_ret;exact⟨rfl,jb.out⟩
theorem JL{x:aC.cE}{i:Nat}(b:i<x.ah.length)(h:aC.wF x i=0):¬aC.dc x x.ah[i].name<i/\∃a:0<x.ah[i].aF.length,x.ah[i].aF[0].kind=0:=by
 unfold aC.wF at h;rw[dH b] at h;split at h
 ·omega
 rename_i d;split at h
 ·omega
 rename_i c;rw[not_or,Decidable.not_not] at c;have a:0<x.ah[i].aF.length:=aD
 exact⟨d,a,by have:=c.2;rwa [show (0:Int)=((0:Nat):Int) from rfl,iX b a] at this⟩
theorem zC{x:aC.cE}{i j:Nat}(a:i<x.ah.length)(b:j<x.ah[i].aF.length)(h:aC.nR x i j=0):¬aC.bV x.ah[i] x.ah[i].aF[j].name<j/\aC.mC x i j=0:=by
 unfold aC.nR at h;rw[dH a,iX a b] at h;split at h
 ·omega
 ·rename_i c
  exact⟨c,h⟩
theorem MU{x:aC.cE}{i:Nat}(b:i<x.aV.length)(h:aC.AQ x i=0):∀j (c:j<i),¬x.aV[j].name=x.aV[i].name:=fun j c e=>by
 unfold aC.AQ at h;rw[if_pos] at h
 ·omega
 ·rw[List.any_eq_true]
  have a:j<(x.aV.take i).length:=Qt
  exact⟨(x.aV.take i)[j],eV a,by rw[List.getElem_take,lN b];simp[e]⟩
theorem ac8{x:aC.cE}(h:aC.okB x=true):aC.mH x=0/\(∀i,i<x.aV.length->aC.AQ x i=0)/\(∀i,i<x.ah.length->aC.wF x i=0/\∀j,j<(aC.kd x i).aF.length->aC.nR x i j=0)/\∀i,i<x.aX.length->aC.tN x i=0:=by
 unfold aC.okB at h;simp only[pR,oW,alU,List.mem_range] at h;exact⟨h.1.1.1,h.1.1.2,h.1.2,h.2⟩
theorem EB(x:aC.cE)(hx:aC.okB x=true)(v:Value)(S:Nat->Prop)(w:World)(hv:dO S w v x):
  CB 45 #[v] w (.slice none 0 0):=by
 obtain⟨hE,hL,Z,hR⟩:=ac8 hx;obtain⟨-,DC,aa,ab,C, -, -⟩:=l5 (zB hE).1;have tC:∀k∈x.ah,k.aF.length<=10:=fun k hk=>(lD (C k hk)).2.2.1;have H:=hid (fun(i j:Nat) (b:i<x.ah.length) (n:j<x.ah[i].aF.length)=>aC.mQ ((lD (C _ (eV b))).2.2.2 _ (eV n)));obtain⟨ak,ck,al,cl,ar,cr,w1,rfl,I,bL,l,hz,HV,ap,aq,au,D,J,qC⟩:=jC w x v S hv;have K:=hid (fun W (a:BL w1 W)=>iC.keep D (aH.below (bO bL.out a)));have Zm:=hid (fun W (a:BL w1 W)=>fC.keep dG J (aH.below (bO bL.out a)));have ad:=hid (Qa x hE _ S w1 (HV.out w1 aG));have ae:=hid (fun W (a:BL w1 W) (i j:Nat) (b:i<x.ah.length) (n:j<x.ah[i].aF.length)=>Qe x i j b n (zC b n ((Z i b).2 j (by rw[dH b];exact n))).2 (H.out i j b n).1 (by have:=(H.out i j b n).2;omega) DC tC aa _ S W (HV.out W a));have vE:=hid (fun W (a:BL w1 W) (s:ByteArray)=>qM x s _ S W (HV.out W a));have ag:=hid (fun W (a:BL w1 W) (i:Nat) (b:i<x.aX.length)=>Qg x i b (hR i b) DC tC ab _ S W (HV.out W a));have HL:=hid (fun(i:Nat) (b:i<x.aV.length)=>MU b (hL i b));have HK:=hid (fun(i:Nat) (b:i<x.ah.length)=>JL b (Z i b).1);have EV:=hid (fun(i j:Nat) (b:i<x.ah.length) (n:j<x.ah[i].aF.length)=>(zC b n ((Z i b).2 j (by rw[dH b];exact n))).1);have HT:=hid (fun(m t:Nat) (hm:m<x.ah.length) (ht:t<x.ah[m].aF.length)=>D.Vd hm ht);have C6:=hid tC;have av:(x.ah.length:Int)<=6:=aD
 have aw:(x.aV.length:Int)<=6:=aD
 have ax:(x.aX.length:Int)<=16:=aD
 clear hv D J qC hE hL Z hR hx C tC;obtain⟨c,d,f,g⟩:=b4z (l.out w1 aG);have HW:=hid I;clear I;go_enter func45,ntmps45;go_upto_region 1 with fail;rw[HW.out];clear HW;go_wp2_with fail;refine ad.out.mono ?_;rintro e w2 ⟨rfl,a⟩;have f9:Hid (BL w1 w2):=hid a;have gT:=hid (fun mm=>f9.out.trans ((aJ (Below.refl w2.heap.size w2) mm).mono f9.out.size));clear a c d f g;go_upto_region 6 with fail;go_loopw [4,5,6] (fun o i _ wr=>∃j:Nat,j<=x.aV.length/\i=.int .i64 (j:Int)/\o=.slice none 0 0/\Hid (∃mm,wr=w2.drewN mm)) (fun _ i _ _=>x.aV.length-(intOf i).toNat);case atStart=>exact⟨0,aD,rfl,rfl,hid ⟨0,rfl⟩⟩
 case round=>
  obtain⟨j,n,rfl,rfl,HR⟩:=hrel;obtain⟨c,d,f,g⟩:=b4z (by obtain⟨mm,h⟩:=HR.out;rw[h];exact l.out _ (gT.out mm):wr.heap[w.heap.size]?=_);by_cases L:j<x.aV.length
  ·have ay:(0:Int)<=j:=by omega
   have az:(j:Int)<x.aV.length:=aD
   have ai:=hid (HL.out j L);generalize wr=wo at*;go_upto_region 9 with fail;clear c d f g;go_loopw [4,6] (fun o i wr=>∃q:Nat,q<=j/\i=.int .i64 (q:Int)/\o=.slice none 0 0/\Hid (∃mm,wr=w2.drewN mm)) (fun _ i _=>j-(intOf i).toNat);case atStart=>exact⟨0,aD,rfl,rfl,HR⟩
   case round=>
    clear HR;obtain⟨q,hq,rfl,rfl,HR⟩:=hrel;obtain⟨mm,u⟩:=HR.out;obtain⟨c,d,f,g⟩:=b4z (l.out _ (gT.out mm));by_cases E:q<j
    ·have aj:q<x.aV.length:=by omega
     obtain⟨-, -,l0, -⟩:=o6.at (Zm.out _ (gT.out mm)) aj;obtain⟨-, -,l1, -⟩:=o6.at (Zm.out _ (gT.out mm)) L;rw[<-u] at c d f g l0 l1;have rW:(0:Int)<=q:=aD
     have M:(q:Int)<x.aV.length:=aD
     have tZ:(q:Int)<j:=aD
     have es:=CK (ai.out q E);have HWR:=hid u;clear u;generalize x.aV[q].name=ln at*;generalize x.aV[j].name=lm at*;go_wp2;go_quiet (fail);have jm:Hid (∃mm,wr.drewN nq=w2.drewN mm):=hid Qy;go_wp2;go_roundw;case rel=>exact⟨q+1,aD,zG,rfl,jm⟩
     exact zI
    ·obtain rfl:q=j:=by omega
     clear u c d f g;exact ane
  ·have N:Hid (BL w1 wr):=hid (by obtain⟨mm,h⟩:=HR.out;rw[h];exact gT.out mm)
   clear HR;generalize wr=wo at*;go_upto_region 14 with fail;clear c d f g;go_loopw [4,7,8,9] (fun o i _ _ wr=>∃j:Nat,j<=x.ah.length/\i=.int .i64 (j:Int)/\o=.slice none 0 0/\Hid (BL w1 wr)) (fun _ i _ _ _=>x.ah.length-(intOf i).toNat);case atStart=>exact⟨0,aD,rfl,rfl,N⟩
   case round=>
    clear N;obtain⟨m,hm,rfl,rfl,HR⟩:=hrel;obtain⟨c,d,f,g⟩:=b4z (l.out wr HR.out);by_cases F:m<x.ah.length
    ·have aA:(0:Int)<=m:=by omega
     have aB:(m:Int)<x.ah.length:=aD
     obtain⟨aE,h0,A⟩:=HK.out m F;obtain⟨-, -,O,b1,b2,uf,b3,B⟩:=(K.out wr HR.out).at F;obtain⟨af,cf,rfl,aI, -, -⟩:=B.form;have hg:=gV.cell (w:=wr);have r:=kK wr _ c;have P:=kK wr _ O;simp only at r P;have G:=hid (fun(p:gV wr)=>Calls.fQ (x:=p) (vE.out p.1 (bO HR.out p.2) x.ah[m].name));have Q:=hid (fun W (a:BL wr W)=>Qf x.ah[m].aF h0 A _ S W (dx.keep B (aH.below a)));have R:=hid B;generalize aC.dc x x.ah[m].name=kI at*;clear B A;go_upto_region 17 with fail;refine cQ zK zK ?_;repeat (go_big_quiet_step (exact G.out _))
     refine iU ?_;intro w3 hx;have y:=eP hx;have vw:=aR HR y;have am:=hid (Q.out w3 y);have T:=hid (dx.keep R.out (aH.below y));clear hx y hg G c d f g O b1 b2 b3 r P Q R;go_wp2_with fail;refine am.out.mono ?_;rintro e w' ⟨rfl,rfl⟩;go_upto_region 22 with fail;go_loopw [4,9] (fun o i wr=>∃q:Nat,q<=x.ah[m].aF.length/\i=.int .i64 (q:Int)/\o=.slice none 0 0/\Hid (BL w3 wr)) (fun _ i _=>x.ah[m].aF.length-(intOf i).toNat);case atStart=>exact⟨0,aD,rfl,rfl,hid aG⟩
     case round=>
      obtain⟨q,hq,rfl,rfl,HQ⟩:=hrel;have U:=aR vw HQ.out;have tr:=C6.out _ (eV F);by_cases E:q<x.ah[m].aF.length
      ·have rW:(0:Int)<=q:=by omega
       have M:(q:Int)<x.ah[m].aF.length:=aD
       obtain⟨c,d,f,g⟩:=b4z (l.out wr U.out);obtain⟨-, -,O,b1,b2,uf,b3,B⟩:=(K.out wr U.out).at F;obtain⟨-, -,f0, -⟩:=dx.at (dx.keep T.out (aH.below HQ.out)) E;obtain⟨aK,aL,rfl, -, -, -⟩:=B.form;have aM:=EV.out m q F E;have V:=hid (fun W (a:BL wr W)=>ae.out W (bO U.out a) m q F E);have hg:=gV.cell (w:=wr);have r:=kK wr _ c;have X:=kK wr _ f0;have P:=kK wr _ O;simp only at r X P;have G:=hid (fun(p:gV wr)=>Calls.fQ (x:=p) (o8 x.ah[m] x.ah[m].aF[q].name _ S p.1 (dx.keep B (aH.below p.2)) _ rfl));simp only[kH] at G;generalize aC.bV x.ah[m] x.ah[m].aF[q].name=fI at*;clear B;go_upto_region 24 with fail;refine cQ zK zK ?_;repeat (go_big_quiet_step (exact G.out _))
       refine iU ?_;intro w4 hx;have z:=eP hx;have an:=aR HQ z;have kY:=aR U z;have Y:=hid (V.out w4 z);clear hx z hg G c d f g O b1 b2 b3 f0 r X P V;obtain⟨c,d,f,g⟩:=b4z (l.out w4 kY.out);go_wp2_with fail;refine Y.out.mono ?_;rintro e w5 ⟨rfl,a⟩;have ao:=aR an a;clear a c d f g;go_wp2_with fail;refine(MT _ _ _ _ _).mono ?_;rintro e w' ⟨rfl,rfl⟩;go_wp2;go_roundw;case rel=>exact⟨q+1,aD,zG,rfl,ao⟩
       exact zI
      ·go_wp2
       go_roundw;case rel=>exact⟨m+1,aD,zG,rfl,U⟩
       exact zI
    ·have N:=HR
     clear HR;generalize wr=wi at*;go_upto_region 28 with fail;clear c d f g;go_loopw [4,10] (fun o i wr=>∃j:Nat,j<=x.aX.length/\i=.int .i64 (j:Int)/\o=.slice none 0 0/\Hid (BL w1 wr)) (fun _ i _=>x.aX.length-(intOf i).toNat);case atStart=>exact⟨0,aD,rfl,rfl,N⟩
     case round=>
      clear N;obtain⟨q,hq,rfl,rfl,HR⟩:=hrel;obtain⟨c,d,f,g⟩:=b4z (l.out wr HR.out);by_cases E:q<x.aX.length
      ·have rW:(0:Int)<=q:=by omega
       have M:(q:Int)<x.aX.length:=aD
       go_wp2_with fail;refine(ag.out wr HR.out q E).mono ?_;rintro e w3 ⟨rfl,a⟩;have vw:=aR HR a;clear a c d f g;go_wp2_with fail;refine(MT _ _ _ _ _).mono ?_;rintro e w' ⟨rfl,rfl⟩;go_wp2;go_roundw;case rel=>exact⟨q+1,aD,zG,rfl,vw⟩
       exact zI
      ·have E9:=aR bL HR.out
       exact amD
abbrev R4(B:Nat):=dX 4 OV (fun _=>True) B 149
theorem Tryz.ak6:kF prog 147 149 4 32:=jV (z:=.agg #[.int .i64 0,.int .i64 0,.int .i64 0,.int .i64 0]) zK zK rfl aD aD
theorem Ig(x:aC.cE)(h6:x.ah.length<=6)(E:∀k∈x.ah,k.aF.length<=10)(v:Value)(S:Nat->Prop)(w:World)(V:dO S w v x):
  CP 83 #[v] w fun e X=>∃a c l,e=.returned (.slice a l.length c)/\l.length<=60/\l=bU.fS x/\R4 w.heap.size X (.slice a l.length c) l/\BL w X:=by
 obtain⟨y,ck,al,cl,ar,cr,w1,rfl,z,A,u,hz,HV,ad,ae,ai,q,F,qC⟩:=jC w x v S V;have aj:=hid (fun W (f:BL w1 W)=>iC.keep q (aH.below (bO A.out f)));have zM:=hid (fun W (f:BL w1 W) (i j:Nat) (hi:i<=6) (hj:j<=10)=>rX x i j _ S W (HV.out W f) aD aD);have HT:=hid (fun(m t:Nat) (G:m<x.ah.length) (H:t<x.ah[m].aF.length)=>q.Vd G H);have I:=hid (fun(m:Nat) (G:m<x.ah.length)=>q.at G);have am:(x.ah.length:Int)<=6:=aD
 clear V q F qC;have Y:=hid z;clear z;go_enter func83,ntmps83;go_upto_region 1 with fail;rw[Y.out];clear Y;go_upto_region 3 with fail;go_loopw [3,4,5] (fun J K _ wr=>∃(k:Nat) (l:List bU.Ref) (a:Option Addr) (c:Nat),k<=x.ah.length/\K=.int .i64 k/\J=.slice a l.length c/\l.length<=10*k/\Hid (l=bU.oh x k)/\Hid (R4 w1.heap.size wr (.slice a l.length c) l)/\Hid (BL w1 wr)) (fun _ K _ _=>x.ah.length-(intOf K).toNat);case atStart=>exact⟨0,[],none,0,zxa _,rfl,rfl,aL,hid rfl,hid (dX.nil _ _ _ _ _ _),hid aG⟩
 case round=>
  obtain⟨k,l,a,c,hk,rfl,rfl,an,Z,HO,L⟩:=hrel;obtain⟨y0,y1,y2,y3⟩:=b4z (u.out wr L.out);by_cases n:k<x.ah.length
  ·have ao:=zN k
   have ap:=zL k x.ah.length
   have sZ:Hid (aC.kd x k=x.ah[k]):=hid (dH n);have tr:x.ah[k].aF.length<=10:=E _ (eV n);obtain⟨pU, -, -, -, -,uf,b3,FR⟩:=I.out k n;obtain⟨af,cf,rfl,aq, -, -⟩:=FR.form;have cN:=hid (fun W (f:BL w1 W)=>((bO A.out f).cell (p:=⟨bM y,bT y+k*4+3,none⟩) pU).trans b3);clear b3 FR;generalize Lx:wr=Wb at*;clear Lx;go_upto_region 6 with fail;clear y0 y1 y2 y3;go_loopw [3,5] (fun J M wr=>∃(j:Nat) (l:List bU.Ref) (a:Option Addr) (c:Nat),j<=x.ah[k].aF.length/\M=.int .i64 j/\J=.slice a l.length c/\l.length<=10*k+j/\Hid (l=bU.oh x k++bU.kA x k j)/\Hid (R4 w1.heap.size wr (.slice a l.length c) l)/\Hid (BL w1 wr)) (fun _ M _=>x.ah[k].aF.length-(intOf M).toNat);case atStart=>exact⟨0,l,a,c,zxa _,rfl,rfl,aD,hid (by rw[Z.out,bU.Dk,zxp]),HO,L⟩
   case round=>
    obtain⟨j,l,a,c,hj,rfl,rfl,aa,N,wQ,f9⟩:=hrel;obtain⟨y0,y1,y2,y3⟩:=b4z (u.out wr f9.out);have b3:=cN.out wr f9.out;by_cases B:j<x.ah[k].aF.length
    ·have au:=zN j
     have av:(j:Int)<(x.ah[k].aF.length:Int):=aD
     obtain⟨o,r,aw,cw,ag,cg, -, -, -, -, -, -,hX⟩:=HT.out k j n B;have e0:Value.slice o x.ah[k].aF.length r=.slice af x.ah[k].aF.length cf:=oO ((hX wr (bO A.out f9.out)).1.symm.trans b3);obtain⟨rfl,rfl⟩:o=af/\r=cf:=by injection e0 with e1 e2 e3;exact⟨e1,e3⟩
     have HX:=hid (fun W (f:BL wr W)=>hX W (bO A.out (bO f9.out f)));have Cg:aC.fd x k j=x.ah[k].aF[j]:=iX n B;have Wj:Hid ((x.ah[k].aF[j]).kind=1->bU.kA x k (j+1)=bU.kA x k j++[⟨k,j,aC.eD x k j,(x.ah[k].aF[j]).lo⟩]):=hid (fun h=>by rw[bU.py,bU.Af abz,Cg]);have uG:Hid (¬(x.ah[k].aF[j]).kind=1->bU.kA x k (j+1)=bU.kA x k j):=hid (fun h=>by rw[bU.py,bU.KX abz,zxp]);have O:=hid (fun W (f:BL wr W)=>zM.out W (bO f9.out f) k j aD aD);generalize x.ah[k].aF[j]=g at*;obtain⟨gn,go,gu,gk,D,gh,Fw,ax⟩:=g;simp only at HX Wj uG;generalize aC.eD x k j=P at*;obtain⟨-,f0,f1,f2,f3,f4,f5,f6,f7⟩:=HX.out wr aG;by_cases Q:gk=1
     ·subst Q
      have R:=hid (Wj.out rfl);go_upto_region 9 with fail;have rW:=eC wr ⟨w.heap.size,0,none⟩ (.int .i64 x.aQ) fun d=>(bF (u.out d.1 (bO f9.out d.2))).1.1;have ay:=eC wr ⟨w.heap.size,1,none⟩ (.slice y x.ah.length ck) fun d=>(bF (u.out d.1 (bO f9.out d.2))).1.2.1;have tZ:=eC wr ⟨w.heap.size,2,none⟩ (.slice al x.aV.length cl) fun d=>(bF (u.out d.1 (bO f9.out d.2))).1.2.2.1;have az:=eC wr ⟨w.heap.size,3,none⟩ (.slice ar x.aX.length cr) fun d=>(bF (u.out d.1 (bO f9.out d.2))).1.2.2.2;have VT:=eC wr ⟨bM y,bT y+k*4+3,none⟩ (.slice o x.ah[k].aF.length r) fun d=>(HX.out d.1 d.2).1;have Tq:=eC wr ⟨bM o,bT o+j*8+4,none⟩ (.int .i64 D) fun d=>(HX.out d.1 d.2).2.2.2.2.2.1;refine alR wr 19 (iq.lV [0,1,2,3,4,5,7,8,9,10,11,12,13,14,15,16] (.one 6 (.quiet 17 (.one 18 .done)))) nK zK fun w6 fH=>?_
      iterate 16
       refine bC rfl ?_
       intro T
       go_big_quiet_step (fail)
       refine iU ?_
      refine aZ rfl ?_;go_wp2_with fail;refine(O.out w6 fH.out).mono ?_;rintro e w7 ⟨rfl,f⟩;have C:=aR fH f;go_wp2_with fail;refine aN (BL wr) (fun _ h=>h) C.out ?_;refine bC rfl ?_;intro T;go_big_quiet_step (fail);refine iU ?_;refine aZ rfl ?_;go_wp2_with fail;refine aN (BL wr) (fun _ h=>h) (C.out.alloc C.out.size _) ?_;refine bG ?_;try simp only[jW,jH]
      have U:=aR f9 C.out;have OW:Hid (R4 w1.heap.size w7 (.slice a l.length c) l):=hid (dX.below dL wQ.out C.out);go_wp2_with (at_builtin;go_must (refine d9 dL rfl _ _ rfl Tryz.ak6 rfl OW.out (us:=[.int .i64 (k:Int),.int .i64 (j:Int),.int .i64 P,.int .i64 D]) rfl rfl rfl (⟨k,j,P,D⟩:bU.Ref) rfl Rt aD U.out.size ?_));intro v' w8 how H hn;obtain⟨l2,s⟩:=bJ (l++[(⟨k,j,P,D⟩:bU.Ref)]);rw[<-s] at how;have ab:l2.length=l.length+1:=by rw[s];simp
      obtain⟨a2,c2,rfl, -⟩:=how.form;have HL8:Hid (BL w1 w8):=hid (U.out.trans (H.below U.out.size (fun b f=>by have:=(OW.out.lt b f.symm).1;omega)));have Ba:=hid how;have HL9:Hid (l2=bU.oh x k++bU.kA x k (j+1)):=hid (by rw[s,R.out,N.out,zxm]);exact alO
     ·have e1:(gk==1)=false:=by simpa using Q
      have R:Hid (l=bU.oh x k++bU.kA x k (j+1)):=hid (by rw[uG.out Q];exact N.out);go_wp2;go_roundw;case rel=>exact⟨j+1,l,a,c,aD,zG,rfl,aD,R,wQ,f9⟩
      exact zI
    ·obtain rfl:j=x.ah[k].aF.length:=by omega
     have HE:Hid (l=bU.oh x (k+1)):=hid (by rw[N.out,bU.xI,sZ.out]);exact al8
  ·obtain rfl:k=x.ah.length:=by omega
   go_wp2;go_ret;exact⟨a,c,l,rfl,aD,Z.out,dX.base HO.out (Nat.le_of_lt hz),bO A.out L.out⟩
theorem am2(x:aC.cE)(o:0<x.ah.length)(c:Option Addr)(d:Nat)(v:Value)(S:Nat->Prop)(w:World)(e:dO S w v x):
  CB 46 #[v,.slice c 0 d] w (.bool false):=by
 obtain⟨p,q,r,s,t,u,w1,rfl,a,f,g,y,z,h,i,j,k,l,A⟩:=jC w x v S e;obtain⟨B,C,D,E⟩:=b4z (g.out w1 aG);have m:¬x.ah.length=0:=aD
 have n:((0:Int)==(x.ah.length:Int))=false:=jo
 have b:=hid a;clear a;go_enter func46,ntmps46;go_upto_region 1 with fail;rw[b.out];clear b;go_wp2;go_ret;exact⟨by simp[m],f.out⟩
theorem ye{W:aC.dw}{k:Nat}(a:k<W.length):aC.total (W.take (k+1))=aC.total (W.take k)+W[k].length:=by
 rw[yh a];simp only[aC.total,zxj,List.sum_append,zxt,List.map_nil,List.sum_cons,List.sum_nil];omega
theorem Vj(W:aC.dw)(k:Nat)(a:k<W.length):W[k].length<=aC.total W:=by
 have b:=si W (k+1);rw[ye a] at b;omega
theorem MV{α:Type}{p:α->Bool}{l:List α}{k:Nat}(a:k<l.length)(h:(l.take k).all p=true)(h2:p l[k]=true):(l.take (k+1)).all p=true:=by
 rw[yh a,List.all_append,h];simp[h2]
theorem amt{p:Prop}(h:p:=by
  have HE:=hid (ak9.out aD)
  go_wp2
  go_ret
  exact⟨gL HE.out.symm,E9.out⟩):p:=h
theorem am3(x:aC.cE)(W:aC.dw)(hs:bU.kV x W)(v u:Value)(S:Nat->Prop)(w:World)(hv:dO S w v x)(hW:bK S w u W):
  CB 46 #[v,u] w (.bool (bU.kB x W)):=by
 obtain⟨ak,ck,al,cl,ar,cr,w1,rfl,C,bL,HK,hz,HV,ae,aX,aY,ag,aA,qC⟩:=jC w x v S hv;obtain⟨aw,cw,rfl,aB, -, -⟩:=hW.form;have ZF:=hid (fun X (d:BL w1 X)=>hW.keep (aH.below (bO bL.out d)))
 have DE:=hid (fun X (d:BL w1 X)=>Ig x hs.ah (fun k hk=>by
  obtain⟨j,hj,rfl⟩:=zxf hk;rw[<-dH hj];exact hs.aF j) _ S X (HV.out X d))
 have aE:=hid (fun(m:Nat) (hm:m<x.ah.length)=>ag.at hm);have I:=hs.len;obtain⟨J,f⟩:=bJ x.ah.length;have D:W.length=J:=by rw[f];exact I
 have h6:J<=6:=by rw[f];exact hs.ah
 dsimp only[sBx] at ae DE HK HV C ⊢;rw[<-f] at ae DE HK HV C;rw[D] at aB ZF;have N:=hid f;have GN:=hid D;have HS:=hid hs;rw[<-f,D];have aZ:(J:Int)<=6:=aD
 clear hv ag aA qC hW I f D hs;have S9:=hid (fun mm=>aJ (Below.refl w1.heap.size w1) mm);have HW:=hid C;obtain⟨K,L,M,y3⟩:=b4z (HK.out w1 aG);clear C;go_enter func46,ntmps46;go_upto_region 1 with fail;rw[HW.out];clear HW;go_upto_region 5 with fail;clear K L M y3;go_loopw [5,6,7] (fun s O _ wr=>∃(k sz:Nat),k<=J/\O=.int .i64 k/\s=.int .i64 sz/\sz<=512/\Hid (sz=aC.total (W.take k))/\Hid (∃mm,wr=w1.drewN mm)) (fun _ O _ _=>J-(intOf O).toNat);case atStart=>exact⟨0,0,zxa _,rfl,rfl,aD,hid rfl,hid ⟨0,rfl⟩⟩
 case round=>
  obtain⟨k,sz,hk,rfl,rfl,hsz,E,HR⟩:=hrel;have kM:Hid (BL w1 wr):=hid (by obtain⟨mm,h⟩:=HR.out;rw[h];exact S9.out mm);by_cases F:k<J
  ·have a0:=zN k
   have a1:=zL k J
   have G:k<W.length:=by rw[GN.out];exact F
   have ai:k<x.ah.length:=by rw[<-N.out];exact F
   obtain⟨q,hq, -,c⟩:=eA.at (ZF.out wr kM.out) G;obtain⟨ao,co,rfl,yp, -, -⟩:=c.form;obtain⟨pU, -, -, -, -,uf,b3,nN⟩:=aE.out k ai;obtain⟨af,cf,rfl, -, -, -⟩:=nN.form;have rV:=hid (fun X (d:BL w1 X)=>((bO bL.out d).cell (p:=⟨bM ak,bT ak+k*4+3,none⟩) pU).trans b3);have n:Hid (∀r∈W[k],r.length=x.ah[k].aF.length):=hid (fun r hr=>by rw[HS.out.lX k G r hr,dH ai]);have aj:=si W (k+1);have wK:=HS.out.tot;rw[ye G] at aj;have am:sz+W[k].length<=512:=by rw[E.out];omega
   have an:Hid (sz+W[k].length=aC.total (W.take (k+1))):=hid (by rw[ye G,E.out]);have HQ:=hid (fun X (d:BL wr X)=>cG.keep c (aH.below d));have HU:=hid (fun X (d:BL wr X)=>(d.cell (p:=⟨bM aw,bT aw+k,none⟩) (kK wr _ hq)).trans hq);obtain⟨nf,ap⟩:=bJ (x.ah[k].aF.length);rw[<-ap] at rV n;obtain⟨R,z⟩:=bJ (W[k]);rw[<-z] at hq yp am an HQ HU n;clear b3 nN c aj wK ap z E;generalize wr=H at*;go_upto_region 9 with fail;clear hq;go_loopw [7] (fun P wr=>∃i:Nat,i<=R.length/\P=.int .i64 (i:Int)/\Hid (∃mm,wr=H.drewN mm)) (fun P _=>R.length-(intOf P).toNat);case atStart=>exact⟨0,aD,rfl,hid ⟨0,rfl⟩⟩
   case round=>
    obtain⟨i,hi,rfl,jm⟩:=hrel;obtain⟨mm,a⟩:=jm.out;have B:=aJ (Below.refl H.heap.size H) mm;have Q:=aR kM B;have hq:=HU.out _ B;rw[<-a] at hq Q;by_cases hit:i<R.length
    ·obtain⟨q2,tZ, -,MW⟩:=eA.at (HQ.out _ B) hit
     obtain⟨a2,c2,rfl, -, -, -⟩:=MW.form;have k3:=rV.out wr Q.out;obtain⟨K,L,M,y3⟩:=b4z (HK.out wr Q.out);rw[n.out _ (eV hit)] at tZ;rw[<-a] at tZ;have aI:(0:Int)<=i:=aD
     have aK:(i:Int)<R.length:=aD
     have HWR:=hid a;clear a B MW;go_wp2;go_quiet (fail);have U:Hid (∃mm,wr.drewN nq=H.drewN mm):=hid Qy;go_wp2;go_roundw;case rel=>exact⟨i+1,aD,zG,U⟩
     exact zI
    ·have U:Hid (∃mm,wr=w1.drewN mm):=hid (by obtain⟨m1,h1⟩:=HR.out;rw[a,h1];exact⟨m1+mm,mE⟩)
     clear a B;go_wp2;go_roundw;case rel=>exact⟨k+1,sz+R.length,aD,zG,zG,aD,an,U⟩
     exact zI
  ·obtain⟨K,L,M,y3⟩:=b4z (HK.out wr kM.out)
   have aL:k=J:=aD
   subst aL;go_wp2_with fail;refine(DE.out wr kM.out).mono ?_;rintro e w6 ⟨V,cx,l,rfl,Zr,Y,hrf,hb⟩;have BW:=aR kM hb;have aq:=hrf.sl dL (T:=fun _=>True) (fun b _ h=>trivial) (fun b hb=>trivial);have au:=hid (fun mm=>fC.keep dL aq (aH.below (aJ (Below.refl w6.heap.size w6) mm)));have xO:=hid (fun mm=>BW.out.trans ((aJ (Below.refl w6.heap.size w6) mm).mono BW.out.size));have aM:dV V l.length:=afk
   have HLx:=hid Y;have HP:Hid (bU.kB x W=l.all fun r=>(W.getD r.kind []).all (bU.mD W r.field r.up)):=hid (by rw[Y];rfl);clear Y hrf hb aq K L M y3 E HR kM;obtain⟨nl,Z⟩:=bJ l.length;have JY:=hid Z;rw[<-Z] at au aM Zr ⊢;clear Z;go_upto_region 15 with fail;go_loopw [9,10,11,12] (fun O _ _ _ wr=>∃r:Nat,r<=nl/\O=.int .i64 (r:Int)/\Hid ((l.take r).all (fun r=>(W.getD r.kind []).all (bU.mD W r.field r.up))=true)/\Hid (∃mm,wr=w6.drewN mm)) (fun O _ _ _ _=>nl-(intOf O).toNat);case atStart=>exact⟨0,zxa _,rfl,hid rfl,hid ⟨0,rfl⟩⟩
   case round=>
    obtain⟨r,a3,rfl,HA,HR⟩:=hrel;obtain⟨mm,a⟩:=HR.out;have lP:Hid (Below w1.heap.size w1 wr):=hid (by rw[a];exact xO.out mm);by_cases F:r<nl
    ·have hr0:=zN r
     have a4:=zL r nl
     have hrl:r<l.length:=by rw[<-JY.out];exact F
     have FD:=hid (fun(X:World) (d:∃mm,X=w6.drewN mm)=>(by
      obtain⟨m2,h2⟩:=d
      obtain⟨-,us,FA,aa,TU⟩:=fC.at (au.out m2) hrl
      obtain rfl:us=_:=TU
      rw[h2]
      exact⟨aa 0 _ rfl,aa 1 _ rfl,aa 2 _ rfl⟩:X.cell? ⟨bM V,bT V+r*4+0,none⟩=some (.int .i64 (l[r].kind:Int))/\X.cell? ⟨bM V,bT V+r*4+1,none⟩=some (.int .i64 (l[r].field:Int))/\X.cell? ⟨bM V,bT V+r*4+2,none⟩=some (.int .i64 l[r].up)))
     obtain⟨K,L,M⟩:=FD.out wr HR.out;have A:l[r]∈bU.fS x:=ah0
     obtain⟨q1,q2,q3,q4, -⟩:=HS.out.refs _ A
     have xJ:Hid (∀y,y∈W.getD l[r].kind []->bU.mD W l[r].field l[r].up y=false->bU.kB x W=false):=hid (fun y hy hf=>by
      cases hc:bU.kB x W with
      |false=>rfl
      |true=>
       unfold bU.kB at hc
       rw[alU] at hc
       have:=hc _ A
       rw[alU] at this
       rw[this y hy] at hf
       cases hf)
     have B6:Hid ((W.getD l[r].kind []).all (bU.mD W l[r].field l[r].up)=true->(l.take (r+1)).all (fun r=>(W.getD r.kind []).all (bU.mD W r.field r.up))=true):=hid (fun h=>MV hrl HA.out h);clear A HA;generalize l[r]=rf at*;obtain⟨rk,t,ru,rl⟩:=rf;simp only[Nat.add_zero] at K L M q1 q2 q3 q4 xJ B6 FD;obtain⟨m,rfl⟩:∃m:Nat,ru=(m:Int):=⟨ru.toNat,aD⟩;have G:rk<W.length:=by rw[GN.out,N.out];exact q1
     have VP:m<W.length:=aD
     have TV:rk<k:=by rw[N.out];exact q1
     have aT:(0:Int)<=rk:=aD
     have aU:(rk:Int)<k:=aD
     have a6:(0:Int)<=m:=aD
     have a7:(m:Int)<k:=aD
     obtain⟨u,hu, -,c⟩:=eA.at (ZF.out wr lP.out) G;obtain⟨ao,co,rfl,yp, -, -⟩:=c.form;obtain⟨u2,og, -,MW⟩:=eA.at (ZF.out wr lP.out) VP;obtain⟨a8,a9,rfl, -, -, -⟩:=MW.form;have o:W.getD rk []=W[rk]:=by rw[iY,lN G];rfl
     have n:Hid (∀y∈W[rk],t<y.length):=hid (fun y hy=>by rw[HS.out.lX rk G y hy];exact q2);have ab:Hid (aC.gK W (m:Int)=W[m].length):=hid (by unfold aC.gK;rw[zxk,iY,lN VP];rfl);have aN:=hu;have av:=kK wr _ og;have Nh:=hid (fun X (d:BL wr X)=>(d.cell (p:=⟨bM aw,bT aw+m,none⟩) av).trans og);have HQ:=hid (fun X (d:BL wr X)=>cG.keep c (aH.below d));rw[o] at xJ B6;have aO:=Vj W rk G;have wK:=HS.out.tot;have aP:W[rk].length<=512:=aD
     obtain⟨R,z⟩:=bJ (W[rk]);rw[<-z] at hu yp xJ B6 n HQ aP;obtain⟨n2,ay⟩:=bJ (W[m].length);rw[<-ay] at Nh ab;clear c MW o z ay aN og av q1 q2 q4 aO wK;have Ze:=hid a;generalize wr=H at*;clear a;go_upto_region 19 with fail;clear K L M hu;go_loopw [11,12] (fun P _ wr=>∃i:Nat,i<=R.length/\P=.int .i64 (i:Int)/\Hid ((R.take i).all (bU.mD W t m)=true)/\Hid (∃mm,wr=H.drewN mm)) (fun P _ _=>R.length-(intOf P).toNat);case atStart=>exact⟨0,aD,rfl,hid rfl,hid ⟨0,rfl⟩⟩
     case round=>
      obtain⟨i,hi,rfl,HA,jm⟩:=hrel;obtain⟨m2,a⟩:=jm.out;have B:=aJ (Below.refl H.heap.size H) m2;have U:Hid (∃mm,wr=w6.drewN mm):=hid (by rw[a,Ze.out];exact⟨mm+m2,mE⟩);obtain⟨K,L,M⟩:=FD.out wr U.out;have og:=Nh.out _ B;rw[<-a] at og;by_cases hit:i<R.length
      ·obtain⟨q5,Tq, -,ad⟩:=eA.at (HQ.out _ B) hit
       obtain⟨a5,c5,rfl,ba, -, -⟩:=ad.form;have az:=n.out _ (eV hit);obtain⟨q6,aQ, -,rfl⟩:=eA.at ad az;rw[<-a] at Tq aQ;have aI:(0:Int)<=i:=aD
       have aK:(i:Int)<R.length:=aD
       have bb:(0:Int)<=t:=aD
       have bc:(t:Int)<R[i].length:=aD
       have o:R[i].getD t 0=R[i][t]:=by rw[iY,lN az];rfl
       have ak9:Hid (¬(0<=R[i][t]/\R[i][t]<n2)->bU.kB x W=false):=hid (fun h=>xJ.out _ (eV hit) (by
        unfold bU.mD
        rw[o,ab.out]
        simpa using h))
       have aS:Hid (0<=R[i][t]/\R[i][t]<n2->(R.take (i+1)).all (bU.mD W t m)=true):=hid (fun h=>MV hit HA.out (by
        unfold bU.mD
        rw[o,ab.out,decide_eq_true h.1,decide_eq_true h.2];rfl))
       have HWR:=hid a;clear a B ad o HA;generalize R[i][t]=v at*;go_wp2;go_quiet (fail);have zu:Hid (∃mm,wr.drewN nq=H.drewN mm):=hid (by rw[HWR.out];exact⟨m2+nq,mE⟩)
       have E9:Hid (BL w (wr.drewN nq)):=hid (by
        obtain⟨m3,h3⟩:=U.out
        rw[h3]
        exact bL.out.trans ((aJ (xO.out m3) nq).mono bL.out.size))
       by_cases bd:v<0
       ·exact amt
       ·have aV:0<=v:=by omega
        by_cases be:(n2:Int)<=v
        ·exact amt
        ·have HE:=hid (aS.out aD)
         go_wp2;go_roundw;case rel=>exact⟨i+1,aD,zG,HE,zu⟩
         exact zI
      ·have HE:=hid (B6.out (by have:=HA.out;rwa [ND aD] at this))
       clear a B;go_wp2;go_roundw;case rel=>exact⟨r+1,aD,zG,HE,U⟩
       exact zI
    ·have HE:Hid (bU.kB x W=true):=hid (by
      have:=HA.out
      rw[ND (by rw[<-JY.out];omega)] at this
      rw[HP.out];exact this)
     have E9:=aR bL lP.out;have aW:(sz:Int)<=512:=aD
     clear a;go_wp2;go_ret;exact⟨gL HE.out.symm,E9.out⟩
theorem R5{α:Type}{l m:List α}{k:Nat}(h1:k<l.length)(h2:k<m.length)(h:l.take k=m.take k)(e:l[k]=m[k]):l.take (k+1)=m.take (k+1):=by
 rw[yh h1,yh h2,h,e]
theorem get_of_eq{α:Type}{l m:List α}{k:Nat}(h1:k<l.length)(h2:k<m.length)(e:l[k]≠m[k]):l≠m:=fun h=>by subst h;exact e rfl
theorem EC(xs ys:List (List (List Int)))(u v:Value)(S T:Nat->Prop)(w:World)(U:bK S w u xs)(V:bK T w v ys):
  CP 10 #[u,v] w fun e P=>e=.returned (.bool (decide (xs=ys)))/\∃n,P=w.drewN n:=by
 obtain⟨a,cap,rfl,W,G,ad⟩:=U.form;obtain⟨a',ae,rfl,xq,sK,qD⟩:=V.form;have HU:=hid U;have HV:=hid V;have xJ:Hid (xs≠ys->decide (xs=ys)=false):=hid fun h=>decide_eq_false h;have B6:Hid (xs=ys->decide (xs=ys)=true):=hid fun h=>decide_eq_true h;generalize decide (xs=ys)=z at*;clear U V;go_enter func10,ntmps10;by_cases H:xs.length=ys.length
 ·have f:((xs.length:Int) !=(ys.length:Int))=false:=by simp[H]
  obtain⟨n,Q⟩:=bJ xs.length;have c:n=ys.length:=Q.trans H;rw[<-Q] at W G f HU ⊢;rw[<-c] at xq sK f HV ⊢;have HN:=hid Q;have HM:=hid c;clear Q c H;go_upto_region 4 with fail;go_loopw [5,6] (fun i _ wr=>∃k:Nat,k<=n/\i=.int .i64 k/\Hid (xs.take k=ys.take k)/\Hid (∃b,wr=w.drewN b)) (fun i _ _=>n-(intOf i).toNat);case atStart=>exact⟨0,zxa _,rfl,hid rfl,hid ⟨0,rfl⟩⟩
  case round=>
   obtain⟨k,hk,rfl,g,HR⟩:=hrel;by_cases I:k<n
   ·have l:k<xs.length:=by rw[<-HN.out];exact I
    have o:k<ys.length:=by rw[<-HM.out];exact I
    obtain⟨p,hx, -,r⟩:=HU.out.at l;obtain⟨q,d, -,s⟩:=HV.out.at o;obtain⟨a1,c1,rfl,ok1,Z,af⟩:=r.form;obtain⟨a2,c2,rfl,ok2,aa,ag⟩:=s.form;have ah:=zN k
    have ai:=zL k n
    have RD:Hid (xs[k]=ys[k]->xs.take (k+1)=ys.take (k+1)):=hid (R5 l o g.out);have Fu:Hid (xs[k]≠ys[k]->z=false):=hid (fun h=>xJ.out (get_of_eq l o h));have HX:=hid r;have HY:=hid s;have J:=hid (fun(X:World) (h:∃b,X=w.drewN b)=>(by obtain⟨b,rfl⟩:=h;exact⟨hx,d⟩:X.cell? ⟨bM a,bT a+k,none⟩=_/\X.cell? ⟨bM a',bT a'+k,none⟩=_));clear r s g hx d;generalize xs[k]=X at*;generalize ys[k]=Y at*;obtain⟨hx,d⟩:=J.out wr HR.out;have jm:=hid (fun q=>(by obtain⟨b,h⟩:=HR.out;rw[h];exact⟨b+q,mE⟩:∃b,wr.drewN q=w.drewN b));go_wp2;go_quiet (fail);have vw:=hid (jm.out nq);clear jm hx d;obtain⟨hx,d⟩:=J.out _ vw.out;generalize wr.drewN nq=wd at*;by_cases K:X.length=Y.length
    ·have Pc:((X.length:Int) !=(Y.length:Int))=false:=by simp[K]
     obtain⟨m,c⟩:=bJ X.length;have t:m=Y.length:=c.trans K;rw[<-c] at hx ok1 Z HX Pc J ⊢;rw[<-t] at d ok2 aa HY Pc J ⊢;have L:=hid c;have M:=hid t;clear c t K;go_upto_region 9 with fail;clear hx d;go_loopw [6] (fun i wr=>∃j:Nat,j<=m/\i=.int .i64 j/\Hid (X.take j=Y.take j)/\Hid (∃b,wr=w.drewN b)) (fun i _=>m-(intOf i).toNat);case atStart=>exact⟨0,zxa _,rfl,hid rfl,vw⟩
     case round=>
      obtain⟨j,hj,rfl,g,E⟩:=hrel;obtain⟨hx,d⟩:=J.out wr E.out;by_cases N:j<m
      ·have x:j<X.length:=by rw[<-L.out];exact N
       have y:j<Y.length:=by rw[<-M.out];exact N
       obtain⟨p1,hp, -,O⟩:=HX.out.at x;obtain⟨q1,hq, -,tZ⟩:=HY.out.at y;have A:Hid (X[j]=Y[j]->X.take (j+1)=Y.take (j+1)):=hid (R5 x y g.out);have B:Hid (X[j]≠Y[j]->z=false):=hid (fun h=>Fu.out (get_of_eq x y h));have aj:wr.cell? ⟨bM a1,bT a1+j,none⟩=some p1:=by obtain⟨b,h⟩:=E.out;rw[h];exact hp
       have ak:wr.cell? ⟨bM a2,bT a2+j,none⟩=some q1:=by obtain⟨b,h⟩:=E.out;rw[h];exact hq
       have al:=zN j
       have am:=zL j m
       have R:Hid (∀q,CP 15 #[p1,q1] (wr.drewN q) fun e P=>e=.returned (.bool (decide (X[j]=Y[j])))/\∃m,P=wr.drewN m):=hid (fun q=>by
        obtain⟨b,h⟩:=E.out;have hw:wr.drewN q=w.drewN (b+q):=by rw[h];simp[World.drewN,Nat.add_assoc]
        have hb:=aJ (Below.refl w.heap.size w) (b+q);refine(rJ X[j] Y[j] p1 q1 _ _ (wr.drewN q) (by rw[hw];exact bB.keep O (aH.below hb)) (by rw[hw];exact bB.keep tZ (aH.below hb))).mono ?_;rintro e P ⟨h1,m2,h2⟩;exact⟨h1,q+m2,Sn⟩)
       have zu:=hid (fun q=>(by obtain⟨b,h⟩:=E.out;rw[h];exact⟨b+q,mE⟩:∃b,wr.drewN q=w.drewN b));clear hp hq O tZ g;by_cases F:X[j]=Y[j]
       ·have vU:=hid (A.out F)
        rw[decide_eq_true F] at R;clear F A B;go_wp2;go_quiet ((exact R.out _));have C:=hid (zu.out nq);go_wp2;go_roundw;case rel=>exact⟨j+1,aD,zG,vU,C⟩
        exact zI
       ·have D:=hid (B.out F)
        rw[decide_eq_false F] at R;clear F A B;go_wp2;go_quiet ((exact R.out _));have C:=hid (zu.out nq);go_wp2;go_ret;exact⟨gL D.out.symm,C.out⟩
      ·have vU:=hid (RD.out (by have:=g.out;rwa [ND (by rw[<-L.out];omega),ND (by rw[<-M.out];omega)] at this))
       go_wp2;go_roundw;case rel=>exact⟨k+1,aD,zG,vU,E⟩
       exact zI
    ·have D:=hid (Fu.out (fun h=>K (by rw[h])))
     have Pc:((X.length:Int) !=(Y.length:Int))=true:=jo
     have ab:¬(X.length:Int)=Y.length:=aD
     clear K;go_wp2;go_ret;exact⟨gL D.out.symm,vw.out⟩
   ·have D:=hid (B6.out (by have:=g.out;rwa [ND abp,ND (by rw[<-HM.out];omega)] at this))
    go_wp2;go_ret;exact⟨gL D.out.symm,HR.out⟩
 ·have D:=hid (xJ.out (fun h=>H (by rw[h])))
  have f:((xs.length:Int) !=(ys.length:Int))=true:=jo
  have ab:¬(xs.length:Int)=ys.length:=aD
  clear H;go_wp2;go_ret;exact⟨gL D.out.symm,0,rfl⟩
theorem Vl{a b:List Int}{k:Nat}(h1:k<a.length)(h2:k<b.length)(e:a[k]=b[k]):Cz.di (a.drop k) (b.drop k)=Cz.di (a.drop (k+1)) (b.drop (k+1)):=by
 rw[zxe h1,zxe h2,e];show (if Cz.dB b[k] b[k]=0 then _ else _)=_
 rw[if_pos (Cz.gP.refl _)];rfl
theorem Vn{a b:List Int}{k:Nat}(h1:k<a.length)(h2:k<b.length)(e:a[k]≠b[k]):Cz.di (a.drop k) (b.drop k)=Cz.dB a[k] b[k]:=by
 rw[zxe h1,zxe h2];show (if Cz.dB a[k] b[k]=0 then _ else _)=_
 rw[if_neg (fun h=>e (Cz.gP.eq _ _ h))]
theorem aaT{a b:List Int}{k:Nat}(h:a.length<=k\/b.length<=k)(e:k<=a.length)(f:k<=b.length):(Cz.di (a.drop k) (b.drop k)<0)↔a.length<b.length:=by
 rcases Nat.lt_or_ge k a.length with c|c
 ·have:b.drop k=[]:=List.drop_eq_nil_of_le (h.resolve_left aD)
  rw[this,zxe c];show (1:Int)<0↔_
  omega
 ·rw[List.drop_eq_nil_of_le c]
  rcases Nat.lt_or_ge k b.length with d|d
  ·rw[zxe d]
   show (-1:Int)<0↔_
   omega
  ·rw[List.drop_eq_nil_of_le d]
   show (0:Int)<0↔_
   omega
theorem Ih(a b:List Int)(u v:Value)(S T:Nat->Prop)(w:World)(o:bB S w u a)(r:bB T w v b):
  CP 49 #[u,v] w fun e N=>e=.returned (.bool (decide (Cz.di a b<0)))/\∃n,N=w.drewN n:=by
 obtain⟨g,xc,rfl,O,H,I⟩:=o.form;obtain⟨j,yc,rfl,xq,sK,qD⟩:=r.form;have P:=hid o;have Q:=hid r;clear o r;go_enter func49,ntmps49;go_upto_region 2 with fail;go_loopw [5] (fun i wr=>∃k:Nat,k<=a.length/\k<=b.length/\i=.int .i64 k/\Hid (Cz.di a b=Cz.di (a.drop k) (b.drop k))/\Hid (∃c,wr=w.drewN c)) (fun i _=>a.length-(intOf i).toNat);case atStart=>exact⟨0,zxa _,zxa _,rfl,hid rfl,hid ⟨0,rfl⟩⟩
 case round=>
  obtain⟨k,s,t,rfl,d,HR⟩:=hrel;have J:=hid (fun q=>(by obtain⟨c,h⟩:=HR.out;rw[h];exact⟨c+q,mE⟩:∃c,wr.drewN q=w.drewN c));have R:=zN k
  by_cases x:k<a.length/\k<b.length
  ·obtain⟨l,m⟩:=x
   obtain⟨p,hx, -,rfl⟩:=P.out.at l;obtain⟨q,K, -,rfl⟩:=Q.out.at m;have y:wr.cell? ⟨bM g,bT g+k,none⟩=some (.int .i64 a[k]):=by obtain⟨c,h⟩:=HR.out;rw[h];exact hx
   have z:wr.cell? ⟨bM j,bT j+k,none⟩=some (.int .i64 b[k]):=by obtain⟨c,h⟩:=HR.out;rw[h];exact K
   have U:(k:Int)<a.length:=aD
   have V:(k:Int)<b.length:=aD
   have A:Hid (a[k]=b[k]->Cz.di a b=Cz.di (a.drop (k+1)) (b.drop (k+1))):=hid (fun h=>d.out.trans (Vl l m h))
   have B:Hid (a[k]≠b[k]->decide (Cz.di a b<0)=decide (a[k]<b[k])):=hid (fun h=>by
    rw[d.out,Vn l m h,decide_eq_decide];unfold Cz.dB;split
    ·omega
    ·split<;>omega)
   clear hx K d;generalize a[k]=p at*;generalize b[k]=q at*;by_cases f:p=q
   ·have C:(p !=q)=false:=by simp[f]
    have D:=hid (A.out f);clear A B f;go_wp2;go_quiet (fail);have E:=hid (J.out nq);go_wp2;go_roundw;case rel=>exact⟨k+1,aD,aD,zG,D,E⟩
    exact zI
   ·have C:(p !=q)=true:=by simp[f]
    have F:=hid (B.out f);clear A B;go_wp2;go_quiet (fail);have E:=hid (J.out nq);have W:(wr.drewN nq).cell? ⟨bM g,bT g+k,none⟩=some (.int .i64 p):=y;have X:(wr.drewN nq).cell? ⟨bM j,bT j+k,none⟩=some (.int .i64 q):=z;have Y:=hid (fun L=>(by obtain⟨c,h⟩:=E.out;rw[h];exact⟨c+L,mE⟩:∃c,(wr.drewN nq).drewN L=w.drewN c));generalize wr.drewN nq=wd at*;go_wp2;go_quiet (fail);have G:=hid (Y.out nq);go_wp2;go_ret;exact⟨gL F.out.symm,G.out⟩
  ·have M:Hid (decide (Cz.di a b<0)=decide ((a.length:Int)<b.length)):=hid (by
    rw[d.out,decide_eq_decide,aaT (k:=k) aD s t]
    omega)
   clear d;by_cases l:k<a.length
   ·have m:¬(k:Int)<b.length:=by omega
    have Z:(k:Int)<a.length:=aD
    go_wp2;go_ret;exact⟨gL (by rw[M.out];simp),HR.out⟩
   ·have Z:¬(k:Int)<a.length:=by omega
    go_wp2;go_ret;exact⟨gL (by rw[M.out];simp),HR.out⟩
end Go.Proofs.YtohddpbgflgiaaaGreatDoor
