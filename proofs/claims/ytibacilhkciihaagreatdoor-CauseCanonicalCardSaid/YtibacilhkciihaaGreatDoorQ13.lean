/- Part 13 of the walks and plain laws that the proof needs (packed). -/
import Derived.Test.YtibacilhkciihaaGreatDoorQ1
import Derived.Test.YtibacilhkciihaaGreatDoorQ6
import Derived.Test.YtibacilhkciihaaGreatDoorQ10
import Derived.Test.YtibacilhkciihaaGreatDoorQ11
import Derived.Test.YtibacilhkciihaaGreatDoorQ12
set_option linter.all false
set_option maxRecDepth 100000
set_option maxHeartbeats 8000000
namespace Go.Proofs.YtibacilhkciihaaGreatDoor
open Go.RowKit
theorem Cv(ls:List Cz.Row)(hl:ls.length<=1000)(ai al:Option Addr)(ci cl:Nat)(w:World)(hv:dr (·<w.heap.size) w (.slice al ls.length cl) ls):
  Calls Tryz.prog 54 #[.agg #[.slice ai ls.length ci,.slice al ls.length cl]] w fun e w'=>∃x,e=.returned x/\bg (w.heap.size<=·) w' x (Cz.rT ls)/\BL w w':=by
 obtain⟨w1,hw1⟩:=bB (w.alloc (.cells #[.slice ai ls.length ci,.slice al ls.length cl] 120));have hb1:BL w w1:=Ab
 have hz1:w1.heap.size=w.heap.size+1:=jH
 have Ga:Hid (w1.heap[w.heap.size]?=some (.cells #[.slice ai ls.length ci,.slice al ls.length cl] 120 (0,0))):=hid CM;have Cd:=hid (zK ls aB _ w1 (E:=(·<w1.heap.size)) (fun _ h=>h) (dr.mono (S':=(·<w1.heap.size)) (hv.keep (aD.below hb1)) (fun b _ hb=>by have h9:b<w.heap.size:=hb;omega)));have HV:=hid hv;have HW1:=hid hw1;have bT:=hid hb1;have M7:=hid hz1;have hok:dX al ls.length:=by obtain⟨a,c,e,h, -⟩:=hv.form;cases e;exact h
 clear hv hw1 hb1 hz1;have hmk:=fun W=>Na (P:=Tryz.prog) (t:=22) (e:=3) (b:=8) (by kernel_rfl) (by kernel_rfl) aB ls.length aB W;have x1:w1.cell? ⟨w.heap.size,1,none⟩=some (.slice al ls.length cl):=by simp[World.cell?,Ga.out]
 go_enter Tryz.func54,Tryz.ntmps54;go_upto_region 1 with fail;rw[<-HW1.out];go_wp2_with fail;refine Cd.out.mono ?_;rintro e w2 ⟨x,rfl,hR2,hb2⟩;obtain⟨ax,cx,rfl⟩:=hR2.form;have D4:=hid (M8 _ _ w2 ax _ cx ls hR2 aB);have bX:=hid hb2;have xD:=hid (fun b hb=>(hR2.lt b hb).1);clear hR2 hb2 Cd x1;go_wp2_with fail;refine D4.out.mono ?_;rintro e w3 ⟨rfl,ys,hp,hs,hR3,ht3⟩;have Dm:=DJ w1.heap.size (·<w1.heap.size) w3 ax cx ys (by rw[hp.length_eq];exact hR3) (by rw[hp.length_eq];omega) (hs.imp (fun h=>by omega));rw[hp.length_eq,Cz.mC Cz.cZ (fun x=>hp.mem_iff)] at Dm;have adM:=hid Dm;have cE:Hid (BL w1 w3):=hid (bX.out.trans (ht3.below bX.out.size (fun b hb=>xD.out b hb)));clear hp hs hR3 ht3 Dm D4;go_wp2_with fail;refine adM.out.mono ?_;rintro e w4 ⟨rfl,hR4,rB⟩;have gK:Hid (BL w1 w4):=hid (cE.out.trans (rB.below cE.out.size (fun b hb=>xD.out b hb)));have HR4:=hid hR4;have HG:=hid (fun b hb=>(hR4.lt b hb).2);have hz4:=gK.out.size;have NY:=(gK.out.block _ (aC Ga.out)).trans Ga.out;have x0:w4.cell? ⟨w.heap.size,0,none⟩=some (.slice ai ls.length ci):=by simp[World.cell?,NY]
 have hc5:=(((Below.refl w4.heap.size w4).alloc aH (.cells (zeroCells ls.length) 3)).block _ (aC NY)).trans NY;have x1:(w4.alloc (.cells (zeroCells ls.length) 3)).cell? ⟨w.heap.size,1,none⟩=some (.slice al ls.length cl):=by simp only[World.cell?,hc5];rfl
 clear hc5 hR4 rB adM NY;obtain⟨g5,hg5⟩:=bB w4.heap.size;have HM:=hid (JB w4 ls.length aB);have HG5:Hid (w1.heap.size<=g5):=hid (by rw[hg5];exact hz4);have HA:=hid ((Below.refl w4.heap.size w4).alloc aH (.cells (zeroCells ls.length) 3));go_wp2;clear hmk x0 x1;rw[<-hg5];rw[<-hg5] at HG HM;have wQ:=hid (show w4.heap.size<=g5 by omega);clear hg5;go_loopw [21] (fun s wr=>∃(i:Nat) (zs:List Int),i<=ls.length/\s=.int .i64 i/\Hid (zs.length=ls.length/\∀j,j<i->zs[j]?=(Cz.rT ls)[j]?)/\Hid (bg (w1.heap.size<=·) wr (.slice (some ⟨g5,0,none⟩) ls.length ls.length) zs)/\Hid (gX w1.heap.size (·<w1.heap.size) wr (.slice ax (Cz.cT Cz.dA ls).length cx) (Cz.cT Cz.dA ls))/\Hid (BL w1 wr)) (fun s _=>ls.length-(intOf s).toNat);case atStart=>exact⟨0,List.replicate ls.length 0,aB,rfl,hid ⟨bp,fun j hj=>absurd hj aB⟩,hid (aX.mono HM.out (fun b _ hb=>Nat.le_trans HG5.out hb)),hid (HR4.out.next HA.out),hid (gK.out.trans (HA.out.mono hz4))⟩
 case round=>
  obtain⟨i,zs,hi,rfl,HZ,HI,HR,HB⟩:=hrel;have mQ:=hid (bT.out.trans (HB.out.mono (by have:=M7.out;omega)));by_cases hlt:i<ls.length
  ·obtain⟨u,hu1, -,mU⟩:=(HV.out.keep (aD.aS mQ.out (fun _ h=>h))).at hlt
   have hi0:(0:Int)<=(i:Int):=aB
   have hi1:(i:Int)<(ls.length:Int):=aB
   have hmem:ls[i]∈ls:=gm _;have hpos:0<(Cz.cT Cz.dA ls).length:=List.length_pos_of_mem ((Cz.ja Cz.cZ).2 hmem);have hsl:(Cz.cT Cz.dA ls).length<=ls.length:=Cz.nQ _;have HSe:=hid (Jz _ _ wr ax _ cx _ HR.out hpos aB (Cz.gG Cz.cZ) ls[i] u (·<w.heap.size) mU (fun b hb e=>by have:=(HR.out.lt b e).1;have:=M7.out;have h9:b<w.heap.size:=hb;omega))
   have HRk:Hid (∀z,z=Cz.pos Cz.dA (Cz.cT Cz.dA ls) ls[i]->(Cz.rT ls)[i]?=some (z:Int)):=hid (by
    rintro z rfl
    unfold Cz.rT
    rw[List.getElem?_map,lE hlt]
    rfl)
   obtain⟨z,hz⟩:=bB (Cz.pos Cz.dA (Cz.cT Cz.dA ls) ls[i]);rw[<-hz] at HSe;have HRk2:=hid (HRk.out z hz);have hrw:=HR.out.lt;clear hz HRk mU hmem hpos hsl;go_wp2_with fail;refine HSe.out.mono ?_;rintro e w6 ⟨f,rfl,rA,hR6⟩;have Zu:bg (w1.heap.size<=·) w6 (.slice (some ⟨g5,0,none⟩) ls.length ls.length) zs:=⟨cQ (S:=fun b=>b=g5) HI.out.1 (fun b hb=>by simp[Value.ownBlock] at hb;exact hb.symm) (fun b hb hlt=>rA.block b (fun e=>by have:=HG.out b e;omega) hlt),HI.out.2⟩;obtain⟨g',cap',hv', -, -, -,hcells⟩:=eV Zu.1 (by rw[HZ.out.1];omega);obtain⟨cc,cf⟩:=hcells i (by simp[HZ.out.1];omega);obtain rfl:g5=g':=by simp at hv';exact hv'.1
   have wX:=hid (bg.put Zu HZ.out.1.symm i (z:Int))
   have Ko:Hid (gX w1.heap.size (·<w1.heap.size) (w6.setCell ⟨g5,i,none⟩ (.int .i64 (z:Int))) (.slice ax (Cz.cT Cz.dA ls).length cx) (Cz.cT Cz.dA ls)):=hid (hR6.kept (fun b hlt h=>jQ _ _ _ _ (fun e=>by
    have e1:b=g5:=e;have:=HG5.out;rcases h with h|h
    ·have:=HG.out b h;omega
    ·have h9:b<w1.heap.size:=h;omega)))
   have jT:Hid (BL w1 (w6.setCell ⟨g5,i,none⟩ (.int .i64 (z:Int)))):=hid (HB.out.trans ((Turns.setCell (S:=(w1.heap.size<=·)) (rA.mono (fun b _ hb=>(hrw b hb).1)) ⟨g5,i,none⟩ (.int .i64 (z:Int)) HG5.out).below HB.out.size (fun b hb=>hb)))
   have XR:Hid ((zs.set i (z:Int)).length=ls.length/\∀j,j<i+1->(zs.set i (z:Int))[j]?=(Cz.rT ls)[j]?):=hid ⟨by simp[HZ.out.1],fun j hj=>by
    by_cases e:j=i
    ·subst e;rw[List.getElem?_set_self (by rw[HZ.out.1];exact hlt),HRk2.out]
    ·rw[List.getElem?_set_ne (Ne.symm e)];exact HZ.out.2 j aB⟩
   clear Zu rA hR6 hcells hv' hu1 HSe;go_wp2;go_roundw;case rel=>exact⟨i+1,_,aB,by go_num,XR,wX,Ko,jT⟩
   simp[intOf];omega
  ·obtain rfl:i=ls.length:=by omega
   have HE:Hid (zs=Cz.rT ls):=hid (List.ext_getElem? fun j=>by
    by_cases hj:j<ls.length
    ·exact HZ.out.2 j hj
    ·rw[List.getElem?_eq_none (by rw[HZ.out.1];omega),List.getElem?_eq_none (by simp[Cz.rT];omega)])
   go_wp2;go_ret;exact⟨_,rfl,by rw[<-HE.out];exact aX.mono HI.out (fun b _ hb=>by have h9:w1.heap.size<=b:=hb;have:=M7.out;show w.heap.size<=b;omega),mQ.out⟩
theorem Bm(xs:List (List (List Int)))(u v:Value)(S T:Nat->Prop)(w:World)(hu:bN S w u xs)(hv:bN T w v xs):
  Calls Tryz.prog 27 #[u,v] w fun e w'=>e=.returned (.bool true)/\BL w w':=by
 obtain⟨a,cap,rfl,hok,hcap,hmax⟩:=hu.form;obtain⟨a',cap',rfl,wL,rY,o9⟩:=hv.form;have HU:=hid (fun(W:World) (hW:BL w W)=>bN.keep hu (aD.below hW));have HV:=hid (fun(W:World) (hW:BL w W)=>bN.keep hv (aD.below hW));clear hu hv;have hne:((xs.length:Int) !=(xs.length:Int))=false:=bp
 go_enter Tryz.func27,Tryz.ntmps27;go_wp2;go_loopw [5] (fun i wr=>∃k:Nat,k<=xs.length/\i=.int .i64 k/\Hid (BL w wr)) (fun i _=>xs.length-(intOf i).toNat);case atStart=>exact⟨0,Nat.zero_le _,rfl,hid aF⟩
 case round=>
  obtain⟨k,hk,rfl,HB⟩:=hrel;by_cases hlt:k<xs.length
  ·obtain⟨x,hx,hxl,hx2⟩:=(HU.out wr HB.out).at hlt
   obtain⟨y,hy,hyl,hy2⟩:=(HV.out wr HB.out).at hlt;obtain⟨a1,c1,rfl,ok1,hc1,hcm1⟩:=hx2.form;obtain⟨a2,c2,rfl,ok2, -, -⟩:=hy2.form;have hk0:(0:Int)<=(k:Int):=aB
   have hk1:(k:Int)<(xs.length:Int):=aB
   obtain⟨rs,Tg⟩:=bB (xs[k]);rw[<-Tg] at hx hy hx2 hy2 ok1 ok2 hc1;have HX:=hid (fun(W:World) (hW:BL wr W)=>dr.keep hx2 (aD.below hW));have HY:=hid (fun(W:World) (hW:BL wr W)=>dr.keep hy2 (aD.below hW));have KM:=hid Tg;have HCx:=hid (fun(W:World) (hW:BL wr W)=>And.intro ((hW.cell (p:=⟨bL a,bP a+k,none⟩) hxl).trans hx) ((hW.cell (p:=⟨bL a',bP a'+k,none⟩) hyl).trans hy));clear hx2 hy2 Tg;have aaO:((rs.length:Int) !=(rs.length:Int))=false:=bp
   have HD:=hid (fun n=>aI (Below.refl wr.heap.size wr) n);clear hxl hyl;go_wp2;go_quiet (fail);go_wp2;clear hx hy;generalize I3:wr=Wb at*;clear I3;go_loopw [6] (fun i w2=>∃m:Nat,m<=rs.length/\i=.int .i64 m/\Hid (BL Wb w2)) (fun i _=>rs.length-(intOf i).toNat);case atStart=>exact⟨0,Nat.zero_le _,rfl,hid (HD.out _)⟩
   case round=>
    obtain⟨m,hm,rfl,bX⟩:=hrel;obtain⟨hx,hy⟩:=HCx.out wr bX.out;by_cases hmt:m<rs.length
    ·obtain⟨p,hp1, -,hp2⟩:=(HX.out wr bX.out).at hmt
     obtain⟨q,hq1, -,Ta⟩:=(HY.out wr bX.out).at hmt;have hm0:(0:Int)<=(m:Int):=aB
     have hm1:(m:Int)<(rs.length:Int):=aB
     have HSm:Hid (∀nq,Calls Tryz.prog 64 #[p,q] (wr.drewN nq) fun e w'=>e=.returned (.bool true)/\∃m,w'=wr.drewN m):=hid (fun nq=>(CT rs[m] rs[m] p q _ _ (wr.drewN nq) (bq.keep hp2 (aD.below (aI aF nq))) (bq.keep Ta (aD.below (aI aF nq)))).mono fun e w' h=>⟨by rw[h.1,decide_eq_true rfl],by obtain⟨n,hn⟩:=h.2;exact⟨nq+n,by rw[hn,World.drewN_drewN]⟩⟩);have XB:=hid (fun n=>bX.out.trans ((aI (Below.refl wr.heap.size wr) n).mono bX.out.size));clear hp2 Ta;go_wp2;go_quiet ((exact HSm.out _));go_wp2;go_roundw;case rel=>exact⟨m+1,aB,by go_num,hid (XB.out _)⟩
     simp[intOf];omega
    ·have cE:=aU HB bX.out
     go_wp2;go_roundw;case rel=>exact⟨k+1,aB,by go_num,cE⟩
     simp[intOf];omega
  ·go_wp2
   go_ret;exact⟨rfl,HB.out⟩
end Go.Proofs.YtibacilhkciihaaGreatDoor
namespace Go.Proofs.YtibacilhkciihaaGreatDoor.Cz
def YG:fT:=[[-1, -2],[-1,0]]
def exW:Wd:=[[[7,5],[8,3]],[[2,0],[1,0]]]
def exV:Wd:=[[[0,3],[0,5]],[[0,1],[0,1]]]
def exU:Wd:=[[[1,3],[2,5]],[[9,1],[8,1]]]
theorem adN:canon YG exW=some exV:=by decide+kernel
theorem ex_u:canon YG exU=some exV:=by decide+kernel
theorem Lc:l7 YG exW where
 lk:=rfl
 r k i hk hi:=by
  have hk:k<2:=hk;have h:k=0\/k=1:=aB
  rcases h with rfl|rfl<;>(have hi:i<2:=hi;have h:i=0\/i=1:=by omega)<;>rcases h with rfl|rfl<;>rfl
 ref k i f hk hi hf hr:=by
  have hk:k<2:=hk;have h:k=0\/k=1:=aB
  rcases h with rfl|rfl
  ·have hf:f<2:=hf
   have h:f=0\/f=1:=aB
   rcases h with rfl|rfl<;>exact absurd hr fH
  ·have hf:f<2:=hf
   have h:f=0\/f=1:=aB
   rcases h with rfl|rfl
   ·exact absurd hr fH
   ·have hi:i<2:=hi
    have h:i=0\/i=1:=aB
    rcases h with rfl|rfl<;>exact⟨fH,fH,fH⟩
 code k f:=by
  unfold fk YG;match k,f with
  |0,0=>decide
  |0,1=>decide
  |0,f+2=>simp
  |1,0=>decide
  |1,1=>decide
  |1,f+2=>simp
  |k+2,f=>simp
end Go.Proofs.YtibacilhkciihaaGreatDoor.Cz
namespace Go.Proofs.YtibacilhkciihaaGreatDoor.Cz
theorem Cw:∀(l:Row) (c:Int->Nat),1<=gW c l
 |[],_=>aH
 |x::t,c=>by
  unfold gW;have:=Cw t (fun y=>if y=x then c y+1 else c y);exact Nat.mul_le_mul (show 1<=c x+1 by omega) this
theorem rN:∀(l:Row) (c:Int->Nat) (x:Int),gW c (l++[x])=gW c l*(c x+l.count x+1)
 |[],c,x=>by simp[gW]
 |y::t,c,x=>by
  rw[List.cons_append];unfold gW;rw[rN t,Nat.mul_assoc];congr 2;by_cases e:x=y
  ·subst e
   rw[if_pos rfl,List.count_cons_self];omega
  ·rw[if_neg e,List.count_cons_of_ne (Ne.symm e)]
theorem JC(c:Int->Nat)(l:Row):∀t:Row,gW c l<=gW c (l++t):=by
 intro t;induction t generalizing l with
 |nil=>rw[List.append_nil];exact aH
 |cons x t ih=>
  have h1:=ih (l++[x])
  rw[List.append_assoc,List.singleton_append] at h1
  refine Nat.le_trans ?_ h1
  rw[rN]
  exact Nat.le_mul_of_pos_right _ aB
theorem tC:∀(S:List Row) (l:Row),arr (S++[l])=arr S*gW (fun _=>0) l
 |[],l=>by simp[arr]
 |m::S,l=>by
  have:=tC S l;unfold arr at*;rw[List.cons_append,List.foldr_cons,List.foldr_cons,this,Nat.mul_assoc]
theorem RZ(S:List Row):∀T:List Row,arr S<=arr (S++T):=by
 intro T;induction T generalizing S with
 |nil=>rw[List.append_nil];exact aH
 |cons l T ih=>
  have h1:=ih (S++[l])
  rw[List.append_assoc,List.singleton_append] at h1
  refine Nat.le_trans ?_ h1
  rw[tC]
  exact Nat.le_mul_of_pos_right _ (Cw _ _)
theorem R3{S:List Row}{k:Nat}(hk:k<S.length)(i:Nat):arr (S.take k)*gW (fun _=>0) (S[k].take i)<=arr S:=by
 have h1:arr (S.take k)*gW (fun _=>0) (S[k].take i)<=arr (S.take (k+1)):=by
  rw[CY hk,tC];refine Nat.mul_le_mul_left _ ?_;have:=JC (fun _=>0) (S[k].take i) (S[k].drop i);rwa [List.take_append_drop] at this
 refine Nat.le_trans h1 ?_;have:=RZ (S.take (k+1)) (S.drop (k+1));rwa [List.take_append_drop] at this
theorem R4(l:Row){i:Nat}(hi:i<l.length):gW (fun _=>0) (l.take (i+1))=gW (fun _=>0) (l.take i)*((l.take i).count l[i]+1):=by
 rw[CY hi,rN,Nat.zero_add]
end Go.Proofs.YtibacilhkciihaaGreatDoor.Cz
namespace Go.Proofs.YtibacilhkciihaaGreatDoor
open Go.RowKit
theorem R5{x:ah.cA}(hu:ah.mH x){W:ah.eE}(h:Cz.l7 (aO x) W)(ht:ah.total W<=512):bV.oQ x W=true:=by
 have hl:W.length=x.aA.length:=by rw[h.lk,kR]
 unfold bV.oQ;simp only[pF,qZ,List.all_eq_true,List.mem_range];refine⟨⟨⟨hl,fun k hk r hr=>?_⟩,fun r hr l hl'=>?_⟩,ht⟩
 ·obtain⟨i,hi,rfl⟩:=List.getElem_of_mem hr
  have:=h.r k i hk hi;rw[dc x aB] at this;rw[<-this];unfold Cz.row;rw[Cz.aQ hi]
 ·obtain⟨r1,r2,r3,r4,r5⟩:=bV.BO hr
  obtain⟨i,hi,rfl⟩:=List.getElem_of_mem hl';have h1:=hu r.kind r.field r1 r2 r3;have e:jf x r.kind r.field=ah.dI x r.kind r.field:=by unfold jf;rw[if_neg aB,if_pos r3]
  have h2:=h.ref r.kind i r.field aB hi (by rw[dc x r1];exact r2) (by rw[oI x r1 r2,e];exact h1);rw[oI x r1 r2,e] at h2;obtain⟨q1,q2,q3⟩:=h2;unfold Cz.cell Cz.row at q2 q3;rw[Cz.aQ hi] at q2 q3;rw[r4];refine⟨q2,?_⟩;unfold Cz.len at q3;unfold ah.fQ;omega
theorem Nb{x:ah.cA}(hok:ah.okB x=true)(hu:ah.mH x){W:ah.eE}(h:Cz.l7 (aO x) W)(ht:ah.total W<=512):bV.uj x W (gP W)=0:=by
 unfold bV.uj;rw[if_pos hok,if_pos (R5 hu h ht),if_pos];unfold bV.ox gP;simp
end Go.Proofs.YtibacilhkciihaaGreatDoor
namespace Go.Proofs.YtibacilhkciihaaGreatDoor.Cz
def OkS(w:Wd)(S:List Row):Prop:=S.length=w.length/\∀k,k<w.length->(S.getD k []).length=len w k
theorem R6{ks:fT}{w:Wd}{P:List Row}(n:Nat)(h:diff (fA ks w P)=diff P):oD ks w (n+1) P=fA ks w P:=by
 rw[oD,if_pos h]
theorem aaY{ks:fT}{w:Wd}{P:List Row}{n:Nat}(hP:OkS w P)(hn:total w<=n+diff P)(h:¬diff (fA ks w P)=diff P):
  ∃m,n=m+1/\total w<=m+diff (fA ks w P)/\oD ks w (n+1) P=oD ks w (m+1) (fA ks w P)/\diff P<diff (fA ks w P)/\diff (fA ks w P)<=total w:=by
 have h1:=Co (ks:=ks) hP.1 hP.2;have h2:=xH ks w P;have h3:=K6 h2.1 h2.2;refine⟨n-1,aB,aB,?_,aB,h3⟩;rw[oD,if_neg h,show n-1+1=n by omega]
end Go.Proofs.YtibacilhkciihaaGreatDoor.Cz
namespace Go.Proofs.YtibacilhkciihaaGreatDoor.Cz
theorem qz{α:Type}(xs:List α)(k j:Nat)(x d:α):(xs.set k x).getD j d=if k=j/\j<xs.length then x else xs.getD j d:=by
 rw[jm,List.getElem?_set,jm];by_cases h:k=j
 ·subst h
  by_cases g:k<xs.length<;>simp[g]
 ·simp[h]
def jg(w:Wd)(k i f:Nat)(y:Int):Wd:=w.set k ((w.getD k []).set i ((row w k i).set f y))
theorem nT(w:Wd)(k i f:Nat)(y:Int)(k':Nat):len (jg w k i f y) k'=len w k':=by
 unfold len jg;rw[qz];split
 ·rename_i h;rw[List.length_set,h.1]
 ·rfl
theorem Gd(w:Wd)(k i f:Nat)(y:Int){k' i':Nat}(hk:k<w.length)(hi:i<len w k):row (jg w k i f y) k' i'=if k=k'/\i=i' then (row w k i).set f y else row w k' i':=by
 unfold row jg;rw[qz];by_cases e:k=k'
 ·subst e
  rw[if_pos ⟨rfl,hk⟩,qz];by_cases e2:i=i'
  ·subst e2;rw[if_pos ⟨rfl,hi⟩,if_pos ⟨rfl,rfl⟩];rfl
  ·rw[if_neg (fun h=>e2 h.1),if_neg (fun h=>e2 h.2)]
 ·rw[if_neg (fun h=>e h.1),if_neg (fun h=>e h.1)]
theorem Cx(w:Wd)(k i f:Nat)(y:Int){k' i' f':Nat}(hk:k<w.length)(hi:i<len w k)(hf:f<(row w k i).length):cell (jg w k i f y) k' i' f'=if k=k'/\i=i'/\f=f' then y else cell w k' i' f':=by
 unfold cell;rw[Gd w k i f y hk hi];by_cases e:k=k'/\i=i'
 ·rw[if_pos e,qz]
  obtain⟨rfl,rfl⟩:=e;by_cases e2:f=f'
  ·subst e2;rw[if_pos ⟨rfl,hf⟩,if_pos ⟨rfl,rfl,rfl⟩]
  ·rw[if_neg (fun h=>e2 h.1),if_neg (fun h=>e2 h.2.2)]
 ·rw[if_neg e,if_neg (fun h=>e ⟨h.1,h.2.1⟩)]
theorem Ge{ks:fT}{w:Wd}(h:l7 ks w){k i f:Nat}(hk:k<w.length)(hi:i<len w k)(hf:f<(ks.getD k []).length)(e:fk ks k f= -2)(y:Int):l7 ks (jg w k i f y) where
 lk:=by unfold jg;rw[List.length_set];exact h.lk
 code:=h.code
 r k' i' hk' hi':=by
  have hk2:k'<w.length:=by unfold jg at hk';rwa [List.length_set] at hk'
  rw[nT] at hi';rw[Gd w k i f y hk hi];split
  ·rename_i q;obtain⟨rfl,rfl⟩:=q;rw[List.length_set];exact h.r k i hk hi
  ·exact h.r k' i' hk2 hi'
 ref k' i' f' hk' hi' hf' hr:=by
  have hk2:k'<w.length:=by unfold jg at hk';rwa [List.length_set] at hk'
  rw[nT] at hi';obtain⟨q1,q2,q3⟩:=h.ref k' i' f' hk2 hi' hf' hr
  have hne:¬(k=k'/\i=i'/\f=f'):=by
   rintro ⟨rfl,rfl,rfl⟩;omega
  rw[Cx w k i f y hk hi (by rw[h.r k i hk hi];exact hf),if_neg hne,nT];exact⟨by unfold jg;rw[List.length_set];exact q1,q2,q3⟩
theorem R7{ks:fT}{w:Wd}(h:l7 ks w){k i f:Nat}(hk:k<w.length)(hi:i<len w k)(hf:f<(ks.getD k []).length)(y:Int):uM (col (jg w k i f y) k f)=uM (col w k f)-cell w k i f+y:=by
 have e:col (jg w k i f y) k f=(col w k f).set i y:=by
  unfold col;rw[nT];refine List.ext_getElem bp fun j h1 h2=>?_;simp only[List.getElem_map,List.getElem_range,List.getElem_set];rw[Cx w k i f y hk hi (by rw[h.r k i hk hi];exact hf)];by_cases q:i=j
  ·rw[if_pos ⟨rfl,q,rfl⟩,if_pos q]
  ·rw[if_neg (fun z=>q z.2.1),if_neg q]
 rw[e,FX _ _ _ (by unfold col;simpa using hi)];unfold col;rw[dB _ _ _ hi]
theorem JD{ks:fT}{w v v':Wd}(hw:l7 ks w){k i f:Nat}(hk:k<w.length)(hi:i<len w k)(hf:f<(ks.getD k []).length)(e:fk ks k f= -2){y:Int}(hy:y≠cell w k i f)
  (h:canon ks w=some v)(h':canon ks (jg w k i f y)=some v'):v≠v':=
 FW hw (Ge hw hk hi hf e y) h h' hk hf e (by rw[R7 hw hk hi hf y];omega)
end Go.Proofs.YtibacilhkciihaaGreatDoor.Cz
namespace Go.Proofs.YtibacilhkciihaaGreatDoor
open Go.RowKit
def mK(r:Option Cz.Wd)(w:World)(e:Ending)(w':World):Prop:=
 (match r with
  |some v=>∃a n c,e=.returned (.tuple #[.slice a n c,.int .i64 0])/\bU (w.heap.size<=·) w' (.slice a n c) v
  |none=>e=.returned (.tuple #[.slice none 0 0,.int .i64 4]))/\BL w w'
def Gf(r s:Option Cz.Wd):Bool:=match r,s with
 |some v,some u=>decide (v=u)
 |_,_=>false
theorem zM(ra rb:Option Cz.Wd)(z:Int)(ak al ar aa ab:Option Addr)(nk ck nl cl nr cr na ca nb cb:Nat)(w:World)
  (HA:∀W,BL w W->CP 6 #[.agg #[.int .i64 z,.slice ak nk ck,.slice al nl cl,.slice ar nr cr],.slice aa na ca] W (mK ra W))
  (HB:∀W,BL w W->CP 6 #[.agg #[.int .i64 z,.slice ak nk ck,.slice al nl cl,.slice ar nr cr],.slice ab nb cb] W (mK rb W)):
  Calls Tryz.prog 9 #[.agg #[.int .i64 z,.slice ak nk ck,.slice al nl cl,.slice ar nr cr],.slice aa na ca,.slice ab nb cb] w fun e w'=>e=.returned (.bool (Gf ra rb))/\BL w w':=by
 obtain⟨w1,hw1⟩:=bB (w.alloc (.cells #[.int .i64 z,.slice ak nk ck,.slice al nl cl,.slice ar nr cr] 27));have hb1:BL w w1:=Ab
 have hc:w1.heap[w.heap.size]?=some (.cells #[.int .i64 z,.slice ak nk ck,.slice al nl cl,.slice ar nr cr] 27 (0,0)):=CM
 have H1:=hid (HA w1 hb1);have H2:=hid HB;have HC:=hid hc;have HW:=hid hw1;have bT:=hid hb1;clear HA HB hw1 hb1;obtain⟨⟨x0,x1,x2,x3⟩, -⟩:=bC hc;clear hc;go_enter Tryz.func9,Tryz.ntmps9;go_upto_region 1 with fail;rw[<-HW.out];go_wp2_with fail;refine H1.out.mono ?_;rintro e w2 ⟨hr,hb2⟩;have bX:=hid hb2;have H3:=hid (H2.out w2 (cG bT.out hb2));clear x0 x1 x2 x3;obtain⟨⟨x0,x1,x2,x3⟩, -⟩:=bC ((hb2.block _ (aC HC.out)).trans HC.out);clear hb2;cases ra with
 |none=>
  obtain rfl:=hr
  go_wp2_with fail
  refine H3.out.mono ?_
  rintro e w3 ⟨Gy,hb3⟩
  have Iu:Hid (BL w w3):=hid (cG bT.out (cG bX.out hb3))
  clear hb3 x0 x1 x2 x3
  cases rb with
  |none=>
   obtain rfl:=Gy
   go_wp2
   go_ret
   exact⟨rfl,Iu.out⟩
  |some u=>
   obtain⟨a3,n3,c3,rfl, -⟩:=Gy
   go_wp2
   go_ret
   exact⟨rfl,Iu.out⟩
 |some v=>
  obtain⟨a2,n2,c2,rfl,hv⟩:=hr
  have HVv:=hid (bU.sl hv)
  clear hv
  go_wp2_with fail
  refine H3.out.mono ?_
  rintro e w3 ⟨Gy,hb3⟩
  have Iu:Hid (BL w w3):=hid (cG bT.out (cG bX.out hb3))
  have cE:=hid hb3
  clear hb3 x0 x1 x2 x3
  cases rb with
  |none=>
   obtain rfl:=Gy
   go_wp2
   go_ret
   exact⟨rfl,Iu.out⟩
  |some u=>
   obtain⟨a3,n3,c3,rfl,hu⟩:=Gy
   have HS:=hid (Cp v u _ _ _ _ w3 (bN.keep HVv.out (aD.below cE.out)) (bU.sl hu))
   have HL:Hid (Gf (some v) (some u)=decide (v=u)):=hid rfl
   clear hu
   generalize decide (v=u)=d at*
   go_wp2_with fail
   refine HS.out.mono ?_
   rintro e w4 ⟨rfl,hb4⟩
   have HBf:=aU Iu hb4
   clear hb4
   go_wp2
   go_ret
   exact⟨by rw[HL.out];rfl,HBf.out⟩
end Go.Proofs.YtibacilhkciihaaGreatDoor
namespace Go.Proofs.YtibacilhkciihaaGreatDoor.Cz
theorem Nc(l:List Wd)(v:Wd):best (l++[v])=some (match best l with
  |none=>v
  |some b=>if uK v b<0 then v else b):=by
 unfold best;rw[List.foldl_append,List.foldl_cons,List.foldl_nil];split
 ·rename_i h;rw[h]
 ·rename_i b h
  rw[h];simp only;split<;>rfl
def kP(sort want:Row)(n:Nat)(o:List Nat)(i:Nat):List (List Nat):=
 ((List.range i).filter (fun i=>decide (i∉o/\sort.getD i 0=want.getD o.length 0))).flatMap fun i=>tr sort want n (o++[i])
theorem JE(sort want:Row)(n:Nat)(o:List Nat):kP sort want n o 0=[]:=rfl
theorem Nd{sort want:Row}{n:Nat}{o:List Nat}{i:Nat}(h:i∉o/\sort.getD i 0=want.getD o.length 0):kP sort want n o (i+1)=kP sort want n o i++tr sort want n (o++[i]):=by
 unfold kP;rw[List.range_succ,List.filter_append,List.flatMap_append]
 have:(List.filter (fun i=>decide (i∉o/\sort.getD i 0=want.getD o.length 0)) [i])=[i]:=by
  exact List.filter_cons_of_pos (p:=fun i=>decide (i∉o/\sort.getD i 0=want.getD o.length 0)) (decide_eq_true h)
 rw[this,List.flatMap_cons,List.flatMap_nil,List.append_nil]
theorem Gg{sort want:Row}{n:Nat}{o:List Nat}{i:Nat}(h:¬(i∉o/\sort.getD i 0=want.getD o.length 0)):kP sort want n o (i+1)=kP sort want n o i:=by
 unfold kP;rw[List.range_succ,List.filter_append,List.flatMap_append]
 have:(List.filter (fun i=>decide (i∉o/\sort.getD i 0=want.getD o.length 0)) [i])=[]:=by
  exact List.filter_cons_of_neg (p:=fun i=>decide (i∉o/\sort.getD i 0=want.getD o.length 0)) (fun q=>h (of_decide_eq_true q))
 rw[this,List.flatMap_nil,List.append_nil]
theorem Cy(sort want:Row)(n:Nat)(o:List Nat):kP sort want n o sort.length=tr sort want (n+1) o:=rfl
end Go.Proofs.YtibacilhkciihaaGreatDoor.Cz
namespace Go.Proofs.YtibacilhkciihaaGreatDoor
open Go.RowKit
namespace Cz
def iU(ks:fT)(up k:Nat):List (Nat×Nat):=(List.range k).flatMap fun k'=>((List.range (ks.getD k' []).length).filter (fun f=>decide (fk ks k' f=up))).map fun f=>(k',f)
def jb(ks:fT)(up k j:Nat):List (Nat×Nat):=((List.range j).filter (fun f=>decide (fk ks k f=up))).map fun f=>(k,f)
theorem oJ(ks:fT)(up k:Nat):iU ks up (k+1)=iU ks up k++jb ks up k (ks.getD k []).length:=by
 unfold iU;rw[List.range_succ,List.flatMap_append];simp[jb]
theorem zN(ks:fT)(up k j:Nat):jb ks up k (j+1)=jb ks up k j++if fk ks k j=up then [(k,j)] else []:=by
 unfold jb;rw[List.range_succ,List.filter_append,List.map_append];congr 1;by_cases h:fk ks k j=up<;>simp[h]
theorem CA(ks:fT)(up k:Nat){j:Nat}:∀{n:Nat},j<=n->jb ks up k j<+:jb ks up k n
 |0,h=>by
  obtain rfl:j=0:=aB
  exact List.prefix_refl _
 |n+1,h=>by
  by_cases e:j=n+1
  ·rw[e];exact List.prefix_refl _
  ·rw[zN]
   exact(CA ks up k aB).trans (List.prefix_append _ _)
theorem CD(ks:fT)(up:Nat){k:Nat}:∀{n:Nat},k<=n->iU ks up k<+:iU ks up n
 |0,h=>by
  obtain rfl:k=0:=aB
  exact List.prefix_refl _
 |n+1,h=>by
  by_cases e:k=n+1
  ·rw[e];exact List.prefix_refl _
  ·rw[oJ]
   exact(CD ks up aB).trans (List.prefix_append _ _)
theorem R8(ks:fT)(up:Nat){k j:Nat}(hk:k<ks.length)(hj:j<=(ks.getD k []).length):iU ks up k++jb ks up k j<+:iC ks up:=by
 have h1:iU ks up (k+1)<+:iC ks up:=CD ks up (n:=ks.length) aB;rw[oJ] at h1;exact((List.prefix_append_right_inj _).2 (CA ks up k hj)).trans h1
theorem R9(ks:fT)(up n:Nat)(hn:∀k,(ks.getD k []).length<=n):(iC ks up).length<=n*ks.length:=by
 have key:∀k,(iU ks up k).length<=n*k:=by
  intro k;induction k with
  |zero=>simp[iU]
  |succ k ih=>
   rw[oJ,xP]
   have h1:(jb ks up k (ks.getD k []).length).length<=(ks.getD k []).length:=by
    unfold jb;rw[Bp];exact KX
   have h2:=hn k
   rw[Nat.mul_succ]
   omega
 exact key ks.length
end Cz
theorem aaZ(x:ah.cA){k j:Nat}(hk:k<x.aA.length)(hj:j<(ah.kd x k).aG.length)(up:Nat):Cz.fk (aO x) k j=up↔(ah.fd x k j).kind=1/\ah.dI x k j=up:=by
 rw[oI x hk hj];unfold jf;by_cases e0:(ah.fd x k j).kind=0
 ·rw[if_pos e0];omega
 ·rw[if_neg e0]
  by_cases e1:(ah.fd x k j).kind=1
  ·rw[if_pos e1];simp[e1]
  ·rw[if_neg e1];simp[e1]
theorem d9.Ld{S:Nat->Prop}{w:World}{x:ah.cA}{z:Int}{ak al ar:Option Addr}{n nl nr ck cl cr:Nat}(hv:d9 S w (.agg #[.int .i64 z,.slice ak n ck,.slice al nl cl,.slice ar nr cr]) x){k:Nat}(hk:k<x.aA.length):
  ∃af cf,dX af x.aA[k].aG.length/\∀W,aD S w W->W.cell? ⟨bL ak,bP ak+k*4,none⟩=some (.string x.aA[k].name)/\W.cell? ⟨bL ak,bP ak+k*4+1,none⟩=some (.int .i64 x.aA[k].lo)/\W.cell? ⟨bL ak,bP ak+k*4+2,none⟩=some (.int .i64 x.aA[k].hi)/\
   W.cell? ⟨bL ak,bP ak+k*4+3,none⟩=some (.slice af x.aA[k].aG.length cf)/\dh S W (.slice af x.aA[k].aG.length cf) x.aA[k].aG:=by
 obtain⟨Om,JX,al',SI,Oo,Oq,he,hkk, -, -, -, -, -⟩:=hv.form;cases he;obtain⟨hz,hs,k0,k1,k2,uf,k3,hf⟩:=gU.at hkk hk;obtain⟨af,cf,rfl,hsf, -, -⟩:=hf.form;refine⟨af,cf,hsf,fun W hW=>?_⟩;have e:∀(o:Nat),W.cell? ⟨bL ak,o,none⟩=w.cell? ⟨bL ak,o,none⟩:=fun o=>World.cell?_of_block (hW _ hs hz);exact⟨(e _).trans k0,(e _).trans k1,(e _).trans k2,(e _).trans k3,hf.keep hW⟩
def kZ:Nat->Obj->Prop:=cellsOf [3,22]
theorem kZ.not{b:Nat}{c:Array Value}{t:TypeId}{f:Nat×Nat}(h1:t≠3)(h2:t≠22):¬kZ b (.cells c t f):=by simp[kZ,cellsOf,ofT,h1,h2]
theorem Nf(x:ah.cA)(h20:∀k∈x.aA,k.aG.length<=20)(h10:x.aA.length<=10)(up:Nat)(ak al ar aw:Option Addr)(ck cl cr nw cw:Nat)(S:Nat->Prop)(w:World)
  (hv:d9 S w (.agg #[.int .i64 x.aL,.slice ak x.aA.length ck,.slice al x.aP.length cl,.slice ar x.aR.length cr]) x)
  (b1 b2 b3:Addr)(J:List (Nat×Nat)->World->Prop)(hJS:∀pre W,J pre W->aD S w W)(hJ:∀pre A B,J pre A->BL A B->J pre B)
  (n0:Nat)(hn0:n0<=w.heap.size)(hY:∀pre (p:Nat×Nat) W,J pre W->pre++[p]<+:Cz.iC (aO x) up->CP 95 #[.int .i64 (p.1:Int),.int .i64 (p.2:Int),.pointer (some b1),.pointer (some b2),.pointer (some b3)] W fun e W'=>
   e=.returned (.tuple #[])/\J (pre++[p]) W'/\aM kZ n0 W W') (h0:J [] w):
  Calls Tryz.prog 94 #[.agg #[.int .i64 x.aL,.slice ak x.aA.length ck,.slice al x.aP.length cl,.slice ar x.aR.length cr,.slice aw nw cw],.int .i64 (up:Int),.func (.func 95) #[] #[.pointer (some b1),.pointer (some b2),.pointer (some b3)]] w fun e W'=>
   e=.returned (.tuple #[])/\J (Cz.iC (aO x) up) W'/\aM kZ n0 w W':=by
 have hsk:dX ak x.aA.length:=by obtain⟨Om,JX,al',SI,Oo,Oq,he, -, -, -,h, -⟩:=hv.form;cases he;exact h
 obtain⟨w1,hw1⟩:=bB (w.alloc (.cells #[.int .i64 x.aL,.slice ak x.aA.length ck,.slice al x.aP.length cl,.slice ar x.aR.length cr,.slice aw nw cw] 116));have hb1:BL w w1:=Ab
 have hz1:w1.heap.size=w.heap.size+1:=jH
 have HX:Hid (∀W,aM kZ n0 w1 W->W.heap[w.heap.size]?=some (.cells #[.int .i64 x.aL,.slice ak x.aA.length ck,.slice al x.aP.length cl,.slice ar x.aR.length cr,.slice aw nw cw] 116 (0,0))):=hid (fun W hW=>hW.2 _ _ CM (kZ.not fH fH));have Gh:=hid h20;clear h20;have HV:=hid hv;have HJS:=hid hJS;have HJ:=hid hJ;have HY:=hid hY;have HJ1:=hid (hJ _ _ _ h0 hb1);have BJ:Hid (aM kZ n0 w w1):=hid (aM.aS hb1 hn0);have HW1:=hid hw1;have HT:Hid (Cz.iC (aO x) up=Cz.iU (aO x) up x.aA.length):=hid (by unfold Cz.iC;rw[kR];rfl);have hn1:n0<=w1.heap.size:=aB
 clear hv hJS hJ hY h0 hw1 hb1 hz1;have x1:=(aN (HX.out w1 (aM.refl _ _ _)) 1);simp only[List.getElem?_toArray,List.getElem?_cons_succ,List.getElem?_cons_zero] at x1;go_enter Tryz.func94,Tryz.ntmps94;go_upto_region 1 with fail;rw[<-HW1.out];go_wp2;clear x1;go_loopw [13] (fun kk wr=>∃k:Nat,k<=x.aA.length/\kk=.int .i64 k/\Hid (J (Cz.iU (aO x) up k) wr)/\Hid (aM kZ n0 w1 wr)) (fun kk _=>x.aA.length-(intOf kk).toNat);case atStart=>exact⟨0,Nat.zero_le _,rfl,HJ1,hid (aM.refl _ _ _)⟩
 case round=>
  obtain⟨k,hk,rfl,HR,HK⟩:=hrel;by_cases hlt:k<x.aA.length
  ·have hk0:(0:Int)<=(k:Int):=by omega
   have hk1:(k:Int)<(x.aA.length:Int):=aB
   obtain⟨af,cf,hsf,hkd⟩:=HV.out.Ld hlt;have p9:=hid hkd;obtain⟨k0,k1,k2,k3, -⟩:=hkd wr (HJS.out _ _ HR.out);have hlen:Hid ((ah.kd x k).aG.length=x.aA[k].aG.length):=hid (by rw[dU hlt]);clear hkd;obtain⟨nf,hnf⟩:=bB (x.aA[k].aG.length);have Ej:=hid hnf;have adO:nf<=20:=by rw[hnf];exact Gh.out _ (gm hlt)
   rw[<-hnf] at k3 hsf p9 hlen;clear hnf;obtain⟨w4,hw⟩:=bB (wr.alloc (.cells #[.string x.aA[k].name,.int .i64 x.aA[k].lo,.int .i64 x.aA[k].hi,.slice af nf cf] 49));have hba:BL wr w4:=Ec
   have SX:Hid (aM kZ n0 w1 w4):=hid (HK.out.trans (aM.aS hba (Nat.le_trans hn1 HK.out.1.size)))
   have HR4:Hid (J (Cz.iU (aO x) up k++Cz.jb (aO x) up k 0) w4):=hid (by
    have:=HJ.out _ _ _ HR.out hba
    simpa [Cz.jb] using this)
   have hbx:w4.heap[wr.heap.size]?=some (.cells #[.string x.aA[k].name,.int .i64 x.aA[k].lo,.int .i64 x.aA[k].hi,.slice af nf cf] 49 (0,0)):=Lp
   have Ga:Hid (∀W,aM kZ n0 w4 W->W.cell? ⟨wr.heap.size,3,none⟩=some (.slice af nf cf)):=hid (fun W hW=>aN (hW.2 _ _ hbx (kZ.not fH fH)) 3);have c3:=Ga.out w4 (aM.refl _ _ _);have Bb:=hid hw;clear hw hba hbx;go_upto_region 4 with fail;rw[<-Bb.out];clear k0 k1 k2 k3;go_wp2;clear c3;generalize I3:wr=Wb at*;go_loopw [21] (fun jj wr=>∃j:Nat,j<=nf/\jj=.int .i64 j/\Hid (J (Cz.iU (aO x) up k++Cz.jb (aO x) up k j) wr)/\Hid (aM kZ n0 w4 wr)) (fun jj _=>nf-(intOf jj).toNat);case atStart=>exact⟨0,Nat.zero_le _,rfl,HR4,hid (aM.refl _ _ _)⟩
   case round=>
    obtain⟨j,hj,rfl,HRj,U2⟩:=hrel;by_cases hjt:j<nf
    ·have hj0:(0:Int)<=(j:Int):=by omega
     have hj1:(j:Int)<(nf:Int):=aB
     have rP:j<x.aA[k].aG.length:=TI
     have c3:=Ga.out wr U2.out;obtain⟨-, -, -, -,hfl⟩:=p9.out wr (HJS.out _ _ HRj.out);rw[Ej.out] at hfl;obtain⟨-, -, -, -, -,f3, -⟩:=dh.at hfl rP;rw[show x.aA[k].aG[j]=ah.fd x k j from (nA hlt rP).symm] at f3;have HF:=hid (aaZ x hlt (by rw[hlen.out];exact hjt) up);have HS:=hid (Cz.zN (aO x) up k j);have HU:=hid (p8 x k j _ S wr (HV.out.keep (HJS.out _ _ HRj.out)))
     obtain⟨⟨s0,s1,s2,s3⟩, -⟩:(wr.cell? ⟨w.heap.size,0,none⟩=some (.int .i64 x.aL)/\wr.cell? ⟨w.heap.size,1,none⟩=some (.slice ak x.aA.length ck)/\wr.cell? ⟨w.heap.size,2,none⟩=some (.slice al x.aP.length cl)/\wr.cell? ⟨w.heap.size,3,none⟩=some (.slice ar x.aR.length cr))/\True:=by
      have hc:=HX.out wr (SX.out.trans U2.out);exact⟨⟨aN hc 0,aN hc 1,aN hc 2,aN hc 3⟩,trivial⟩
     clear hfl;generalize (ah.fd x k j).kind=gk at*;generalize ah.dI x k j=uz at*;by_cases h1:gk=1
     ·have HFy:Hid (Cz.fk (aO x) k j=(up:Int)↔uz=(up:Int)):=hid (HF.out.trans ⟨fun h=>h.2,fun h=>⟨h1,h⟩⟩)
      clear HF;subst h1;go_wp2_with fail;refine HU.out.mono ?_;rintro e w6 ⟨rfl,rS⟩;have HR6:Hid (J (Cz.iU (aO x) up k++Cz.jb (aO x) up k j) w6):=hid (HJ.out _ _ _ HRj.out rS);have DY:Hid (aM kZ n0 w4 w6):=hid (U2.out.trans (aM.aS rS (Nat.le_trans (Nat.le_trans hn1 SX.out.1.size) U2.out.1.size)));clear rS s0 s1 s2 s3 f3 c3 HU;by_cases h2:uz=(up:Int)
      ·have e2:(uz==(up:Int))=true:=Lx h2
       have kT:=HFy.out.2 h2;have tG:Hid (Cz.iU (aO x) up k++Cz.jb (aO x) up k j++[(k,j)]=Cz.iU (aO x) up k++Cz.jb (aO x) up k (j+1)):=hid (by rw[HS.out,if_pos kT,List.append_assoc])
       have hm:Cz.iU (aO x) up k++Cz.jb (aO x) up k j++[(k,j)]<+:Cz.iC (aO x) up:=by
        rw[tG.out];exact Cz.R8 (aO x) up (by rw[kR];exact hlt) (by rw[dc x hlt,hlen.out];exact hjt)
       have HYc:=hid (HY.out _ (k,j) w6 HR6.out hm);clear hm kT h2;go_wp2_with fail;refine HYc.out.mono ?_;rintro e w7 ⟨rfl,hj7,LD⟩;have Ko:Hid (J (Cz.iU (aO x) up k++Cz.jb (aO x) up k (j+1)) w7):=hid (by rw[<-tG.out];exact hj7);have EP:Hid (aM kZ n0 w4 w7):=hid (DY.out.trans LD);clear hj7 LD HYc;go_wp2;go_roundw;case rel=>exact⟨j+1,aB,by go_num,Ko,EP⟩
       simp[intOf];omega
      ·have e2:(uz==(up:Int))=false:=nU h2
       have Ko:Hid (J (Cz.iU (aO x) up k++Cz.jb (aO x) up k (j+1)) w6):=hid (by
        rw[HS.out,if_neg (fun h=>h2 (HFy.out.1 h)),List.append_nil];exact HR6.out)
       clear h2;go_wp2;go_roundw;case rel=>exact⟨j+1,aB,by go_num,Ko,DY⟩
       simp[intOf];omega
     ·have e1:(gk==1)=false:=nU h1
      have Ko:Hid (J (Cz.iU (aO x) up k++Cz.jb (aO x) up k (j+1)) wr):=hid (by
        rw[HS.out,if_neg (fun h=>h1 (HF.out.1 h).1),List.append_nil];exact HRj.out)
      clear h1 s0 s1 s2 s3;go_wp2;go_roundw;case rel=>exact⟨j+1,aB,by go_num,Ko,U2⟩
      simp[intOf];omega
    ·obtain rfl:j=nf:=by omega
     have HRk:Hid (J (Cz.iU (aO x) up (k+1)) wr):=hid (by
      rw[Cz.oJ,dc x hlt,hlen.out];exact HRj.out)
     have HKk:Hid (aM kZ n0 w1 wr):=hid (SX.out.trans U2.out);go_wp2;go_roundw;case rel=>exact⟨k+1,aB,by go_num,HRk,HKk⟩
     simp[intOf];omega
  ·obtain rfl:x.aA.length=k:=by omega
   have HE:Hid (J (Cz.iC (aO x) up) wr/\aM kZ n0 w wr):=hid ⟨by rw[HT.out];exact HR.out,BJ.out.trans HK.out⟩;go_wp2;go_end0;exact⟨rfl,HE.out⟩
theorem oK{P:Program}{t:TypeId}{bytes:Nat}{w:World}{ops:Array Oper}{rest:List Oper}{o:Oper}{a:Act}{Q:Exit->Act->World->Prop}(hgd:o.guard=none)(s x:Operand)
  (ho:o.op=.call {callee:=.builtin .append,args:=#[s,x],argTypes:=#[t,t]})(hT:jh P t 3 1 bytes)
  {S:Nat->Prop}{v:Value}{xs:List Int}(hs:a.eval s=v)(hown:bg S w v xs){y:Int}{e':TypeId}
  (hx:a.eval x=.slice (some ⟨w.heap.size,0,none⟩) 1 1)(hsmall:xs.length+1<=1000000000)
  (h:∀v' w',bg (Grow S w.heap.size) w' v' (xs++[y])->Turns (fun b=>some b=v.ownBlock) w w'->wpList P ops Q rest (a.put o.dst v') w'):
  wpList P ops Q (o::rest) a (w.alloc (.cells #[.int .i64 y] e')):=by
 have ha:BL w (w.alloc (.cells #[.int .i64 y] e')):=aF.alloc aH _;refine gB hgd s x ho hT hs (hown.1.alloc _) _ 1 1 hx (fun _=>⟨_,_,rfl⟩) [.int .i64 y] rfl (gY w #[.int .i64 y] e') (by simp[Value.oneCell']) hsmall (Nat.zero_le _) (fun v' w' g1 g2 g3=>?_);exact YD
theorem DK{P:Program}{t:TypeId}{bytes:Nat}{w:World}{ops:Array Oper}{rest:List Oper}{o:Oper}{a:Act}{Q:Exit->Act->World->Prop}(hgd:o.guard=none)(s x:Operand)
  (ho:o.op=.call {callee:=.builtin .append,args:=#[s,x],argTypes:=#[t,t]})(hT:jh P t 3 1 bytes)
  {S:Nat->Prop}{v:Value}{xs:List Int}(hs:a.eval s=v)(hown:bg S w v xs)
  {ao:Option Addr}{m c:Nat}(hx:a.eval x=.slice ao m c){T:Nat->Prop}{ys:List Int}(hy:bq T w (.slice ao m c) ys)(hsmall:xs.length+m<=1000000000)
  (h:∀v' w',bg (Grow S w.heap.size) w' v' (xs++ys)->Turns (fun b=>some b=v.ownBlock) w w'->wpList P ops Q rest (a.put o.dst v') w'):
  wpList P ops Q (o::rest) a w:=jW hgd s x ho hT hs hown aF hx hy hsmall h
namespace Cz
def DL(w:Wd)(S:List Row)(k f i n:Nat):Row:=((List.range n).filter (fun j=>decide (cell w k j f=i))).map (sg S k)
theorem Ng(w:Wd)(S:List Row)(k f i n:Nat):DL w S k f i (n+1)=DL w S k f i n++if cell w k n f=i then [sg S k n] else []:=by
 unfold DL;rw[List.range_succ,List.filter_append,List.map_append];congr 1;by_cases h:cell w k n f=i<;>simp[h]
theorem Gi(w:Wd)(S:List Row)(k f i:Nat):DL w S k f i (len w k)=kA w S k f i:=rfl
theorem VB(w:Wd)(S:List Row)(k f i n:Nat):(DL w S k f i n).length<=n:=by
 unfold DL;rw[Bp];exact KX
end Cz
theorem La.cells{x:ah.cA}{W:ah.eE}{S:List (List Int)}{sv wv uv:Value}{p B:Nat}{w:World}(h:La x W S sv wv uv p B w):w.cell? ⟨p,4,none⟩=some wv/\w.cell? ⟨p,5,none⟩=some uv:=by
 obtain⟨ak,ck,al,cl,ar,cr, -,hc⟩:=h.cell;exact⟨aN hc 4,aN hc 5⟩
theorem bg.isT{S:Nat->Prop}{w:World}{v:Value}{xs:List Int}(h:bg S w v xs){b:Nat}{o:Obj}(hb:v.ownBlock=some b)(ho:w.heap[b]?=some o):kZ b o:=by
 rcases h.1.2 with h2|⟨g,cap,cur,rfl, -,hg, -⟩
 ·rw[h2.1] at hb;cases hb
 ·obtain rfl:g=b:=mM hb
  rw[hg] at ho;cases ho;simp[kZ,cellsOf,ofT]
structure tD(p bs bi bo B i:Nat)(out:List Int)(w:World):Prop where
 s:w.heap[bs]?=some (.cells #[.pointer (some ⟨p,0,none⟩)] 70 (0,0))
 i:w.heap[bi]?=some (.cells #[.int .i64 (i:Int)] 3 (0,0))
 o:∃v,w.heap[bo]?=some (.cells #[v] 22 (0,0))/\bg (fun b=>B<=b/\b≠bs/\b≠bi/\b≠bo) w v out
 ne:bs≠bo/\bi≠bo
 le:B<=bs/\B<=bi/\B<=bo
theorem tD.next{p bs bi bo B i:Nat}{out:List Int}{w w':World}(h:tD p bs bi bo B i out w)(hb:BL w w'):tD p bs bi bo B i out w' where
 s:=(hb.block _ (aC h.s)).trans h.s
 i:=(hb.block _ (aC h.i)).trans h.i
 o:=by
  obtain⟨v,h1,h2⟩:=h.o;exact⟨v,(hb.block _ (aC h1)).trans h1,aX.keep h2 (aD.below hb)⟩
 ne:=h.ne
 le:=h.le
theorem Nh(x:ah.cA)(W:ah.eE)(S:List (List Int))(sv wv uv:Value)(p B:Nat)(w:World)(h:La x W S sv wv uv p B w)(hS:Cz.OkS W S)(k f i:Nat)(hk:k<W.length)(hf:∀j,j<Cz.len W k->f<(Cz.row W k j).length)
  (h5:Cz.len W k<=1000)(bs bi bo:Nat)(out:List Int)(ho:out.length<=1000000)(hL:tD p bs bi bo B i out w):
  Calls Tryz.prog 95 #[.int .i64 (k:Int),.int .i64 (f:Int),.pointer (some ⟨bs,0,none⟩),.pointer (some ⟨bi,0,none⟩),.pointer (some ⟨bo,0,none⟩)] w fun e w'=>
   e=.returned (.tuple #[])/\tD p bs bi bo B i (out++((Cz.kA W S k f i).length:Int)::Cz.fS Cz.dF (Cz.kA W S k f i)) w'/\aM kZ B w w':=by
 have hBw:B<=w.heap.size:=Nat.le_trans hL.le.1 (Nat.le_of_lt (aC hL.s));have HH:=hid h;have HL:=hid hL;obtain⟨aw,cw,rfl,JF, -, -⟩:=h.wj.form;obtain⟨au,cu,rfl,Sb, -, -⟩:=h.Ay.form;obtain⟨x4,x5⟩:=h.cells;obtain⟨vr,LC, -,hrr⟩:=h.wj.at hk;have hkS:k<S.length:=by rw[hS.1];exact hk
 have Ri:Hid (S[k].length=W[k].length):=hid (by
  have:=hS.2 k hk
  rw[Cz.aQ hkS] at this
  rw[this];unfold Cz.len;rw[Cz.aQ hk])
 have tW:Hid (Cz.len W k=W[k].length):=hid Zh;obtain⟨ar,cr,rfl,Sc, -, -⟩:=hrr.form;have x6:=(one_cell hL.s).1;have x7:=(one_cell hL.i).1;have hk0:(0:Int)<=(k:Int):=aB
 have hkw:(k:Int)<(W.length:Int):=aB
 have hkS1:(k:Int)<(S.length:Int):=aB
 have hf0:(0:Int)<=(f:Int):=aB
 have HF:=hid hf;have HH5:=hid h5;have HO:=hid ho;have mQ:=hid hBw;have I4:=hid hrr;obtain⟨nr,nM⟩:=bB (W[k].length);rw[<-nM] at LC Sc I4;have HN:=hid nM;have KT:Hid (nr<=1000):=hid (by rw[nM,<-tW.out];exact h5);have hn5:=KT.out;clear hrr hS hf h5 ho h hL nM;go_enter Tryz.func95,Tryz.ntmps95;go_wp2;clear x4 x5 x6 x7 LC;go_loopw [7,19] (fun ov jj wr=>∃(j:Nat) (own:List Int),j<=nr/\jj=.int .i64 j/\own.length<=j/\Hid (own=Cz.DL W S k f i j)/\Hid (bg (w.heap.size<=·) wr ov own)/\Hid (BL w wr)) (fun _ jj _=>nr-(intOf jj).toNat);case atStart=>exact⟨0,[],Nat.zero_le _,rfl,aH,hid rfl,hid (bg.nil _ _),hid aF⟩
 case round=>
  obtain⟨j,own,hj,rfl,hol,HOw,HI,HB⟩:=hrel;obtain⟨ao,co,hao,FI, -, -⟩:=(bg.sl HI.out).form;subst hao;have HHw:=hid (HH.out.keep (HB.out.mono mQ.out));have HLw:=hid (HL.out.next HB.out);have x6:=(one_cell HLw.out.s).1;have x7:=(one_cell HLw.out.i).1;obtain⟨x4,x5⟩:=HHw.out.cells;by_cases hlt:j<nr
  ·have hjW:j<W[k].length:=by rw[<-HN.out];exact hlt
   have hjS:j<S[k].length:=by rw[Ri.out];exact hjW
   obtain⟨vj,hvj, -,hrj⟩:=(I4.out.keep (aD.aS (HB.out.mono mQ.out) (fun _ h=>h))).at hjW;obtain⟨aj,cj,rfl,hokj, -, -⟩:=hrj.form
   have hfl:f<W[k][j].length:=by
    have:=HF.out j (by rw[tW.out];exact hjW);unfold Cz.row at this;rwa [Cz.aQ hk,Cz.aQ hjW] at this
   obtain⟨uf,huf, -,hue⟩:=hrj.at hfl;obtain rfl:uf=.int .i64 W[k][j][f]:=hue;obtain⟨vs,hvs, -,hss⟩:=HHw.out.Ay.at hkS;obtain⟨oA,cs,rfl,aa0, -, -⟩:=hss.form;obtain⟨us,qF, -,hue⟩:=hss.at hjS;obtain rfl:us=.int .i64 S[k][j]:=hue
   have HC:Hid (Cz.cell W k j f=W[k][j][f]/\Cz.sg S k j=S[k][j]):=hid (by
    unfold Cz.cell Cz.row Cz.sg
    rw[Cz.aQ hk,Cz.aQ hjW,Cz.aQ hfl,Cz.aQ hkS,Cz.aQ hjS]
    exact⟨rfl,rfl⟩)
   have hj0:(0:Int)<=(j:Int):=aB
   have hj1:(j:Int)<(nr:Int):=aB
   have hj2:(j:Int)<(S[k].length:Int):=aB
   have hf1:(f:Int)<(W[k][j].length:Int):=aB
   have HST:=hid (Cz.Ng W S k f i j);generalize W[k][j][f]=z at*;generalize S[k][j]=y at*;clear hfl hjS hss hrj;generalize W[k][j].length=nj at*;clear hjW;generalize S[k].length=ns at*;have HD:=hid (fun n=>HB.out.trans ((aI (Below.refl wr.heap.size wr) n).mono HB.out.size));have HI2:=hid (fun n=>aX.keep HI.out (aD.below (aI (Below.refl wr.heap.size wr) n)));by_cases hz:z=(i:Int)
   ·have e1:(z==(i:Int))=true:=Lx hz
    have xD:Hid (own++[y]=Cz.DL W S k f i (j+1)):=hid (by rw[HST.out,if_pos (HC.out.1.trans hz),HC.out.2,HOw.out]);have rQ:own.length+1<=1000000000:=by have:=KT.out;omega
    clear hz;go_wp2;go_quiet (fail);go_wp2_with (at_builtin;go_must (refine oK rfl _ _ rfl Tryz.rZ rfl (HI2.out _) rfl rQ ?_));intro v' w8 Bo jD;have zy:Hid (bg (w.heap.size<=·) w8 v' (own++[y])):=hid (aX.mono Bo (fun b _ hb=>hb.elim (fun h=>h.1) (fun h=>Nat.le_trans HB.out.size h)));have oW:Hid (BL w w8):=hid ((HD.out _).trans (jD.below (HD.out _).size (fun b hb=>by have:=HI.out.2 b hb.symm;exact this)));clear Bo jD x4 x5 x6 x7 hvj huf hvs qF;go_wp2;go_roundw;case rel=>exact⟨j+1,_,aB,by go_num,lC,xD,zy,oW⟩
    simp[intOf];omega
   ·have e1:(z==(i:Int))=false:=nU hz
    have xD:Hid (own=Cz.DL W S k f i (j+1)):=hid (by rw[HST.out,if_neg (by rw[HC.out.1];exact hz),List.append_nil,HOw.out]);clear hz;go_wp2;go_quiet (fail);go_wp2;go_roundw;case rel=>exact⟨j+1,own,aB,by go_num,aB,xD,hid (HI2.out _),hid (HD.out _)⟩
    simp[intOf];omega
  ·obtain rfl:j=nr:=by omega
   have HOa:Hid (own=Cz.kA W S k f i):=hid (by rw[HOw.out,HN.out,<-tW.out,Cz.Gi]);have D4:=hid (Cu _ own (by have:=KT.out;omega) _ wr HI.out);clear x4 x5 x6 x7;go_wp2_with fail;refine D4.out.mono ?_;rintro e w2 ⟨rfl,tE,ht2⟩;have bX:Hid (BL w w2):=hid (HB.out.trans (ht2.below HB.out.size (fun b hb=>HI.out.2 b hb.symm)));obtain⟨vo,VD,aa1⟩:=HL.out.o;have Ie:=(bX.out.block _ (aC VD)).trans VD;have Mb:=aX.keep aa1 (aD.below bX.out);have HOl:=hid (fun b hb=>(aa1.1.lt b hb).2);have DU:=hid (aC VD);obtain⟨ao2,co2,rfl,Sd, -, -⟩:=(bg.sl Mb).form;have YH:=hid Mb;have HI2:=hid tE;have HPl:Hid ((Cz.fS Cz.dF own).length=own.length):=hid (Cz.gH (c:=Cz.dF)).length_eq;have c4:=(one_cell Ie).1;have Au:=hid Ie;have hs1:out.length+1<=1000000000:=by have:=HO.out;omega
   clear Mb tE ht2 FI VD aa1 Ie;go_wp2_with (at_builtin;go_must (refine oK rfl _ _ rfl Tryz.rZ rfl YH.out rfl hs1 ?_));intro v' w8 Bo jD;have hk8:∀b,w.heap.size<=b->b<w2.heap.size->w8.heap[b]?=w2.heap[b]?:=fun b hb hlt=>jD.block b (fun e=>by have:=HOl.out b e.symm;omega) hlt
   have zy:Hid (bg (fun b=>B<=b/\b≠bs/\b≠bi/\b≠bo) w8 v' (out++[(own.length:Int)])):=hid (aX.mono Bo (fun b _ hb=>by
    have h1:=aC HL.out.s;have h2:=aC HL.out.i;have h3:=DU.out;have h4:=bX.out.size;have h5:=mQ.out;rcases hb with h|h
    ·exact h.1
    ·exact⟨aB,aB,aB,aB⟩))
   have KU:Hid (aM kZ B w w8):=hid ((aM.aS bX.out mQ.out).trans (aM.dD jD (Nat.le_trans mQ.out bX.out.size) (fun b hb=>(YH.out.2 b hb.symm).1) (fun b o hb ho=>YH.out.isT hb.symm ho)));have zO:w8.heap[bo]?=some (.cells #[.slice ao2 out.length co2] 22 (0,0)):=(jD.block _ (fun e=>(YH.out.2 _ e.symm).2.2.2 rfl) (aC Au.out)).trans Au.out;have DM:=(jD.block _ (fun e=>(YH.out.2 _ e.symm).2.1 rfl) (lg (aC HL.out.s) bX.out.size)).trans ((bX.out.block _ (aC HL.out.s)).trans HL.out.s);have DN:=(jD.block _ (fun e=>(YH.out.2 _ e.symm).2.2.1 rfl) (lg (aC HL.out.i) bX.out.size)).trans ((bX.out.block _ (aC HL.out.i)).trans HL.out.i);have HBb:=hid (And.intro zO (And.intro DM DN));have HY8:Hid (bq (w.heap.size<=·) w8 (.slice ao own.length co) (Cz.fS Cz.dF own)):=hid ((bg.sl HI2.out).keep (fun b hb hlt=>hk8 b hb hlt));have hs2:(out++[(own.length:Int)]).length+own.length<=1000000000:=by have:=HO.out;have:=KT.out;simp;omega
   obtain⟨a8,n8,c8,rfl⟩:∃a n c,v'=.slice a n c:=Tr
   clear Bo jD hk8 zO DM DN c4;go_wp2_with (at_builtin;go_must (refine DK rfl _ _ rfl Tryz.rZ rfl zy.out rfl HY8.out hs2 ?_));intro v9 w9 hI9 qK
   have HI9:Hid (bg (fun b=>B<=b/\b≠bs/\b≠bi/\b≠bo) w9 v9 (out++((Cz.kA W S k f i).length:Int)::Cz.fS Cz.dF (Cz.kA W S k f i))):=hid (by
    rw[<-HOa.out]
    have:=aX.mono hI9 (S':=fun b=>B<=b/\b≠bs/\b≠bi/\b≠bo) (fun b _ hb=>by
     have h1:=aC HL.out.s;have h2:=aC HL.out.i;have h3:=DU.out;have h4:=bX.out.size;have h5:=mQ.out;have h6:=KU.out.1.size;rcases hb with h|h
     ·exact h.1
     ·exact⟨aB,aB,aB,aB⟩)
    simpa using this)
   have Yi:Hid (aM kZ B w w9):=hid (KU.out.trans (aM.dD qK (Nat.le_trans mQ.out KU.out.1.size) (fun b hb=>(zy.out.2 b hb.symm).1) (fun b o hb ho=>zy.out.isT hb.symm ho)));obtain⟨zO,DM,DN⟩:=HBb.out;have Sg:=(qK.block _ (fun e=>(zy.out.2 _ e.symm).2.2.2 rfl) (aC zO)).trans zO;have adP:=(qK.block _ (fun e=>(zy.out.2 _ e.symm).2.1 rfl) (aC DM)).trans DM;have adQ:=(qK.block _ (fun e=>(zy.out.2 _ e.symm).2.2.1 rfl) (aC DN)).trans DN;have Je:Hid (aM kZ B w (w9.setCell ⟨bo,0,none⟩ v9)):=hid (Yi.out.setCell (p:=⟨bo,0,none⟩) Sg (by simp[kZ,cellsOf,ofT]) HL.out.le.2.2 v9)
   have DP:Hid (tD p bs bi bo B i (out++((Cz.kA W S k f i).length:Int)::Cz.fS Cz.dF (Cz.kA W S k f i)) (w9.setCell ⟨bo,0,none⟩ v9)):=hid {
    s:=(jQ _ ⟨bo,0,none⟩ _ _ HL.out.ne.1).trans adP
    i:=(jQ _ ⟨bo,0,none⟩ _ _ HL.out.ne.2).trans adQ
    o:=⟨v9,one_set v9 Sg,aX.keep HI9.out (fun b hb _=>jQ _ ⟨bo,0,none⟩ _ _ hb.2.2.2)⟩
    ne:=HL.out.ne
    le:=HL.out.le}
   obtain⟨a9,n9,c9,tI⟩:∃a n c,v9=.slice a n c:=by obtain⟨a,c,e,_⟩:=(bg.sl hI9).form;exact⟨_,_,_,e⟩
   have c9:=(one_cell Sg).1;have c9f:=(one_cell Sg).2;clear hI9 qK zO DM DN Sg adP adQ;subst tI;go_wp2;go_end0;exact⟨rfl,DP.out,Je.out⟩
namespace Cz
def kQ(ks:fT)(w:Wd)(S:List Row)(k i n:Nat):Row:=((List.range n).filter (fun f=>decide (0<=fk ks k f))).map (fun f=>sg S (fk ks k f).toNat (cell w k i f).toNat)
def zP(ks:fT)(w:Wd)(S:List Row)(k i:Nat):Row:=kQ ks w S k i (ks.getD k []).length
theorem JG(ks:fT)(w:Wd)(S:List Row)(k i n:Nat):kQ ks w S k i (n+1)=kQ ks w S k i n++if 0<=fk ks k n then [sg S (fk ks k n).toNat (cell w k i n).toNat] else []:=by
 unfold kQ;rw[List.range_succ,List.filter_append,List.map_append];congr 1;by_cases h:0<=fk ks k n<;>simp[h]
theorem Gj(ks:fT)(w:Wd)(S:List Row)(k i n:Nat):(kQ ks w S k i n).length<=n:=by
 unfold kQ;rw[Bp];exact KX
theorem Ni(ks:fT)(w:Wd)(S:List Row)(k i:Nat):jN ks w S k i=sg S k i::(zP ks w S k i++(iC ks k).flatMap fun p=>((kA w S p.1 p.2 i).length:Int)::fS dF (kA w S p.1 p.2 i)):=rfl
theorem Le{α β:Type}(g:α->List β)(m:Nat)(h:∀a,(g a).length<=m):∀l:List α,(l.flatMap g).length<=l.length*m
 |[]=>by simp
 |a::l=>by
  have h1:=Le g m h l;have h2:=h a;rw[List.flatMap_cons,xP,List.length_cons,Nat.succ_mul];omega
end Cz
theorem aD.back{S:Nat->Prop}{w a b:World}(h:aD S w a)(g:aD S w b)(hl:∀k,S k->k<w.heap.size):aD S a b:=fun k hk _=>(g k hk (hl k hk)).trans (h k hk (hl k hk)).symm
theorem La.mono{x:ah.cA}{W:ah.eE}{S:List (List Int)}{sv wv uv:Value}{p B B':Nat}{w:World}(h:La x W S sv wv uv p B w)(hB:B<=B'):La x W S sv wv uv p B' w where
 cell:=h.cell
 tM:=h.tM.mono (fun b _ hb=>lg hb hB)
 wj:=h.wj.mono (fun b _ hb=>lg hb hB)
 Ay:=h.Ay.mono (fun b _ hb=>lg hb hB)
 pb:=lg h.pb hB
theorem Sh(x:ah.cA)(hu:ah.mH x)(h20:∀k∈x.aA,k.aG.length<=20)(h10:x.aA.length<=10)(W:ah.eE)(Tl:W.length=x.aA.length)(S:List (List Int))(ak al ar:Option Addr)(ck cl cr:Nat)(wv uv:Value)(p B:Nat)(w:World)
  (h:La x W S (.agg #[.int .i64 x.aL,.slice ak x.aA.length ck,.slice al x.aP.length cl,.slice ar x.aR.length cr]) wv uv p B w)(hBw:B<=w.heap.size)(hfit:Cz.l7 (aO x) W)(hS:Cz.OkS W S)(h5:∀k,Cz.len W k<=1000)(k i:Nat)(hk:k<W.length)(hi:i<Cz.len W k):
  Calls Tryz.prog 56 #[.pointer (some ⟨p,0,none⟩),.int .i64 (k:Int),.int .i64 (i:Int)] w fun e w'=>∃v,e=.returned v/\bg (w.heap.size<=·) w' v (Cz.jN (aO x) W S k i)/\BL w w':=by
 have aa2:Hid (w.heap[p]?=some (.cells #[.int .i64 x.aL,.slice ak x.aA.length ck,.slice al x.aP.length cl,.slice ar x.aR.length cr,wv,uv] 118 (0,0))):=hid (by
  obtain⟨Om,JX,al',SI,Oo,Oq,e,hc⟩:=h.cell
  cases e
  exact hc)
 obtain⟨aw,cw,rfl,JF, -, -⟩:=h.wj.form;obtain⟨au,cu,rfl,Sb, -, -⟩:=h.Ay.form;have hpw:p<w.heap.size:=lg h.pb hBw;have CF:Hid (∀V,BL w V->V.heap[p]?=some (.cells #[.int .i64 x.aL,.slice ak x.aA.length ck,.slice al x.aP.length cl,.slice ar x.aR.length cr,.slice aw W.length cw,.slice au S.length cu] 118 (0,0))):=hid (fun V hV=>(hV.block _ hpw).trans aa2.out);have HST:=hid (fun(V:World) (hV:BL w V)=>h.keep (hV.mono hBw));have hkS:k<S.length:=by rw[hS.1];exact hk
 have xG:i<W[k].length:=Oh
 have adR:Hid (Cz.len W k=W[k].length):=hid Zh
 have hiS:i<S[k].length:=by
  have:=hS.2 k hk;rw[Cz.aQ hkS] at this;rw[this];exact hi
 have Xn:Hid (Cz.sg S k i=S[k][i]):=hid (by unfold Cz.sg;rw[Cz.aQ hkS,Cz.aQ hiS]);obtain⟨vs,hvs,hvl,hss⟩:=h.Ay.at hkS;obtain⟨oA,cs,rfl,aa0, -, -⟩:=hss.form;obtain⟨us,qF,MF,hue⟩:=hss.at hiS;obtain rfl:us=.int .i64 S[k][i]:=hue;have hkx:k<x.aA.length:=by rw[<-Tl];exact hk
 have acJ:dX ak x.aA.length:=abH
 obtain⟨af,cf,hsf,hkd⟩:=h.tM.Ld hkx;have p9:=hid hkd;have QG:Hid (∀V,BL w V->aD (·<B) w V):=hid (fun V hV=>aD.aS hV (fun b hb=>lg hb hBw));obtain⟨nf,hnf⟩:=bB (x.aA[k].aG.length);have Ej:=hid hnf;have Nj:Hid (nf<=20):=hid (by rw[hnf];exact h20 _ (gm hkx))
 have adS:Hid ((Cz.iC (aO x) k).length<=200):=hid (by
  have h1:=Cz.R9 (aO x) k 20 (fun j=>by
   by_cases hj:j<x.aA.length
   ·rw[dc x hj,dU hj];exact h20 _ (gm hj)
   ·rw[jm,List.getElem?_eq_none (by rw[kR];omega)];simp)
  rw[kR] at h1
  omega)
 rw[<-hnf] at hsf p9;have adO:=Nj.out;have hk0:(0:Int)<=(k:Int):=aB
 have adT:(k:Int)<(x.aA.length:Int):=aB
 have hkS1:(k:Int)<(S.length:Int):=aB
 have hi0:(0:Int)<=(i:Int):=aB
 have hiS1:(i:Int)<((S[k]).length:Int):=aB
 have HU:=hid hu;have kX:=hid hfit;have Az:=hid hS;have H5:=hid h5;have Gh:=hid h20;have mQ:=hid hBw;have GH:=hid Tl;obtain⟨w1,hw1⟩:=bB ((w.alloc (.cells #[.pointer (some ⟨p,0,none⟩)] 70)).alloc (.cells #[.int .i64 (i:Int)] 3));have bT:Hid (Below w.heap.size w w1):=hid En;have M7:Hid (w1.heap.size=w.heap.size+2):=hid jH;have HBS:Hid (∀V,BL w1 V->V.heap[w.heap.size]?=some (.cells #[.pointer (some ⟨p,0,none⟩)] 70 (0,0))):=hid (fun V hV=>(hV.block _ (by rw[hw1];simp;omega)).trans (by rw[hw1];exact bG _ (aW _ _ rfl)));have HBI:Hid (∀V,BL w1 V->V.heap[w.heap.size+1]?=some (.cells #[.int .i64 (i:Int)] 3 (0,0))):=hid (fun V hV=>(hV.block _ jH).trans OG);have HSl1:Hid (bL au<w1.heap.size):=hid (lg hvl bT.out.size);have HSl2:Hid (w1.cell? ⟨bL au,bP au+k,none⟩=some (.slice oA S[k].length cs)):=hid ((bT.out.cell (p:=⟨bL au,bP au+k,none⟩) hvl).trans hvs);have HSm1:Hid (bL oA<w1.heap.size):=hid (lg MF bT.out.size);have HSm2:Hid (w1.cell? ⟨bL oA,bP oA+i,none⟩=some (.int .i64 S[k][i])):=hid ((bT.out.cell (p:=⟨bL oA,bP oA+i,none⟩) MF).trans qF);have HW1:=hid hw1;clear hu hfit hS h5 h20 hBw Tl hw1 hvs hvl hss qF MF hkd hnf h;have x4:True:=trivial;have x5:True:=trivial;go_enter Tryz.func56,Tryz.ntmps56;go_upto_region 1 with fail;rw[<-HW1.out];clear x4 x5;go_cut [7] from 10 to 20 (fun q wx=>∃bo:Nat,q=.pointer (some ⟨bo,0,none⟩)/\Hid (tD p w.heap.size (w.heap.size+1) bo w.heap.size i [Cz.sg S k i] wx)/\Hid (BL w wx))
 case first=>
  have MQ:=eO w1 ⟨w.heap.size,0,none⟩ (.pointer (some ⟨p,0,none⟩)) fun xh=>(one_cell (HBS.out xh.1 xh.2)).1;have Jd:=eO w1 ⟨w.heap.size+1,0,none⟩ (.int .i64 (i:Int)) fun xh=>(one_cell (HBI.out xh.1 xh.2)).1;have Ve:=eO w1 ⟨p,5,none⟩ (.slice au S.length cu) fun xh=>(HST.out xh.1 (cG bT.out xh.2)).cells.2;have hqd:=eO w1 ⟨bL au,bP au+k,none⟩ (.slice oA S[k].length cs) fun xh=>((xh.2.cell (p:=⟨bL au,bP au+k,none⟩) HSl1.out).trans HSl2.out);have hqe:=eO w1 ⟨bL oA,bP oA+i,none⟩ (.int .i64 S[k][i]) fun xh=>((xh.2.cell (p:=⟨bL oA,bP oA+i,none⟩) HSm1.out).trans HSm2.out);refine aZ 12 (.quiet 0 (.quiet 1 (.quiet 2 (.quiet 3 (.quiet 4 (.quiet 5 (.quiet 6 (.quiet 7 (.quiet 8 (.quiet 9 (.two 10 11 (.one 11 .done) (.one 10 .done)))))))))))) (BL w1) oL (by kernel_rfl) (aI aF 1) ?_;have iK:=hid (aI (Below.refl w1.heap.size w1) 1);generalize w1.drewN 1=w6 at*
  iterate 10 refine fE ?_
  clear MQ Jd Ve hqd hqe;refine eD rfl rfl ?pA ?pB
  case' pA=>
   go_wp2_with fail
   refine aJ (BL w1) (fun _ h=>h) (iK.out.alloc iK.out.size _) ?_
   refine aT rfl ?_
   go_wp2_with fail
   refine aJ (BL w1) (fun _ h=>h) ((iK.out.alloc iK.out.size _).alloc (by have:=iK.out.size;simp;omega) _) ?_
   refine bh ?_
   try simp only[jZ,jP]
   obtain⟨w8,hw8⟩:=bB ((w6.alloc (.cells #[.int .i64 S[k][i]] 3)).alloc (.cells #[.slice none 0 0] 22))
   have lZ:BL w6 w8:=by rw[hw8];exact(aF.alloc aH _).alloc bp _
   have hsl:w8.heap[w6.heap.size]?=some (.cells #[.int .i64 S[k][i]] 3 (0,0)):=by rw[hw8];exact bG _ (aW _ _ rfl)
   have A7:w8.heap[w6.heap.size+1]?=some (.cells #[.slice none 0 0] 22 (0,0)):=by rw[hw8];exact aW _ _ bp
   have HHd:=hid (And.intro lZ (And.intro hsl A7))
   have Ui:=hid hw8
   clear lZ hsl A7 hw8
   rw[<-Ui.out]
   obtain⟨lZ,hsl,A7⟩:=HHd.out
   have c1:=(one_cell A7).1
   have c1f:=(one_cell A7).2
   have h6z:=iK.out.size
   have h1z:=M7.out
   have DU:Hid (w.heap.size+2<=w6.heap.size+1):=hid aB
   have Iu:=hid (cG bT.out (cG iK.out lZ))
   have ku:Hid (BL w (w8.setCell ⟨w6.heap.size+1,0,none⟩ (.slice (some ⟨w6.heap.size,0,none⟩) 1 1))):=hid (Iu.out.setCell (by have:=DU.out;show w.heap.size<=w6.heap.size+1;omega) _)
   have DP:Hid (tD p w.heap.size (w.heap.size+1) (w6.heap.size+1) w.heap.size i [Cz.sg S k i] (w8.setCell ⟨w6.heap.size+1,0,none⟩ (.slice (some ⟨w6.heap.size,0,none⟩) 1 1))):=hid {
    s:=(jQ _ ⟨w6.heap.size+1,0,none⟩ _ _ (by have:=DU.out;show w.heap.size≠w6.heap.size+1;omega)).trans (HBS.out w8 (cG iK.out lZ))
    i:=(jQ _ ⟨w6.heap.size+1,0,none⟩ _ _ (by have:=DU.out;show w.heap.size+1≠w6.heap.size+1;omega)).trans (HBI.out w8 (cG iK.out lZ))
    o:=⟨_,one_set _ A7,by
     have h:=(jQ w8 ⟨w6.heap.size+1,0,none⟩ (.slice (some ⟨w6.heap.size,0,none⟩) 1 1) (w6.heap.size) (by show w6.heap.size≠w6.heap.size+1;omega)).trans hsl
     refine⟨⟨rfl,.inr ⟨w6.heap.size,1,_,rfl,Nat.zero_le _,h,aH,fH,rfl,?_⟩⟩,fun b hb=>?_⟩
     ·rw[Xn.out];rfl
     ·obtain rfl:w6.heap.size=b:=mM hb
      have:=DU.out;exact⟨aB,aB,aB,aB⟩⟩
    ne:=⟨Lv,Lv⟩
    le:=⟨aH,aB,Lv⟩}
   clear lZ hsl A7 h6z
   go_wp2
   go_meet
   case rel=>exact⟨_,rfl,DP,ku⟩
  case' pB=>
   go_wp2_with fail
   refine aJ (BL w1) (fun _ h=>h) (iK.out.alloc iK.out.size _) ?_
   refine aT rfl ?_
   go_wp2_with fail
   refine aJ (BL w1) (fun _ h=>h) ((iK.out.alloc iK.out.size _).alloc (by have:=iK.out.size;simp;omega) _) ?_
   refine bh ?_
   try simp only[jZ,jP]
   obtain⟨w8,hw8⟩:=bB ((w6.alloc (.cells #[.slice none 0 0] 22)).alloc (.cells #[.int .i64 S[k][i]] 3))
   have lZ:BL w6 w8:=by rw[hw8];exact(aF.alloc aH _).alloc bp _
   have hsl:w8.heap[w6.heap.size+1]?=some (.cells #[.int .i64 S[k][i]] 3 (0,0)):=by rw[hw8];exact aW _ _ bp
   have A7:w8.heap[w6.heap.size]?=some (.cells #[.slice none 0 0] 22 (0,0)):=by rw[hw8];exact bG _ (aW _ _ rfl)
   have HHd:=hid (And.intro lZ (And.intro hsl A7))
   have Ui:=hid hw8
   clear lZ hsl A7 hw8
   rw[<-Ui.out]
   obtain⟨lZ,hsl,A7⟩:=HHd.out
   have c1:=(one_cell A7).1
   have c1f:=(one_cell A7).2
   have h6z:=iK.out.size
   have h1z:=M7.out
   have DU:Hid (w.heap.size+2<=w6.heap.size):=hid aB
   have Iu:=hid (cG bT.out (cG iK.out lZ))
   have ku:Hid (BL w (w8.setCell ⟨w6.heap.size,0,none⟩ (.slice (some ⟨w6.heap.size+1,0,none⟩) 1 1))):=hid (Iu.out.setCell (by have:=DU.out;show w.heap.size<=w6.heap.size;omega) _)
   have DP:Hid (tD p w.heap.size (w.heap.size+1) (w6.heap.size) w.heap.size i [Cz.sg S k i] (w8.setCell ⟨w6.heap.size,0,none⟩ (.slice (some ⟨w6.heap.size+1,0,none⟩) 1 1))):=hid {
    s:=(jQ _ ⟨w6.heap.size,0,none⟩ _ _ (by have:=DU.out;show w.heap.size≠w6.heap.size;omega)).trans (HBS.out w8 (cG iK.out lZ))
    i:=(jQ _ ⟨w6.heap.size,0,none⟩ _ _ (by have:=DU.out;show w.heap.size+1≠w6.heap.size;omega)).trans (HBI.out w8 (cG iK.out lZ))
    o:=⟨_,one_set _ A7,by
     have h:=(jQ w8 ⟨w6.heap.size,0,none⟩ (.slice (some ⟨w6.heap.size+1,0,none⟩) 1 1) (w6.heap.size+1) (by show w6.heap.size+1≠w6.heap.size;omega)).trans hsl
     refine⟨⟨rfl,.inr ⟨w6.heap.size+1,1,_,rfl,Nat.zero_le _,h,aH,fH,rfl,?_⟩⟩,fun b hb=>?_⟩
     ·rw[Xn.out];rfl
     ·obtain rfl:w6.heap.size+1=b:=mM hb
      have:=DU.out;exact⟨aB,aB,aB,aB⟩⟩
    ne:=⟨Lv,Lv⟩
    le:=⟨aH,aB,Lv⟩}
   clear lZ hsl A7 h6z
   go_wp2
   go_meet
   case rel=>exact⟨_,rfl,DP,ku⟩
 case rest=>
  obtain⟨bo,rfl,HL,jF⟩:=hcut;rename_i wc;have adU:=hid (HST.out wc jF.out);obtain⟨k0,k1,k2,k3,acE⟩:=p9.out wc (QG.out wc jF.out);have x6:=(one_cell HL.out.s).1;have x4:=aN (CF.out wc jF.out) 1;simp only[List.getElem?_toArray,List.getElem?_cons_succ,List.getElem?_cons_zero] at x4;clear acE;go_wp2;clear k0 k1 k2 k3 x4 x6;have Xk:Hid (tD p w.heap.size (w.heap.size+1) bo w.heap.size i (Cz.sg S k i::Cz.kQ (aO x) W S k i 0) wc):=HL;have KN:=jF;generalize I3:wc=Wb at*;clear I3 HL jF adU;go_loopw [32] (fun jj wr=>∃j:Nat,j<=nf/\jj=.int .i64 j/\Hid (tD p w.heap.size (w.heap.size+1) bo w.heap.size i (Cz.sg S k i::Cz.kQ (aO x) W S k i j) wr)/\Hid (BL w wr)) (fun jj _=>nf-(intOf jj).toNat);case atStart=>exact⟨0,Nat.zero_le _,rfl,Xk,KN⟩
  case round=>
   obtain⟨j,hj,rfl,HL,jF⟩:=hrel;by_cases hjt:j<nf
   ·have hj0:(0:Int)<=(j:Int):=by omega
    have hj1:(j:Int)<(nf:Int):=aB
    have rP:j<x.aA[k].aG.length:=TI
    have adU:=hid (HST.out wr jF.out);obtain⟨-, -, -, -,hfl⟩:=p9.out wr (QG.out wr jF.out);rw[Ej.out] at hfl;obtain⟨Iz, -,f0,f1,f2,f3,f4,f5,uw,ug,f6,f7,Ai,hgs⟩:=dh.at hfl rP;obtain⟨afw,cfw,rfl, -, -, -⟩:=Ai.form;obtain⟨afg,cfg,rfl, -, -, -⟩:=hgs.form;clear Ai hgs hfl;have KV:ah.fd x k j=x.aA[k].aG[j]:=nA hkx rP
    have HF1:Hid (∀gk,gk=(x.aA[k].aG[j]).kind->(gk=1->jf x k j=ah.dI x k j/\0<=jf x k j)/\(¬gk=1->jf x k j<0)):=hid (by
     rintro gk rfl
     rw[<-KV]
     constructor
     ·intro h1
      have:=HU.out k j hkx Ov h1;unfold jf;rw[if_neg aB,if_pos h1];exact⟨rfl,this⟩
     ·intro h1
      unfold jf;rw[if_neg h1];split<;>omega)
    clear KV;have HFs:=hid (Cz.JG (aO x) W S k i j);have rI:Hid (Cz.fk (aO x) k j=jf x k j):=hid (oI x hkx Ov);obtain⟨g,hg⟩:=bB (x.aA[k].aG[j]);have HG:=hid (HF1.out g.kind (by rw[hg]));rw[<-hg] at f0 f1 f2 f3 f4 f5 f6 f7;clear hg HF1;obtain⟨gn,go,gu,gk,gl,gh,D6,ggs⟩:=g;simp only at f0 f1 f2 f3 f4 f5 f6 f7 HG;generalize D6.length=nw at*;generalize ggs.length=ng at*;obtain⟨w5,hw⟩:=bB (wr.alloc (.cells #[.string gn,.string go,.string gu,.int .i64 gk,.int .i64 gl,.int .i64 gh,.slice afw nw cfw,.slice afg ng cfg] 46));have jd:BL wr w5:=Ec
    have iD:=aU jF jd;have jI:=hid (HL.out.next jd);have f3':w5.cell? ⟨wr.heap.size,3,none⟩=some (.int .i64 gk):=Y8
    have Aq:=hid hw;clear hw jd;go_upto_region 5 with fail;rw[<-Aq.out];clear f0 f1 f2 f3 f4 f5 f6 f7;by_cases h1:gk=1
    ·subst h1
     have HGy:=hid (HG.out.1 rfl);obtain⟨hgu,hg0⟩:=HGy.out;have hrf:=kX.out.ref k i j hk hi (by rw[dc x hkx,dU hkx];exact rP) (by rw[rI.out];exact hg0);rw[rI.out] at hrf;obtain⟨u0,hu0⟩:∃u:Nat,jf x k j=(u:Int):=⟨(jf x k j).toNat,aB⟩;have Mn:=hid (p8 x k j _ (·<B) w5 ((HST.out w5 iD.out).tM));have HUE:Hid (ah.dI x k j=(u0:Int)):=hid (by rw[<-hgu,hu0]);rw[hu0] at hrf;simp only[Int.toNat_natCast] at hrf;obtain⟨hr1,Ad,Gy⟩:=hrf;have xG:i<W[k].length:=by rw[<-adR.out];exact hi
     have MW:j<(W[k][i]).length:=by
      have:=kX.out.r k i hk hi;rw[dc x hkx,dU hkx] at this;unfold Cz.row at this;rw[Cz.aQ hk,Cz.aQ xG] at this;rw[this];exact rP
     have HCe:Hid (Cz.cell W k i j=W[k][i][j]):=hid (by unfold Cz.cell Cz.row;rw[Cz.aQ hk,Cz.aQ xG,Cz.aQ MW]);rw[HCe.out] at Ad Gy;obtain⟨z0,hz0⟩:∃z:Nat,W[k][i][j]=(z:Int):=⟨(W[k][i][j]).toNat,aB⟩;rw[hz0,Int.toNat_natCast] at Gy;have huS:u0<S.length:=by rw[Az.out.1];exact hr1
     have hzS:z0<S[u0].length:=by
      have:=Az.out.2 u0 hr1;rw[Cz.aQ huS] at this;rw[this];exact Gy
     have adV:Hid (Cz.sg S u0 z0=S[u0][z0]):=hid (by unfold Cz.sg;rw[Cz.aQ huS,Cz.aQ hzS]);obtain⟨vk,qD,zQ⟩:=(HST.out w5 iD.out).wj.qt hk;obtain⟨awk,cwk,rfl,adW, -, -⟩:=qD.form;obtain⟨vi,Nk,Sl⟩:=qD.qt xG;obtain⟨awi,cwi,rfl,adX, -, -⟩:=Nk.form;obtain⟨vz,hvz1,adY⟩:=Nk.qt MW;obtain rfl:vz=.int .i64 W[k][i][j]:=hvz1;obtain⟨su,aa3,adZ⟩:=(HST.out w5 iD.out).Ay.qt huS;obtain⟨asu,csu,rfl,ad0, -, -⟩:=aa3.form;obtain⟨sz,hsz1,hsz2⟩:=aa3.qt hzS;obtain rfl:sz=.int .i64 S[u0][z0]:=hsz1;rw[hz0] at adY;have HB:Hid (∀X,BL w5 X->aD (·<B) w5 X):=hid (fun X hX=>aD.below hX);obtain⟨vo,Ie,Mb⟩:=jI.out.o;obtain⟨ao,co,rfl,Sd, -, -⟩:=(bg.sl Mb).form;have YH:=hid Mb;have DU:=hid Ie
     have ad1:(Cz.sg S k i::Cz.kQ (aO x) W S k i j).length+1<=1000000000:=by
      have:=Cz.Gj (aO x) W S k i j;have:=Nj.out;simp only[List.length_cons];omega
     have xD:Hid (Cz.sg S k i::Cz.kQ (aO x) W S k i j++[S[u0][z0]]=Cz.sg S k i::Cz.kQ (aO x) W S k i (j+1)):=hid (by
      rw[HFs.out,if_pos (by rw[rI.out];exact hg0),rI.out,hu0,HCe.out,hz0,List.cons_append]
      simp only[Int.toNat_natCast]
      rw[adV.out])
     have hk0':(0:Int)<=(k:Int):=aB
     have hkw:(k:Int)<(W.length:Int):=aB
     have hi0':(0:Int)<=(i:Int):=aB
     have hiw:(i:Int)<((W[k]).length:Int):=aB
     have hjw:(j:Int)<((W[k][i]).length:Int):=aB
     have hu0':(0:Int)<=(u0:Int):=aB
     have huw:(u0:Int)<(S.length:Int):=aB
     have hz0':(0:Int)<=(z0:Int):=aB
     have hzw:(z0:Int)<((S[u0]).length:Int):=aB
     obtain⟨y,hy⟩:=bB (S[u0][z0]);rw[<-hy] at hsz2 xD;obtain⟨nwk,Sm⟩:=bB (W[k].length);rw[<-Sm] at zQ adW hiw;obtain⟨nwi,ad2⟩:=bB (W[k][i].length);rw[<-ad2] at Sl adX hjw;obtain⟨nsu,ad3⟩:=bB (S[u0].length);rw[<-ad3] at adZ ad0 hzw;clear Sm ad2 ad3;clear adV HCe hy;clear hgu hg0 hr1 Ad Gy hu0 qD Nk aa3 hzS MW hz0 xG;go_upto_region 6 with fail;have MQ:=eO w5 ⟨w.heap.size,0,none⟩ (.pointer (some ⟨p,0,none⟩)) fun xh=>(one_cell (jI.out.next xh.2).s).1;have Jd:=eO w5 ⟨w.heap.size+1,0,none⟩ (.int .i64 (i:Int)) fun xh=>(one_cell (jI.out.next xh.2).i).1;have hqo:=eO w5 ⟨bo,0,none⟩ (.slice ao (Cz.sg S k i::Cz.kQ (aO x) W S k i j).length co) fun xh=>(one_cell ((xh.2.block _ (aC DU.out)).trans DU.out)).1;have uy:=eO w5 ⟨p,0,none⟩ (.int .i64 x.aL) fun xh=>aN ((CF.out xh.1 (cG iD.out xh.2))) 0;have uD:=eO w5 ⟨p,1,none⟩ (.slice ak x.aA.length ck) fun xh=>aN ((CF.out xh.1 (cG iD.out xh.2))) 1;have uE:=eO w5 ⟨p,2,none⟩ (.slice al x.aP.length cl) fun xh=>aN ((CF.out xh.1 (cG iD.out xh.2))) 2;have uF:=eO w5 ⟨p,3,none⟩ (.slice ar x.aR.length cr) fun xh=>aN ((CF.out xh.1 (cG iD.out xh.2))) 3;have aaw:=eO w5 ⟨p,4,none⟩ (.slice aw W.length cw) fun xh=>aN ((CF.out xh.1 (cG iD.out xh.2))) 4;have aax:=eO w5 ⟨p,5,none⟩ (.slice au S.length cu) fun xh=>aN ((CF.out xh.1 (cG iD.out xh.2))) 5;have hqw:=eO w5 ⟨bL aw,bP aw+k,none⟩ (.slice awk nwk cwk) fun xh=>zQ xh.1 (HB.out xh.1 xh.2);have hqwi:=eO w5 ⟨bL awk,bP awk+i,none⟩ (.slice awi nwi cwi) fun xh=>Sl xh.1 (HB.out xh.1 xh.2);have hqwj:=eO w5 ⟨bL awi,bP awi+j,none⟩ (.int .i64 (z0:Int)) fun xh=>adY xh.1 (HB.out xh.1 xh.2);have hqsu:=eO w5 ⟨bL au,bP au+u0,none⟩ (.slice asu nsu csu) fun xh=>adZ xh.1 (HB.out xh.1 xh.2);have hqsz:=eO w5 ⟨bL asu,bP asu+z0,none⟩ (.int .i64 y) fun xh=>hsz2 xh.1 (HB.out xh.1 xh.2);refine aZ 32 (.quiet 0 (.quiet 1 (.quiet 2 (.quiet 3 (.quiet 4 (.quiet 5 (.quiet 6 (.quiet 7 (.quiet 8 (.quiet 9 (.quiet 10 (.quiet 11 (.quiet 15 (.quiet 16 (.quiet 17 (.quiet 18 (.quiet 19 (.quiet 20 (.quiet 21 (.quiet 22 (.quiet 23 (.quiet 24 (.quiet 25 (.quiet 26 (.quiet 27 (.quiet 28 (.one 12 (.quiet 13 (.quiet 14 (.quiet 29 (.quiet 30 (.one 31 .done)))))))))))))))))))))))))))))))) (BL w5) oL (by kernel_rfl) (aI aF 1) ?_;have iK:=hid (aI (Below.refl w5.heap.size w5) 1);have HUd:=hid (Mn.out);generalize qE:w5.drewN 1=w6 at*;have HU6:=hid (p8 x k j _ (·<B) w6 ((HST.out w6 (cG iD.out iK.out)).tM));rw[HUE.out] at HU6;clear qE
     iterate 26 refine fE ?_
     refine aT rfl ?_;go_wp2_with fail;refine HU6.out.mono ?_;rintro e w7 ⟨rfl,hb⟩;have o7:=aU iK hb;clear hb;go_wp2_with fail;refine aJ (BL w5) (fun _ h=>h) o7.out ?_
     iterate 4 refine fE ?_
     refine aT rfl ?_;go_wp2_with fail;refine aJ (BL w5) (fun _ h=>h) (o7.out.alloc o7.out.size _) ?_;refine bh ?_;try simp only[jZ,jP]
     clear MQ Jd hqo uy uD uE uF aaw aax hqw hqwi hqwj hqsu hqsz;have wX:=hid (aX.keep YH.out (aD.below o7.out));have ad4:=(o7.out.block _ (aC DU.out)).trans DU.out;have Dn:=hid (jI.out.next o7.out);have jT:=aU iD o7.out;have aa4:=hid ad4;clear ad4;go_wp2_with (at_builtin;go_must (refine oK rfl _ _ rfl Tryz.rZ rfl wX.out rfl ad1 ?_));intro v' w8 Bo jD
     have zy:Hid (bg (fun b=>w.heap.size<=b/\b≠w.heap.size/\b≠w.heap.size+1/\b≠bo) w8 v' (Cz.sg S k i::Cz.kQ (aO x) W S k i (j+1))):=hid (by
      rw[<-xD.out]
      refine aX.mono Bo (fun b _ hb=>?_)
      have h1:=aC Dn.out.s
      have h2:=aC Dn.out.i
      have h3:=aC aa4.out
      have h4:=jT.out.size
      rcases hb with h|h
      ·exact h.1
      ·exact⟨aB,aB,aB,aB⟩)
     have zO:=(jD.block _ (fun e=>(wX.out.2 _ e.symm).2.2.2 rfl) (aC aa4.out)).trans aa4.out;have DM:=(jD.block _ (fun e=>(wX.out.2 _ e.symm).2.1 rfl) (aC Dn.out.s)).trans Dn.out.s;have DN:=(jD.block _ (fun e=>(wX.out.2 _ e.symm).2.2.1 rfl) (aC Dn.out.i)).trans Dn.out.i;have ku:Hid (BL w (w8.setCell ⟨bo,0,none⟩ v')):=hid (((jT.out.trans (jD.below jT.out.size (fun b hb=>(wX.out.2 b hb.symm).1)))).setCell HL.out.le.2.2 _)
     have DP:Hid (tD p w.heap.size (w.heap.size+1) bo w.heap.size i (Cz.sg S k i::Cz.kQ (aO x) W S k i (j+1)) (w8.setCell ⟨bo,0,none⟩ v')):=hid {
      s:=(jQ _ ⟨bo,0,none⟩ _ _ HL.out.ne.1).trans DM
      i:=(jQ _ ⟨bo,0,none⟩ _ _ HL.out.ne.2).trans DN
      o:=⟨v',one_set v' zO,aX.keep zy.out (fun b hb _=>jQ _ ⟨bo,0,none⟩ _ _ hb.2.2.2)⟩
      ne:=HL.out.ne
      le:=HL.out.le}
     obtain⟨a9,n9,c9,tI⟩:∃a n c,v'=.slice a n c:=Tr
     have c9:=(one_cell zO).1;have c9f:=(one_cell zO).2;clear Bo jD zO DM DN;subst tI;go_wp2;go_roundw;case rel=>exact⟨j+1,aB,by go_num,DP,ku⟩
     simp[intOf];omega
    ·have e1:(gk==1)=false:=nU h1
     have xD:Hid (tD p w.heap.size (w.heap.size+1) bo w.heap.size i (Cz.sg S k i::Cz.kQ (aO x) W S k i (j+1)) w5):=hid (by
      rw[HFs.out,if_neg (by rw[rI.out];have:=HG.out.2 h1;omega),List.append_nil]
      exact jI.out)
     clear h1;go_wp2;go_roundw;case rel=>exact⟨j+1,aB,by go_num,xD,iD⟩
     simp[intOf];omega
   ·obtain rfl:j=nf:=by omega
    have HHd:Hid (Cz.kQ (aO x) W S k i j=Cz.zP (aO x) W S k i):=hid (by unfold Cz.zP;rw[dc x hkx,dU hkx,<-Ej.out]);have x6:=(one_cell HL.out.s).1;have s0:=aN (CF.out wr jF.out) 0;have s1:=aN (CF.out wr jF.out) 1;have s2:=aN (CF.out wr jF.out) 2;have s3:=aN (CF.out wr jF.out) 3;have s4:=aN (CF.out wr jF.out) 4;simp only[List.getElem?_toArray,List.getElem?_cons_succ,List.getElem?_cons_zero] at s0 s1 s2 s3 s4
    have Av:=hid (Nf x Gh.out h10 k ak al ar aw ck cl cr W.length cw (·<B) wr (HST.out wr jF.out).tM ⟨w.heap.size,0,none⟩ ⟨w.heap.size+1,0,none⟩ ⟨bo,0,none⟩
     (fun pre V=>BL w V/\pre.length<=200/\tD p w.heap.size (w.heap.size+1) bo w.heap.size i (Cz.sg S k i::(Cz.zP (aO x) W S k i++pre.flatMap fun q=>((Cz.kA W S q.1 q.2 i).length:Int)::Cz.fS Cz.dF (Cz.kA W S q.1 q.2 i))) V)
     (fun pre V h=>(aD.aS jF.out (fun b hb=>lg hb mQ.out)).back (aD.aS h.1 (fun b hb=>lg hb mQ.out)) (fun b hb=>lg hb mQ.out))
     (fun pre A C h hb=>⟨h.1.trans (hb.mono h.1.size),h.2.1,h.2.2.next hb⟩) w.heap.size jF.out.size ?hY ⟨jF.out,bp,by rw[<-HHd.out];simpa using HL.out⟩)
    case hY=>
     rintro pre ⟨k',f'⟩ V ⟨h1,h2,h3⟩ hpre;have hmem:(k',f')∈Cz.iC (aO x) k:=hpre.subset bp;unfold Cz.iC at hmem;rw[List.mem_flatMap] at hmem;obtain⟨k2,hk2,hm2⟩:=hmem;rw[List.mem_map] at hm2;obtain⟨f2,hf2,e2⟩:=hm2;cases e2;rw[List.mem_range,kR] at hk2;have ad5:=(List.mem_filter.1 hf2).1;rw[List.mem_range] at ad5;have ad6:k'<W.length:=by rw[GH.out];exact hk2
     have hst:=(HST.out V h1).mono mQ.out
     have hpl:pre.length+1<=200:=by
      have:=hpre.length_le;have h200:=adS.out;simp at this;omega
     have hb1:(Cz.sg S k i::(Cz.zP (aO x) W S k i++pre.flatMap fun q=>((Cz.kA W S q.1 q.2 i).length:Int)::Cz.fS Cz.dF (Cz.kA W S q.1 q.2 i))).length<=1000000:=by
      have hfm:=Cz.Le (fun q:Nat×Nat=>((Cz.kA W S q.1 q.2 i).length:Int)::Cz.fS Cz.dF (Cz.kA W S q.1 q.2 i)) 1001 (fun q=>by
       have:=Cz.VB W S q.1 q.2 i (Cz.len W q.1);rw[Cz.Gi] at this;have h9:=(Cz.gH (c:=Cz.dF) (l:=Cz.kA W S q.1 q.2 i)).length_eq;have:=H5.out q.1;simp only[List.length_cons];omega) pre
      have h8:=Cz.Gj (aO x) W S k i ((aO x).getD k []).length;have h7:=Nj.out;have h6:((aO x).getD k []).length=j:=by rw[dc x hkx,dU hkx,<-Ej.out]
      rw[h6] at h8;have h5:(Cz.zP (aO x) W S k i).length<=j:=by unfold Cz.zP;rw[h6];exact h8
      simp only[List.length_cons,xP];have:pre.length*1001<=200*1001:=Nat.mul_le_mul_right _ aB;omega
     refine(Nh x W S _ _ _ p w.heap.size V hst Az.out k' f' i ad6 (fun j hj=>by rw[kX.out.r k' j ad6 hj];exact ad5) (H5.out k') w.heap.size (w.heap.size+1) bo _ hb1 h3).mono ?_;rintro e V' ⟨rfl,hL',hT'⟩;refine⟨rfl,⟨h1.trans hT'.1,lC,?_⟩,hT'⟩;simpa [List.flatMap_append] using hL'
    go_wp2_with fail;refine Av.out.mono ?_;rintro e w9 ⟨rfl,⟨hB9, -,hL9⟩,Rl⟩;obtain⟨vo,Ie,Mb⟩:=hL9.o;have c9:=(one_cell Ie).1;obtain⟨ao,no,co,rfl⟩:∃a n c,vo=.slice a n c:=by obtain⟨a,c,e,_⟩:=(bg.sl Mb).form;exact⟨_,_,_,e⟩
    have HE:Hid (bg (w.heap.size<=·) w9 (.slice ao no co) (Cz.jN (aO x) W S k i)/\BL w w9):=hid ⟨aX.mono (show bg (fun b=>w.heap.size<=b/\b≠w.heap.size/\b≠w.heap.size+1/\b≠bo) w9 (.slice ao no co) (Cz.jN (aO x) W S k i) by rw[Cz.Ni];exact Mb) (fun b _ hb=>hb.1),hB9⟩;clear Ie Mb hL9 hB9 Rl Av s0 s1 s2 s3 s4 x6;go_wp2;go_ret;exact⟨_,rfl,HE.out⟩
open Go.Maps (Keyed)
theorem Lg:Tryz.prog.underlying 125=some (.map 3 3):=by kernel_rfl
def uN(w:World)(b n:Nat)(f:Int->Int):Prop:=
 ∃D:DataW Nat,w.ownsMap Tryz.prog 3 (plainElem Tryz.prog 3) b n D/\∀a,qu a->D.atKey (.int .i64 a) (.lit (.int .i64 0))=.lit (.int .i64 (f a))
theorem uN.made(w:World):uN (w.alloc (.map #[] 0)) w.heap.size 0 (fun _=>0):=⟨.map [],World.ownsMap_made _ _ _ _,fun _ _=>rfl⟩
theorem uN.ext{w:World}{b n:Nat}{f g:Int->Int}(h:uN w b n f)(hfg:∀a,qu a->f a=g a):uN w b n g:=by
 obtain⟨D,h1,h2⟩:=h;exact⟨D,h1,fun a ha=>by rw[h2 a ha,hfg a ha]⟩
theorem uN.look{w:World}{b n:Nat}{f:Int->Int}(h:uN w b n f){a:Int}(ha:qu a):
  (Instr.lookup 125 (.map (some b)) (.int .i64 a) false).run Tryz.prog w=.ok (.int .i64 (f a)) w:=by
 obtain⟨D,h1,h2⟩:=h;obtain⟨v,hrun,hat, -⟩:=h1.lookup_int MJ Lg yY (KH w) (MK ha);rw[h2 a ha] at hat;have:f a=v:=by simpa using hat
 rw[this];exact hrun
theorem uN.put{w:World}{b n:Nat}{f:Int->Int}(h:uN w b n f)(hn:n<=1000000){a:Int}(ha:qu a){v:Int}(hv:qu v):
  ∃w',(Instr.mapUpdate 125 (.map (some b)) (.int .i64 a) (.int .i64 v)).run Tryz.prog w=.ok () w'/\uN w' b (n+1) (fun c=>if c=a then v else f c)/\Turns (·=b) w w':=by
 obtain⟨D,h1,h2⟩:=h;have rQ:n<maxLen:=Za
 obtain⟨w',hrun,how,hg⟩:=h1.update MJ Lg rQ (MK ha) (val:=.int .i64 v) (d:=.lit (.int .i64 v)) (ps:=[]) (plainElem_int yY hv.wf);refine⟨w',hrun,⟨_,how,fun c hc=>?_⟩,Turns.fI hg (fun b' e=>by cases e;rfl)⟩;by_cases e:c=a
 ·subst e
  rw[Maps.atKey_put_same h1.isMap (MJ.key (MK hc))];simp
 ·rw[Maps.atKey_put_other (fun h=>e lD),h2 c hc]
  simp[e]
def aa5(S:List Cz.Row)(w:World)(e:Ending)(w':World):Prop:=∃r:Nat,e=.returned (.int .i64 (r:Int))/\(720<r↔720<Cz.arr S)/\r<=1000000/\BL w w'
theorem uO(x:ah.cA)(W:ah.eE)(S:List (List Int))(Yo:∀r∈S,∀y∈r,qu y)(h5:∀r∈S,r.length<=1000)(hSl:S.length<=1000)(sv wv uv:Value)(p B:Nat)(w:World)(h:La x W S sv wv uv p B w)(hBw:B<=w.heap.size):
  Calls Tryz.prog 22 #[.pointer (some ⟨p,0,none⟩)] w (aa5 S w):=by
 have HST:=hid (fun(V:World) (hV:BL w V)=>h.keep (hV.mono hBw));have hsl:Hid (∀V,BL w V->aD (·<B) w V):=hid (fun V hV=>aD.aS hV (fun b hb=>lg hb hBw));obtain⟨au,cu,rfl,Sb, -, -⟩:=h.Ay.form;have x5:=h.cells.2;have Vc:=hid h.Ay;have H64:=hid Yo;have H5:=hid h5;clear h Yo h5 hBw;go_enter Tryz.func22,Tryz.ntmps22;go_wp2;clear x5;go_loopw [3,14] (fun nn kk wr=>∃k m:Nat,k<=S.length/\kk=.int .i64 k/\nn=.int .i64 m/\m<=720/\Hid (m=Cz.arr (S.take k))/\Hid (BL w wr)) (fun _ kk _=>S.length-(intOf kk).toNat);case atStart=>exact⟨0,1,Nat.zero_le _,rfl,rfl,aB,hid rfl,hid aF⟩
 case round=>
  obtain⟨k,m,hk,rfl,rfl,hm,HM,HB⟩:=hrel;by_cases hlt:k<S.length
  ·have hk0:(0:Int)<=(k:Int):=by omega
   have hk1:(k:Int)<(S.length:Int):=aB
   obtain⟨u,hu1,mU⟩:=Vc.out.qt hlt;obtain⟨ar,cr,rfl,Sc, -, -⟩:=hu1.form;have x6:=mU wr (hsl.out wr HB.out);have HR:=hid hu1;have ad7:=hid (fun i=>Cz.R3 hlt i);have YI:=hid (fun(i:Nat) (hi:i<S[k].length)=>Cz.R4 S[k] hi);have YJ:Hid (Cz.arr (S.take (k+1))=Cz.arr (S.take k)*Cz.gW (fun _=>0) S[k]):=hid (by rw[CY hlt,Cz.tC]);have ad8:=hid (H64.out _ (gm hlt));have hr5:S[k].length<=1000:=H5.out _ (gm hlt);obtain⟨r,hr⟩:=bB (S[k]);rw[<-hr] at x6 Sc HR ad7 YI YJ ad8 hr5;obtain⟨nr,nM⟩:=bB r.length;have wg:=hid nM;rw[<-nM] at x6 Sc HR hr5;clear hu1 mU hr nM;have hmm:= @run_makeMap Tryz.prog;go_wp2;clear x6;generalize I3:wr=Wb at*;clear I3;have HM0:=hid (uN.made Wb);have HBa:Hid (BL Wb (Wb.alloc (.map #[] 0))):=hid (aF.alloc aH _);go_loopw [3,21] (fun nn ii wr=>∃i q:Nat,i<=nr/\ii=.int .i64 i/\nn=.int .i64 q/\q<=720/\Hid (q=Cz.arr (S.take k)*Cz.gW (fun _=>0) (r.take i))/\Hid (uN wr Wb.heap.size i (fun a=>((r.take i).count a:Nat)))/\Hid (BL Wb wr)) (fun _ ii _=>nr-(intOf ii).toNat);case atStart=>exact⟨0,m,Nat.zero_le _,rfl,rfl,hm,hid (by rw[HM.out];simp[Cz.gW]),hid (HM0.out.ext fun a _=>by simp),HBa⟩
   case round=>
    obtain⟨i,q,hi,rfl,rfl,hq,HQ,HMp,bX⟩:=hrel;have mQ:=aU HB bX.out;by_cases hit:i<nr
    ·have hir:i<r.length:=by rw[<-wg.out];exact hit
     have hi0:(0:Int)<=(i:Int):=aB
     have hi1:(i:Int)<(nr:Int):=aB
     obtain⟨y0,hy1,hy2⟩:=(wg.out▸HR.out).qt hir;obtain rfl:y0=.int .i64 r[i]:=hy1;have x7:=hy2 wr (hsl.out wr mQ.out);have aa6:=ad8.out _ (gm hir);have vM:=hid (YI.out i hir);have Yq:Hid (r.take (i+1)=r.take i++[r[i]]):=hid (CY hir);have HAp:=hid (ad7.out (i+1));clear hy2;generalize r[i]=y at*;obtain⟨c,hc⟩:=bB ((r.take i).count y:Nat)
     have hcl:c<=1000:=by
      rw[hc];have:=List.count_le_length (a:=y) (l:=r.take i);rw[LB] at this;omega
     have hlk:=HMp.out.look aa6;simp only[<-hc] at hlk;obtain⟨w2,hmu,hM2,hT2⟩:=HMp.out.put aB aa6 (v:=(c:Int)+1) ⟨aB,aB⟩;obtain⟨c1,hc1⟩:=bB (c+1:Nat);have hlk2:=hM2.look aa6;rw[if_pos rfl,show (c:Int)+1=(c1:Int) by omega] at hlk2;obtain⟨q1,hq1⟩:=bB (q*c1:Nat);have hq1l:q1<=720*1001:=by rw[hq1];exact Nat.mul_le_mul hq aB
     have hwq:IntKind.i64.wrap ((q:Int)*(c1:Int))=(q1:Int):=by
      have e:(q:Int)*(c1:Int)=(q1:Int):=by rw[hq1,Int.natCast_mul]
      rw[e];exact IntWalk.i64_in _ aB
     have HQ1:Hid (q1=Cz.arr (S.take k)*Cz.gW (fun _=>0) (r.take (i+1))):=hid (by
      rw[vM.out,hq1,HQ.out,hc1,hc,Nat.mul_assoc])
     have tF:Hid (uN w2 Wb.heap.size (i+1) (fun a=>((r.take (i+1)).count a:Nat))):=hid (hM2.ext fun a _=>by
      rw[Yq.out,List.count_append,hc];by_cases e:a=y
      ·subst e;simp
      ·rw[if_neg e];simp[Ne.symm e])
     have cE:Hid (BL Wb w2):=hid (bX.out.trans (hT2.below bX.out.size (fun b hb=>by rw[hb];exact aH)));have gK:=aU HB cE.out;clear hc hc1 hq1 hM2 hT2;by_cases hgt:720<q1
     ·have aa7:(720:Int)<(q1:Int):=by omega
      have HP:Hid (aa5 S w (.returned (.int .i64 (q1:Int))) w2):=hid ⟨q1,rfl,⟨fun _=>by have:=HAp.out;rw[<-HQ1.out] at this;omega,fun _=>hgt⟩,aB,gK.out⟩;go_wp2;go_ret;exact HP.out
     ·have aa7:¬(720:Int)<(q1:Int):=by omega
      go_wp2;go_roundw;case rel=>exact⟨i+1,q1,aB,by go_num,rfl,aB,HQ1,tF,cE⟩
      simp[intOf];omega
    ·obtain rfl:i=nr:=by omega
     have Uf:Hid (q=Cz.arr (S.take (k+1))):=hid (by
      rw[YJ.out,HQ.out,wg.out,List.take_length])
     go_wp2;go_roundw;case rel=>exact⟨k+1,q,aB,by go_num,rfl,hq,Uf,mQ⟩
     simp[intOf];omega
  ·obtain rfl:k=S.length:=by omega
   have HP:Hid (aa5 S w (.returned (.int .i64 (m:Int))) wr):=hid ⟨m,rfl,by rw[HM.out,List.take_length],aB,HB.out⟩;go_wp2;go_ret;exact HP.out
section
variable {P:Program} {t e:TypeId} {bytes:Nat} {w:World}
theorem Nl(ty:TypeId)(hT:jh P t e 1 bytes){v:Value}{n:Nat}{xs:List Value}(hown:w.ownsRow 0 e 1 v n xs)
  (b c:Nat)(x:Value)(hx:w.cell? ⟨b,0,none⟩=some x)(h1:x.oneCell'=true)(hsmall:n+1<=1000000000)(hne:v.ownBlock≠some b):
  ∃v' w',(Builtin.append_ #[t,t] ty #[v,.slice (some ⟨b,0,none⟩) 1 c]).run P w=.ok v' w'/\w'.ownsRow 0 e 1 v' (n+1) (xs++[x])/\w.grownBy w' v.ownBlock/\
   (v'.ownBlock=v.ownBlock\/v'.ownBlock=some w.heap.size)/\w'.ownsRow 0 e 1 v n xs/\(v'.ownBlock=v.ownBlock->∃a k,v=.slice a n k/\v'=.slice a (n+1) k):=by
 have hnews:∀j u,[x][j]?=some u->w.cell? ⟨bL (some ⟨b,0,none⟩),bP (some ⟨b,0,none⟩)+j,none⟩=some u:=by
  intro j u hu;obtain rfl:j=0:=by have:=(List.getElem?_eq_some_iff.1 hu).1;simpa using this
  simp at hu;subst hu;simpa using hx
 obtain⟨v',w',hr,h2,h3,h4⟩:=CV ty hT hown (some ⟨b,0,none⟩) 1 c (fun _=>⟨_,_,rfl⟩) [x] rfl hnews AF hsmall (Nat.zero_le _);have hlt:∀k,v.ownBlock=some k->k<w.heap.size:=fun k hk=>(hown.lt k hk).2;refine⟨v',w',hr,h2,h3,h4,?_⟩;rcases hown.2 with⟨rfl,rfl⟩|⟨g,cap,cur,rfl,hbg,hg,hnc,hcm,hcs,htake⟩
 ·have hxs:xs=[]:=List.eq_nil_of_length_eq_zero (by simpa using hown.1)
  subst hxs;refine⟨World.ownsRow_nil _ _ _ _,fun h=>?_⟩;rcases h2.2 with⟨h5,h6⟩|⟨g,cap,cur,rfl, -⟩
  ·omega
  ·simp[Value.ownBlock] at h
 ·obtain⟨ht,_,i,z,g1,g2,g3,g4,g5,g6,g7⟩:=hT
  have hnews':∀j u,[x][j]?=some u->w.cell? ((⟨b,0,none⟩:Addr).add j)=some u:=fun j u hu=>by
   rw[Addr.add_lit];exact hnews j u hu
  by_cases hroom:n+1<=cap
  ·have Ad:=run_append_room (P:=P) w t ty e i ht g1 g n cap cur hg ⟨b,0,none⟩ 1 c [x] (by simp[g3]) hnews' AF hroom (by rw[g3,hcs];simp;omega)
   rw[Ad] at hr;cases hr;have htl:xs.length=n:=by simpa using hown.1
   refine⟨⟨hown.1,.inr ⟨g,cap,_,rfl,hbg,setRow_heap w g cur _ e _ hg,hnc,hcm,?_,?_⟩⟩,fun _=>⟨_,_,rfl,rfl⟩⟩
   ·simp only[g3,Nat.mul_one,List.size_toArray,xP,LB,List.length_drop,Array.length_toList,List.length_cons,List.length_nil]
    simp only[Nat.mul_one] at hcs;omega
   ·simp only[g3,Nat.mul_one] at htake ⊢
    rw[htake,List.append_assoc,List.take_append_of_le_length aB,<-htl,List.take_length]
  ·have holds:∀j u,xs[j]?=some u->w.cell? ((⟨g,0,none⟩:Addr).add j)=some u:=hown.cells (g:=g) rfl
   have hby:(n+1)*i.bytes<=140737488355328:=by have:=Nat.mul_le_mul hsmall g7;rw[g4];omega
   have Ad:=run_append_grow (P:=P) w t ty e i z ht g1 g2 ⟨g,0,none⟩ n cap xs (by rw[g3];exact hown.1) holds ⟨b,0,none⟩ 1 c [x] (by simp[g3]) hnews' aB aB (growslice_fits aB hby);rw[Ad] at hr;cases hr;refine⟨⟨hown.1,.inr ⟨g,cap,cur,rfl,hbg,?_,hnc,hcm,hcs,htake⟩⟩,fun h=>?_⟩
   ·exact(Below.heap_alloc w.drew _ g (hlt g rfl)).trans hg
   ·have:=hlt g rfl
    simp[Value.ownBlock] at h;omega
end
theorem Bn{P:Program}{t:TypeId}{bytes:Nat}{w:World}{ops:Array Oper}{rest:List Oper}{o:Oper}{a:Act}{Q:Exit->Act->World->Prop}(hgd:o.guard=none)(s x:Operand)
  (ho:o.op=.call {callee:=.builtin .append,args:=#[s,x],argTypes:=#[t,t]})(hT:jh P t 3 1 bytes)
  {S:Nat->Prop}{v:Value}{xs:List Int}(hs:a.eval s=v)(hown:bg S w v xs){y:Int}{e':TypeId}
  (hx:a.eval x=.slice (some ⟨w.heap.size,0,none⟩) 1 1)(hsmall:xs.length+1<=1000000000)
  (h:∀v' w',bg (fun b=>v.ownBlock=some b\/w.heap.size<=b) w' v' (xs++[y])->Turns (fun b=>some b=v.ownBlock) w w'->bg S w' v xs->(v'.ownBlock=v.ownBlock->∃a k,v=.slice a xs.length k/\v'=.slice a (xs.length+1) k)->wpList P ops Q rest (a.put o.dst v') w'):
  wpList P ops Q (o::rest) a (w.alloc (.cells #[.int .i64 y] e')):=by
 have ha:BL w (w.alloc (.cells #[.int .i64 y] e')):=aF.alloc aH _;have hlt:∀k,v.ownBlock=some k->k<w.heap.size:=fun k hk=>(hown.1.lt k hk).2;obtain⟨v',w',hr,h2,h3,h4,h5,h6⟩:=Nl o.type hT (hown.1.alloc (.cells #[.int .i64 y] e')) w.heap.size 1 (.int .i64 y) (aN (aW w _ rfl) 0) (by simp[Value.oneCell']) hsmall (fun e=>Nat.lt_irrefl _ (hlt _ e));refine wpList_plain hgd fun K hK=>?_;unfold Oper.wp;simp[execOp,ho,resolve,invoke,builtin,hs,hx,hr,Result.andThen]
 refine hK _ _ (h v' w' ⟨by simpa using h2,fun b hb=>?_⟩ ((Turns.aS ha).trans (Turns.fI h3 fun b hb'=>hb'.symm)) ⟨by simpa using h5,hown.2⟩ (fun e=>by
  obtain⟨a1,k1,e1,e2⟩:=h6 e;exact⟨a1,k1,e1,e2⟩))
 rcases h4 with g|g
 ·exact .inl (by rw[<-g];exact hb)
 ·rw[g] at hb;exact .inr (by have:=mM hb;have:=ha.size;omega)
def dV(o:List Nat):List Int:=o.map fun(i:Nat)=>(i:Int)
def iO(n:Nat)(o:List Nat):Array Value:=((List.range n).map fun i=>Value.bool (decide (i∈o))).toArray
theorem zR(n:Nat)(o:List Nat):(iO n o).size=n:=by simp[iO]
theorem CG{n i:Nat}(o:List Nat)(b:Bool)(o':List Nat)(h:∀j,j<n->(j∈o'↔if j=i then b=true else j∈o)):(iO n o).setIfInBounds i (.bool b)=iO n o':=by
 apply Array.ext
 ·simp[iO]
 ·intro j h1 h2
  have hj:j<n:=by simpa [iO] using h2
  rw[Array.getElem_setIfInBounds (by simpa [iO] using hj)];have:=h j hj;by_cases e:i=j
  ·subst e
   rw[if_pos rfl];simp only[iO,List.getElem_toArray,List.getElem_map,List.getElem_range,Value.bool.injEq];rw[if_pos rfl] at this;cases b with
   |true=>exact(decide_eq_true (this.2 rfl)).symm
   |false=>exact(decide_eq_false (fun q=>by simpa using this.1 q)).symm
  ·rw[if_neg e]
   simp only[iO,List.getElem_toArray,List.getElem_map,List.getElem_range,Value.bool.injEq];rw[if_neg (Ne.symm e)] at this;exact decide_eq_decide.2 this.symm
structure ad9(bs yb bu bw bn u l:Nat)(sv wv:Value)(sort want:List Int)(w:World):Prop where
 s:w.heap[bs]?=some (.cells #[sv] 22 (0,0))
 y:w.heap[yb]?=some (.cells #[.func (.yield l) #[] #[]] 175 (0,0))
 u:w.heap[bu]?=some (.cells #[.slice (some ⟨u,0,none⟩) sort.length sort.length] 87 (0,0))
 wa:w.heap[bw]?=some (.cells #[wv] 22 (0,0))
 nx:w.heap[bn]?=some (.cells #[.func (.func 98) #[] #[.pointer (some ⟨bs,0,none⟩),.pointer (some ⟨yb,0,none⟩),.pointer (some ⟨bu,0,none⟩),.pointer (some ⟨bw,0,none⟩),.pointer (some ⟨bn,0,none⟩)]] 175 (0,0))
 sd:bq nV w sv sort
 wd:bq nV w wv want
def OrdQ(n0 N1 u n:Nat)(Kp:World->Prop)(J:(Nat->Prop)->List (Value×List Nat)->World->Prop)(F:Nat->Prop)(pre:List (Value×List Nat))(o:List Nat)(ov:Value)(xs:List (List Nat))(W W':World):Prop:=
 ∃F' ys,ys.map (·.2)=xs/\gj F F' W W'/\Kp W'/\J F' (pre++ys) W'/\W'.heap[u]?=some (.cells (iO n o) 4 (0,0))/\bg (fun b=>N1<=b/\F b) W' ov (dV o)/\Below n0 W W'/\
  ∀b,F b->N1<=b->b<W.heap.size->ov.ownBlock≠some b->W'.heap[b]?=W.heap[b]?
def aa8(n0 N1 u n:Nat)(Kp:World->Prop)(J:(Nat->Prop)->List (Value×List Nat)->World->Prop)(F:Nat->Prop)(pre:List (Value×List Nat))(o:List Nat)(ov:Value)(xs:List (List Nat))(W:World)(e:Ending)(W':World):Prop:=
 e=.returned (.bool true)/\OrdQ n0 N1 u n Kp J F pre o ov xs W W'
namespace Cz
def jA(fs:List Int)(r:Row)(n:Nat):Row:=(List.range r.length).map fun f=>if f<n/\fs.getD f (-2)≠ -2 then 0 else r.getD f 0
theorem JH(fs:List Int)(r:Row):jA fs r 0=r:=by
 unfold jA;conv=>rhs;rw[<-dN r 0]
 refine List.map_congr_left fun f _=>?_;rw[if_neg aB]
theorem Nn(fs:List Int)(r:Row)(n:Nat):(jA fs r n).length=r.length:=by simp[jA]
theorem Np{fs:List Int}{r:Row}{n:Nat}(hn:n<r.length)(h:fs.getD n (-2)≠ -2):(jA fs r n).set n 0=jA fs r (n+1):=by
 refine List.ext_getElem (by simp[jA]) fun j h1 h2=>?_;rw[List.getElem_set];by_cases e:n=j
 ·subst e
  rw[if_pos rfl];simp only[jA,List.getElem_map,List.getElem_range];rw[if_pos ⟨aB,h⟩]
 ·rw[if_neg e]
  simp only[jA,List.getElem_map,List.getElem_range];by_cases g:fs.getD j (-2)≠ -2
  ·by_cases l:j<n
   ·rw[if_pos ⟨l,g⟩,if_pos ⟨aB,g⟩]
   ·rw[if_neg (fun h=>l h.1),if_neg (fun h=>by omega)]
  ·rw[if_neg (fun h=>g h.2),if_neg (fun h=>g h.2)]
theorem Sn{fs:List Int}{r:Row}{n:Nat}(h:¬fs.getD n (-2)≠ -2):jA fs r n=jA fs r (n+1):=by
 unfold jA;refine List.map_congr_left fun j _=>?_;by_cases g:fs.getD j (-2)≠ -2
 ·by_cases l:j<n
  ·rw[if_pos ⟨l,g⟩,if_pos ⟨aB,g⟩]
  ·rw[if_neg (fun h=>l h.1),if_neg (fun h'=>?_)]
   have:j=n:=aB
   subst this;exact h h'.2
 ·rw[if_neg (fun h=>g h.2),if_neg (fun h=>g h.2)]
theorem Nq(fs:List Int)(r:Row):jA fs r r.length=mask fs r:=by
 unfold jA mask;refine List.map_congr_left fun j hj=>?_;have hj:j<r.length:=mP
 by_cases g:fs.getD j (-2)= -2
 ·rw[if_pos g,if_neg (fun h=>h.2 g)]
 ·rw[if_neg g,if_pos ⟨hj,g⟩]
def iX(ks:fT)(w:Wd)(k i:Nat):List Row:=(List.range i).map fun i=>mask (ks.getD k []) (row w k i)
theorem Gl(ks:fT)(w:Wd)(k i:Nat):iX ks w k (i+1)=iX ks w k i++[mask (ks.getD k []) (row w k i)]:=by simp[iX,List.range_succ]
def Nr(ks:fT)(w:Wd)(k:Nat):List Row:=(List.range k).map fun k=>rT (iX ks w k (len w k))
theorem Sq(ks:fT)(w:Wd)(k:Nat):Nr ks w (k+1)=Nr ks w k++[rT (iX ks w k (len w k))]:=by simp[Nr,List.range_succ]
theorem VE(ks:fT)(w:Wd):Nr ks w w.length=S0 ks w:=rfl
end Cz
structure rO(x:ah.cA)(z:Int)(ak al ar aw:Option Addr)(nk ck nl cl nr cr nw cw:Nat)(p:Nat)(L:List (List Int))(w:World):Prop where
 cell:∃v,w.heap[p]?=some (.cells #[.int .i64 z,.slice ak nk ck,.slice al nl cl,.slice ar nr cr,.slice aw nw cw,v] 118 (0,0))/\fC (p<·) w v L
theorem rO.next{x:ah.cA}{z:Int}{ak al ar aw:Option Addr}{nk ck nl cl nr cr nw cw p:Nat}{L:List (List Int)}{w w':World}(h:rO x z ak al ar aw nk ck nl cl nr cr nw cw p L w)(hb:BL w w'):rO x z ak al ar aw nk ck nl cl nr cr nw cw p L w':=by
 obtain⟨v,h1,h2⟩:=h.cell;exact⟨v,(hb.block _ (aC h1)).trans h1,ct.keep h2 (aD.below hb)⟩
theorem Sr{S:Nat->Prop}{w:World}{v:Value}{xs:List (List Int)}(h:fC S w v xs):∀b,v.ownBlock=some b->b<w.heap.size:=by
 obtain⟨-,us,Z,h2, -, -⟩:=h;exact fun b hb=>(h2.lt b hb).2
theorem DQ{w:World}{F:Nat}{x0 x1 x2 x3 x4 x5:Value}{t:TypeId}(h:w.heap[F]?=some (.cells #[x0,x1,x2,x3,x4,x5] t (0,0))):
  w.cell? ⟨F,0,none⟩=some x0/\w.cell? ⟨F,1,none⟩=some x1/\w.cell? ⟨F,2,none⟩=some x2/\w.cell? ⟨F,3,none⟩=some x3/\w.cell? ⟨F,4,none⟩=some x4/\w.cell? ⟨F,5,none⟩=some x5:=
 ⟨aN h 0,aN h 1,aN h 2,aN h 3,aN h 4,aN h 5⟩
theorem JI(x:ah.cA)(W:ah.eE)(hfit:Cz.l7 (aO x) W)(h5:∀k,Cz.len W k<=1000)(h20:∀k∈x.aA,k.aG.length<=20)(h10:x.aA.length<=10)(ak al ar aw:Option Addr)(ck cl cr cw:Nat)(w:World)
  (hv:d9 (·<w.heap.size) w (.agg #[.int .i64 x.aL,.slice ak x.aA.length ck,.slice al x.aP.length cl,.slice ar x.aR.length cr]) x)(hW:bN (·<w.heap.size) w (.slice aw W.length cw) W):
  Calls Tryz.prog 20 #[.agg #[.int .i64 x.aL,.slice ak x.aA.length ck,.slice al x.aP.length cl,.slice ar x.aR.length cr],.slice aw W.length cw] w fun e w'=>
   e=.returned (.pointer (some ⟨w.heap.size+1,0,none⟩))/\rO x x.aL ak al ar aw x.aA.length ck x.aP.length cl x.aR.length cr W.length cw (w.heap.size+1) (Cz.S0 (aO x) W) w'/\BL w w':=by
 have Tl:W.length=x.aA.length:=JY
 have JF:dX aw W.length:=by obtain⟨a,c,e,h, -⟩:=hW.form;cases e;exact h
 obtain⟨w1,hw1⟩:=bB (w.alloc (.cells #[.int .i64 x.aL,.slice ak x.aA.length ck,.slice al x.aP.length cl,.slice ar x.aR.length cr] 27));have hb1:BL w w1:=Ab
 have hz1:w1.heap.size=w.heap.size+1:=jH
 have hc1:w1.heap[w.heap.size]?=some (.cells #[.int .i64 x.aL,.slice ak x.aA.length ck,.slice al x.aP.length cl,.slice ar x.aR.length cr] 27 (0,0)):=CM
 obtain⟨w2,hw2⟩:=bB (w1.alloc (.cells #[.int .i64 x.aL,.slice ak x.aA.length ck,.slice al x.aP.length cl,.slice ar x.aR.length cr,.slice aw W.length cw,.slice none 0 0] 118));have bX:Hid (Below w.heap.size w w2):=hid (by rw[hw2];exact hb1.alloc aB _);have Vw:Hid (rO x x.aL ak al ar aw x.aA.length ck x.aP.length cl x.aR.length cr W.length cw w1.heap.size (Cz.Nr (aO x) W 0) w2):=hid ⟨_,Ot,gZ.nil _ _ _ _⟩;have HW1:=hid hw1;have HW2:=hid hw2;have HV:=hid hv;have HWV:=hid hW;have kX:=hid hfit;have H5:=hid h5;have GH:=hid Tl;have M7:=hid hz1;have Gh:=hid h20;obtain⟨⟨y0,y1,y2,y3⟩, -⟩:=bC hc1;clear hv hW hfit h5 Tl hw1 hb1 hc1 hw2 h20 hz1;go_enter Tryz.func20,Tryz.ntmps20;go_upto_region 1 with fail;rw[<-HW1.out];go_upto_region 2 with fail;rw[<-HW2.out];clear y0 y1 y2 y3;go_wp2;go_loopw [20] (fun kk wr=>∃k:Nat,k<=W.length/\kk=.int .i64 k/\Hid (rO x x.aL ak al ar aw x.aA.length ck x.aP.length cl x.aR.length cr W.length cw w1.heap.size (Cz.Nr (aO x) W k) wr)/\Hid (BL w wr)) (fun kk _=>W.length-(intOf kk).toNat);case atStart=>exact⟨0,Nat.zero_le _,rfl,Vw,bX⟩
 case round=>
  obtain⟨k,hk,rfl,HP,HB⟩:=hrel;by_cases hlt:k<W.length
  ·have hkx:k<x.aA.length:=by rw[<-GH.out];exact hlt
   have hk0:(0:Int)<=(k:Int):=aB
   have hk1:(k:Int)<(W.length:Int):=aB
   obtain⟨vk,hvk, -,hrk⟩:=(HWV.out.keep (aD.aS HB.out (fun _ h=>h))).at hlt;obtain⟨vk',aea,hvkl,VF⟩:=HWV.out.at hlt;have e:vk'=vk:=mM (((HB.out.cell (p:=⟨bL aw,bP aw+k,none⟩) hvkl).trans aea).symm.trans hvk);subst e;obtain⟨Ns,Nt,rfl,JJ, -, -⟩:=VF.form;obtain⟨nk,hnk⟩:=bB (W[k].length);have HNk:=hid hnk;have DR:nk<=1000:=abI
   rw[<-hnk] at hvk JJ VF;have HRk:=hid VF;obtain⟨q0,wR⟩:=bB wr.heap.size;obtain⟨w4,hw4⟩:=bB (wr.alloc (.cells #[.slice Ns nk Nt,.slice none 0 0] 120));have KN:Hid (Below q0 wr w4):=hid (by rw[hw4,wR];exact aF.alloc aH _);have HQ4:Hid (∃v,w4.heap[q0]?=some (.cells #[.slice Ns nk Nt,v] 120 (0,0))/\fC (q0<·) w4 v (Cz.iX (aO x) W k 0)):=hid ⟨_,by rw[hw4];exact aW _ _ wR,gZ.nil _ _ _ _⟩;have Bb:=hid hw4;have VG:=hid wR;have Ba:Hid (w.heap.size<=q0):=hid (by rw[wR];exact HB.out.size);have HBq:Hid (∀X,Below q0 wr X->BL wr X):=hid (fun X hX=>by rw[wR] at hX;exact hX);have HBp:Hid (∀X,Below q0 wr X->q0<=X.heap.size):=hid (fun X hX=>by rw[wR];exact hX.size);clear hrk VF hnk aea hw4;go_upto_region 6 with fail;rw[<-VG.out,<-Bb.out];clear hvk wR;go_wp2;generalize I3:wr=wb at*;clear I3;go_loopw [29] (fun ii wr=>∃i:Nat,i<=nk/\ii=.int .i64 i/\Hid (∃v,wr.heap[q0]?=some (.cells #[.slice Ns nk Nt,v] 120 (0,0))/\fC (q0<·) wr v (Cz.iX (aO x) W k i))/\Hid (Below q0 wb wr)) (fun ii _=>nk-(intOf ii).toNat);case atStart=>exact⟨0,Nat.zero_le _,rfl,HQ4,KN⟩
   case round=>
    obtain⟨i,hi,rfl,HQ,bX⟩:=hrel;by_cases hit:i<nk
    ·have xG:i<W[k].length:=by rw[<-HNk.out];exact hit
     have hi0:(0:Int)<=(i:Int):=aB
     have hi1:(i:Int)<(nk:Int):=aB
     have NW:=HB.out.trans (bX.out.mono Ba.out);obtain⟨vi,hvi, -,D9⟩:=(HRk.out.keep (aD.aS NW (fun _ h=>h))).at xG;rw[show W[k][i]=Cz.row W k i from by unfold Cz.row;rw[Cz.aQ hlt,Cz.aQ xG]] at D9;obtain⟨ai,ci,rfl,aa9, -, -⟩:=D9.form;have Be:Hid ((Cz.row W k i).length=(ah.kd x k).aG.length):=hid (by rw[kX.out.r k i hlt (by unfold Cz.len;rw[Cz.aQ hlt];exact xG),dc x hkx]);obtain⟨nr,nM⟩:=bB ((Cz.row W k i).length);have wg:Hid ((Cz.row W k i).length=nr):=hid nM.symm;have hr20:nr<=20:=by rw[nM,Be.out,dU hkx];exact Gh.out _ (gm hkx)
     have Cd:=hid (tO (Cz.row W k i) aB _ _ wr D9);rw[<-nM] at hvi aa9 Cd;have HQ0:Hid (wr.heap[q0]?=wr.heap[q0]?/\True):=hid ⟨rfl,trivial⟩;obtain⟨lv0,hl0, -⟩:=HQ.out;clear HQ0;have HQ0:=hid hl0;clear D9 hl0 nM NW;go_wp2_with fail;refine Cd.out.mono ?_;rintro e w5 ⟨v5,rfl,N9,jd⟩;obtain⟨ao,co,hv5,hok5, -, -⟩:=(bg.sl N9).form;rw[wg.out] at hv5;subst hv5;have iD:=hid jd;have HI50:Hid (bg (wr.heap.size<=·) w5 (.slice ao nr co) (Cz.jA ((aO x).getD k []) (Cz.row W k i) 0)):=hid (by rw[Cz.JH];exact N9);rw[wg.out] at hok5;clear N9 jd hvi;go_wp2;generalize hWi:wr=wi at*;clear hWi;go_loopw [37] (fun ff wr=>∃f:Nat,f<=nr/\ff=.int .i64 f/\Hid (bg (wi.heap.size<=·) wr (.slice ao nr co) (Cz.jA ((aO x).getD k []) (Cz.row W k i) f))/\Hid (BL wi wr)) (fun ff _=>nr-(intOf ff).toNat);case atStart=>exact⟨0,Nat.zero_le _,rfl,HI50,iD⟩
     case round=>
      obtain⟨f,hf,rfl,HI,cE⟩:=hrel;have tJ:=hid (bX.out.trans (cE.out.mono (HBp.out _ bX.out)));by_cases hft:f<nr
      ·have hfr:f<(Cz.row W k i).length:=by rw[wg.out];exact hft
       have hf0:(0:Int)<=(f:Int):=aB
       have hf1:(f:Int)<(nr:Int):=aB
       have rP:f<(ah.kd x k).aG.length:=by rw[<-Be.out];exact hfr
       obtain⟨vs,hs1, -⟩:=(HP.out.next (HBq.out _ tJ.out)).cell;obtain⟨s0,s1,s2,s3,s4, -⟩:=DQ hs1;have HHi:=hid (Jy x k f hkx rP ak al ar aw ck cl cr W.length cw (·<w.heap.size) wr (HV.out.keep (aD.aS (HB.out.trans (tJ.out.mono Ba.out)) (fun _ h=>h))));have Rk:=hid (fun h=>Cz.Np (fs:=(aO x).getD k []) hfr h);have Ma:=hid (fun h=>Cz.Sn (fs:=(aO x).getD k []) (r:=Cz.row W k i) (n:=f) h);have rI:Hid (Cz.fk (aO x) k f=((aO x).getD k []).getD f (-2)):=hid rfl;clear hs1 rP;obtain⟨d,hd⟩:=bB (decide (Cz.fk (aO x) k f≠ -2));rw[<-hd] at HHi;have HD:=hid hd;clear hd;go_wp2_with fail;refine HHi.out.mono ?_;rintro e w7 ⟨rfl,oV⟩;have jT:=aU cE oV;have wX:=hid (aX.keep HI.out (aD.below oV));clear oV HHi s0 s1 s2 s3 s4;cases d with
       |true=>
        have hne:((aO x).getD k []).getD f (-2)≠ -2:=by rw[<-rI.out];exact of_decide_eq_true HD.out.symm
        have hml:(Cz.jA ((aO x).getD k []) (Cz.row W k i) f).length=nr:=by rw[Cz.Nn,wg.out]
        obtain⟨g,cap,tI, -, -, -,hcs⟩:=eV wX.out.1 (by rw[hml];omega)
        rw[hml] at tI
        obtain⟨rfl,rfl⟩:ao=some ⟨g,0,none⟩/\co=cap:=by simpa using tI
        obtain⟨cc0,cf⟩:=hcs f (by rw[Bp,hml];exact hft)
        obtain⟨yc,cc⟩:∃y,w7.cell? ⟨g,f,none⟩=some y:=⟨_,cc0⟩
        have HG:=hid (wX.out.2 g rfl)
        have zy:Hid (bg (wi.heap.size<=·) (w7.setCell ⟨g,f,none⟩ (.int .i64 0)) (.slice (some ⟨g,0,none⟩) nr co) (Cz.jA ((aO x).getD k []) (Cz.row W k i) (f+1))):=hid (by
         rw[<-Rk.out hne]
         exact bg.put wX.out hml.symm f 0)
        have oW:Hid (BL wi (w7.setCell ⟨g,f,none⟩ (.int .i64 0))):=hid (jT.out.setCell HG.out _)
        clear cc0 tI hcs hml hne
        go_wp2
        go_roundw
        case rel=>exact⟨f+1,aB,by go_num,zy,oW⟩
        simp[intOf];omega
       |false=>
        have zy:Hid (bg (wi.heap.size<=·) w7 (.slice ao nr co) (Cz.jA ((aO x).getD k []) (Cz.row W k i) (f+1))):=hid (by
         rw[<-Ma.out (by rw[<-rI.out];exact of_decide_eq_false HD.out.symm)]
         exact wX.out)
        go_wp2
        go_roundw
        case rel=>exact⟨f+1,aB,by go_num,zy,jT⟩
        simp[intOf];omega
      ·obtain rfl:f=nr:=by omega
       have HIe:Hid (bg (wi.heap.size<=·) wr (.slice ao f co) (Cz.mask ((aO x).getD k []) (Cz.row W k i))):=hid (by
        rw[<-Cz.Nq,wg.out];exact HI.out)
       obtain⟨lv,hl1,hl2⟩:=HQ.out;have VH:=(cE.out.block _ (aC hl1)).trans hl1;have aeb:=ct.keep hl2 (aD.below cE.out);obtain⟨a7,c7,rfl,Nu, -, -⟩:=(fC.sl aeb).form;have c1:=(l6 VH).1.2;have c1f:=(l6 VH).2 1;have kE:=hid hl2;have HLc:=hid VH
       have rQ:(Cz.iX (aO x) W k i).length+1<=1000000000:=by
        simp[Cz.iX];omega
       clear hl1 hl2 VH aeb;go_wp2_with (at_builtin;go_must (refine iF aX rfl _ _ rfl Tryz.uQ rfl kE.out cE.out rfl (Cz.mask ((aO x).getD k []) (Cz.row W k i)) HIe.out rfl rQ ?_));intro v8 w8 NP jD
       have C9:Hid (fC (q0<·) w8 v8 (Cz.iX (aO x) W k (i+1))):=hid (by
        rw[Cz.Gl]
        refine ct.mono NP (fun b _ hb=>?_)
        rcases hb with h|h
        ·exact h.1
        ·exact lg (aC HQ0.out) h)
       have VI:=(jD.block _ (fun e=>Nat.lt_irrefl _ (kE.out.1 _ e.symm)) (aC HLc.out)).trans HLc.out;have oW:Hid (Below q0 wb w8):=hid ((bX.out.trans (cE.out.mono (HBp.out _ bX.out))).trans (jD.below (Nat.le_trans (HBp.out _ bX.out) cE.out.size) (fun b hb=>Nat.le_of_lt (kE.out.1 b hb.symm))))
       have HQ9:Hid (∃v,(w8.setCell ⟨q0,1,none⟩ v8).heap[q0]?=some (.cells #[.slice Ns nk Nt,v] 120 (0,0))/\fC (q0<·) (w8.setCell ⟨q0,1,none⟩ v8) v (Cz.iX (aO x) W k (i+1))):=hid
        ⟨v8,(heap_setCell_same _ _ 1 _ _ v8 VI),ct.keep C9.out (fun b hb _=>jQ _ ⟨q0,1,none⟩ _ _ (fun e=>by have h9:q0<b:=hb;have e9:b=q0:=e;omega))⟩
       have mR:Hid (Below q0 wb (w8.setCell ⟨q0,1,none⟩ v8)):=hid (oW.out.setCell aH _);obtain⟨a9,n9,c9,tI⟩:∃a n c,v8=.slice a n c:=Ts
       have c9:=(l6 VI).1.2;have c9f:=(l6 VI).2 1;clear NP jD VI c1 c1f;subst tI;go_wp2;go_roundw;case rel=>exact⟨i+1,aB,by go_num,HQ9,mR⟩
       simp[intOf];omega
    ·obtain rfl:i=nk:=by omega
     have mQ:=hid (HB.out.trans (bX.out.mono Ba.out));obtain⟨lv,hl1,hl2⟩:=HQ.out;obtain⟨a7,c7,hlv,Nu, -, -⟩:=(fC.sl hl2).form;have hfl:(Cz.iX (aO x) W k i).length=i:=by simp[Cz.iX]
     rw[hfl] at hlv Nu;subst hlv;have Oe:=hid hl1;have kE:=hid hl2;obtain⟨uv,hs1,hs2⟩:=(HP.out.next (HBq.out _ bX.out)).cell;obtain⟨a8,c8,rfl,Nv, -, -⟩:=(fC.sl hs2).form;have HSc:=hid hs1;have HSr:=hid hs2
     have HQs:Hid (∀b,(Value.slice a8 (Cz.Nr (aO x) W k).length c8).ownBlock=some b->q0≠b):=hid (fun b hb e=>by
      obtain⟨uv0,hu1,mU⟩:=HP.out.cell;have e1:=(HBq.out _ bX.out).block _ (aC hu1);have e2:=(e1.trans hu1).symm.trans hs1;have e3:uv0=.slice a8 (Cz.Nr (aO x) W k).length c8:=by simpa using e2
      have h9:=(Sr mU) b (by rw[e3];exact hb);have:=VG.out;omega)
     have abb:i<=1000:=DR;have D4:=hid (fun(X:World) (hX:BL wr X)=>Cv (Cz.iX (aO x) W k i) (by rw[hfl];exact abb) Ns a7 Nt c7 X (dr.mono (S':=(·<X.heap.size)) ((fC.sl kE.out).keep (aD.below hX)|>fun h=>by rw[hfl];exact h) (fun b hb _=>hb)));rw[hfl] at D4;have rQ:(Cz.Nr (aO x) W k).length+1<=1000000000:=by simp[Cz.Nr];have:=GH.out;omega
     obtain⟨⟨z0,z1⟩, -⟩:=l6 hl1;clear hl1 hl2 hs1 hs2 hfl;go_upto_region 18 with fail;clear z0 z1;have MQ:∀xh:Held (fun V=>V.heap[q0]?=wr.heap[q0]?/\V.heap[w1.heap.size]?=wr.heap[w1.heap.size]?),xh.1.cell? ⟨q0,0,none⟩=some (.slice Ns i Nt):=fun xh=>(l6 (xh.2.1.trans Oe.out)).1.1;have Jd:∀xh:Held (fun V=>V.heap[q0]?=wr.heap[q0]?/\V.heap[w1.heap.size]?=wr.heap[w1.heap.size]?),xh.1.cell? ⟨q0,1,none⟩=some (.slice a7 i c7):=fun xh=>(l6 (xh.2.1.trans Oe.out)).1.2;have Ve:∀xh:Held (fun V=>V.heap[q0]?=wr.heap[q0]?/\V.heap[w1.heap.size]?=wr.heap[w1.heap.size]?),xh.1.cell? ⟨w1.heap.size,5,none⟩=some (.slice a8 (Cz.Nr (aO x) W k).length c8):=fun xh=>(DQ (xh.2.2.trans HSc.out)).2.2.2.2.2;have Cd:Hid (∀V,BL wr V->V.heap[q0]?=wr.heap[q0]?/\V.heap[w1.heap.size]?=wr.heap[w1.heap.size]?):=hid (fun V hV=>⟨hV.block _ (aC Oe.out),hV.block _ (aC HSc.out)⟩);refine aZ 9 (.quiet 0 (.quiet 1 (.quiet 2 (.quiet 3 (.quiet 4 (.quiet 5 (.one 6 (.one 7 (.one 8 .done))))))))) (fun V=>V.heap[q0]?=wr.heap[q0]?/\V.heap[w1.heap.size]?=wr.heap[w1.heap.size]?) oL (by kernel_rfl) ⟨rfl,rfl⟩ ?_;have iK:=hid (aI (Below.refl wr.heap.size wr) 1);generalize qE:wr.drewN 1=w6 at*;clear qE
     iterate 6 refine fE ?_
     refine aT rfl ?_;go_wp2_with fail;refine(D4.out w6 iK.out).mono ?_;rintro e w7 ⟨v7,rfl,Tw,oV⟩;have jT:=aU iK oV;have wX:=hid (aX.mono Tw (S':=(wr.heap.size<=·)) (fun b _ hb=>Nat.le_trans iK.out.size hb));obtain⟨a10,n10,c10,rfl⟩:∃a n c,v7=.slice a n c:=Y0
     clear Tw oV;go_wp2_with fail;refine aJ (fun V=>V.heap[q0]?=wr.heap[q0]?/\V.heap[w1.heap.size]?=wr.heap[w1.heap.size]?) (fun _ h=>h) (Cd.out _ jT.out) ?_;refine aT rfl ?_;go_wp2_with fail;refine aJ (fun V=>V.heap[q0]?=wr.heap[q0]?/\V.heap[w1.heap.size]?=wr.heap[w1.heap.size]?) (fun _ h=>h) (Cd.out _ (jT.out.alloc jT.out.size _)) ?_;refine aT rfl ?_;clear MQ Jd Ve;go_wp2_with (at_builtin;go_must (refine iF aX rfl _ _ rfl Tryz.uQ rfl HSr.out jT.out rfl (Cz.rT (Cz.iX (aO x) W k i)) wX.out rfl rQ ?_));intro v8 w8 NP jD
     have C9:Hid (fC (w1.heap.size<·) w8 v8 (Cz.Nr (aO x) W (k+1))):=hid (by
      rw[Cz.Sq]
      have hlen:Cz.len W k=i:=by rw[HNk.out];unfold Cz.len;rw[Cz.aQ hlt]
      rw[hlen]
      refine ct.mono NP (fun b _ hb=>?_)
      rcases hb with h|h
      ·exact h.1
      ·exact lg (aC HSc.out) h)
     have lZ:BL w w8:=mQ.out.trans ((jT.out.mono mQ.out.size).trans (jD.below (Nat.le_trans mQ.out.size jT.out.size) (fun b hb=>by have h9:w1.heap.size<b:=HSr.out.1 b hb.symm;have:=M7.out;omega)));have hc8:=(jD.block _ (fun e=>Nat.lt_irrefl _ (HSr.out.1 _ e.symm)) (lg (aC HSc.out) jT.out.size)).trans ((jT.out.block _ (aC HSc.out)).trans HSc.out)
     have HP9:Hid (rO x x.aL ak al ar aw x.aA.length ck x.aP.length cl x.aR.length cr W.length cw w1.heap.size (Cz.Nr (aO x) W (k+1)) (w8.setCell ⟨w1.heap.size,5,none⟩ v8)):=hid
      ⟨v8,heap_setCell_same _ _ 5 _ _ v8 hc8,ct.keep C9.out (fun b hb _=>jQ _ ⟨w1.heap.size,5,none⟩ _ _ (fun e=>by have h9:w1.heap.size<b:=hb;have e9:b=w1.heap.size:=e;omega))⟩
     have mR:Hid (BL w (w8.setCell ⟨w1.heap.size,5,none⟩ v8)):=hid (lZ.setCell (by show w.heap.size<=w1.heap.size;have:=M7.out;omega) _);have tK:=hid hc8;have HCm:Hid (w8.heap[q0]?=wr.heap[q0]?/\w8.heap[w1.heap.size]?=wr.heap[w1.heap.size]?):=hid ⟨(jD.block _ (fun e=>HQs.out _ e.symm rfl) (lg (aC Oe.out) jT.out.size)).trans (jT.out.block _ (aC Oe.out)),hc8.trans HSc.out.symm⟩;obtain⟨a11,n11,c11,rfl⟩:∃a n c,v8=.slice a n c:=Ts
     clear NP jD lZ hc8;refine aJ (fun V=>V.heap[q0]?=wr.heap[q0]?/\V.heap[w1.heap.size]?=wr.heap[w1.heap.size]?) (fun _ h=>h) ⟨HCm.out.1,HCm.out.2⟩ ?_;refine bh ?_;try simp only[jZ,jP]
     have c9:=(DQ tK.out).2.2.2.2.2;have c9f:=dJ tK.out 5;go_wp2;go_roundw;case rel=>exact⟨k+1,aB,by go_num,HP9,mR⟩
     simp[intOf];omega
  ·obtain rfl:W.length=k:=by omega
   have HE:Hid (rO x x.aL ak al ar aw x.aA.length ck x.aP.length cl x.aR.length cr W.length cw w1.heap.size (Cz.S0 (aO x) W) wr/\BL w wr):=hid ⟨by rw[<-Cz.VE];exact HP.out,HB.out⟩;go_wp2;go_ret;exact⟨by rw[<-M7.out];rfl,by rw[<-M7.out];exact HE.out⟩
end Go.Proofs.YtibacilhkciihaaGreatDoor
