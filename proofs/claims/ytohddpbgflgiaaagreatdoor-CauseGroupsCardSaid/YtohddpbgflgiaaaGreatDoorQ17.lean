/- Part 17 of the walks and plain laws that the proof needs (packed). -/
import Derived.Test.YtohddpbgflgiaaaGreatDoorQ1
import Derived.Test.YtohddpbgflgiaaaGreatDoorQ6
import Derived.Test.YtohddpbgflgiaaaGreatDoorQ10
import Derived.Test.YtohddpbgflgiaaaGreatDoorQ13
import Derived.Test.YtohddpbgflgiaaaGreatDoorQ14
import Derived.Test.YtohddpbgflgiaaaGreatDoorQ15
import Derived.Test.YtohddpbgflgiaaaGreatDoorQ16
set_option linter.all false
set_option maxRecDepth 100000
set_option maxHeartbeats 8000000
open Go.Proofs.Tryz
variable{p:Prop}
namespace Go.Proofs.YtohddpbgflgiaaaGreatDoor
open Go.RowKit
theorem eA.getD{α:Type}{R:World->Value->α->Prop}{S:Nat->Prop}{w:World}{a:Option Addr}{n cap:Nat}{xs:List α}(h:eA R S w (.slice a n cap) xs)(d:α){j:Nat}(b:j<xs.length):∃u,w.cell? ⟨bM a,bT a+j,none⟩=some u/\R w u (xs.getD j d):=by
 obtain⟨u,c, -,e⟩:=h.at b;exact⟨u,c,by rw[iY,lN b];exact e⟩
theorem all_succ(p:Nat->Bool)(j:Nat):(List.range (j+1)).all p=((List.range j).all p&&p j):=by
 rw[zxs,List.all_append];simp
theorem Az{w0 w:World}(q:Nat)(h:∃a,w=w0.drewN a):∃a,w.drewN q=w0.drewN a:=by
 obtain⟨a,h⟩:=h;exact⟨a+q,by rw[h];simp[World.drewN,Nat.add_assoc]⟩
theorem iW{w0 w w1:World}{B:Nat}(h:Below B w1 w0)(hd:∃a,w=w0.drewN a):Below B w1 w:=by
 obtain⟨a,rfl⟩:=hd;exact aJ h a
theorem rF{w0 w:World}(hd:∃a,w=w0.drewN a):BL w0 w:=iW aG hd
theorem Z8(h:p:=by
  go_wp2
  go_roundw
  case rel=>exact⟨j+1,false,aD,zG,rfl,HZ3,zu⟩
  exact zI):p:=h
theorem Qh(b:List (List Int))(hl:b.length<=100000)(v:Value)(S:Nat->Prop)(w:World)(T:cG S w v b):
  CP 85 #[v] w fun e t=>∃u,e=.returned u/\bB (w.heap.size<=·) t u (Cz.tA b)/\BL w t:=by
 obtain⟨a,cap,rfl,U,D,ab⟩:=T.form;have E:=hid (fun W (hb:BL w W)=>cG.keep T (aH.below hb));obtain⟨n,V⟩:=bJ b.length;rw[<-V] at hl E U D ⊢;have HN:=hid V;clear T V;go_enter func85,ntmps85;go_upto_region 3 with fail;go_loopw [3,4,5,6,7,8] (fun o i _ _ _ _ wr=>∃(k:Nat) (X:Value) (l:List Int),k<=n/\i=.int .i64 k/\o=X/\l.length=k/\Hid (l=(b.take k).map (Cz.rk b))/\Hid (fG (fun _ _ u (x:Int)=>u=.int .i64 x) w.heap.size 3 wr X l)/\Hid (BL w wr)) (fun _ i _ _ _ _ _=>n-(intOf i).toNat);case atStart=>exact⟨0,_,[],zxa _,rfl,rfl,rfl,hid rfl,hid (fG.nil _ _ _ _),hid aG⟩
 case round=>
  obtain⟨k,X,l,hk,rfl,rfl,Y,M,N,Z⟩:=hrel;by_cases hlt:k<n
  ·have ad:=zN k
   have ae:=zL k n
   have F:k<b.length:=Nv
   obtain⟨r,y⟩:=bJ (b.getD k []);have Fz:=hid y
   have Ni:Hid (∀c:Nat,c=Cz.uM b r n->l++[(c:Int)]=(b.take (k+1)).map (Cz.rk b)):=hid (fun c hc=>by
    rw[yh F,zxj,<-M.out,hc,HN.out,Cz.P4,y,iY,lN F];rfl)
   clear y M;have C:=Z;have G:=N;clear Z N;generalize wr=wo at*;go_upto_region 7 with fail;go_loopw [5,6,7,8] (fun c kk _ _ wr=>∃m c':Nat,m<=n/\kk=.int .i64 m/\c=.int .i64 (c':Int)/\c'<=m/\Hid (c'=Cz.uM b r m)/\Hid (∃mm,wr=wo.drewN mm)) (fun _ kk _ _ _=>n-(intOf kk).toNat);case atStart=>exact⟨0,0,zxa _,rfl,rfl,aL,hid rfl,hid ⟨0,rfl⟩⟩
   case round=>
    obtain⟨m,c,hm,rfl,rfl,af,O,HR⟩:=hrel;by_cases zQ:m<n
    ·have ag:=zN m
     have ah:=zL m n
     obtain⟨p,hp,g⟩:=eA.getD (E.out _ (iW C.out HR.out)) [] (show m<b.length by rw[<-HN.out];exact zQ);obtain⟨q,hq,A⟩:=eA.getD (E.out _ (iW C.out HR.out)) [] (show k<b.length by rw[<-HN.out];exact hlt);rw[<-Fz.out] at A;obtain⟨s,P⟩:=bJ (b.getD m []);rw[<-P] at g;have K5:=hid P;have B:Hid (∀h,CP 49 #[p,q] (wr.drewN h) fun e t=>e=.returned (.bool (decide (Cz.di s r<0)))/\∃m,t=wr.drewN m):=hid (fun h=>(Ih s r p q _ _ (wr.drewN h) (bB.keep g (aH.below (aJ aG _))) (bB.keep A (aH.below (aJ aG _)))).mono fun e t ⟨h1,m2,h2⟩=>⟨h1,h+m2,Sn⟩);have H:=hid (fun q=>Az q HR.out)
     have GJ:Hid (∀z:Bool,z=(decide (Cz.di s r<0)&&(List.range m).all fun I=> !decide (b.getD I []=s))->Cz.uM b r (m+1)=c+if z=true then 1 else 0):=hid (fun z hz=>by
      rw[Cz.MG,O.out,hz,P];rfl)
     clear g A P O;obtain⟨lb,J⟩:=bJ (decide (Cz.di s r<0));rw[<-J] at B GJ;clear J;go_wp2;go_quiet ((exact B.out _));have vw:=hid (H.out nq);clear B H hp hq HR;generalize wr.drewN nq=wd at*;go_upto_region 11 with fail;go_loopw [7,8] (fun f jj wr=>∃(j:Nat) (z:Bool),j<=m/\jj=.int .i64 j/\f=.bool z/\Hid (z=(lb&&(List.range j).all fun I=> !decide (b.getD I []=s)))/\Hid (∃mm,wr=wo.drewN mm)) (fun _ jj _=>m-(intOf jj).toNat);case atStart=>exact⟨0,lb,zxa _,rfl,rfl,hid bH,vw⟩
     case round=>
      obtain⟨j,z,hj,rfl,rfl,Q,K⟩:=hrel;by_cases ai:j<m
      ·have aj:=zN j
       have ak:=zL j n
       have al:=zL j m
       obtain⟨p,hp,g⟩:=eA.getD (E.out _ (iW C.out K.out)) [] (show j<b.length by rw[<-HN.out];omega);obtain⟨q,hq,A⟩:=eA.getD (E.out _ (iW C.out K.out)) [] (show m<b.length by rw[<-HN.out];exact zQ);rw[<-K5.out] at A;have aa:Hid (∀h,CP 15 #[p,q] (wr.drewN h) fun e t=>e=.returned (.bool (decide (b.getD j []=s)))/\∃m,t=wr.drewN m):=hid (fun h=>(rJ _ s p q _ _ (wr.drewN h) (bB.keep g (aH.below (aJ aG _))) (bB.keep A (aH.below (aJ aG _)))).mono fun e t ⟨h1,m2,h2⟩=>⟨h1,h+m2,Sn⟩);have H:=hid (fun q=>Az q K.out);have ER:Hid ((z&& !decide (b.getD j []=s))=(lb&&(List.range (j+1)).all fun I=> !decide (b.getD I []=s))):=hid (by rw[all_succ,Q.out,Bool.and_assoc]);clear g A Q;generalize decide (b.getD j []=s)=d at*;cases z with
       |true=>
        go_wp2
        go_quiet ((exact aa.out _))
        have zu:=hid (H.out nq)
        have HZ3:=hid (show (!d)=_ from ER.out)
        go_wp2
        go_roundw
        case rel=>exact⟨j+1, !d,aD,zG,rfl,HZ3,zu⟩
        exact zI
       |false=>
        go_wp2
        go_quiet (fail)
        have zu:=hid (H.out nq)
        have HZ3:=hid (show false=_ from ER.out)
        exact Z8
      ·obtain rfl:j=m:=by omega
       have GF:=hid (GJ.out z Q.out);clear Q GJ;cases z with
       |true=>
        go_wp2
        go_roundw
        case rel=>exact⟨j+1,c+1,aD,zG,zG,aD,hid GF.out.symm,K⟩
        exact zI
       |false=>
        go_wp2
        go_roundw
        case rel=>exact⟨j+1,c,aD,zG,rfl,aD,hid GF.out.symm,K⟩
        exact zI
    ·obtain rfl:m=n:=by omega
     have R:=hid (Ni.out c O.out);have cH:=hid (iW C.out HR.out);have wQ:=hid (fG.below jN G.out (rF HR.out));clear O Ni HR C G;go_wp2_with (at_builtin;go_must (refine jO jN rfl _ _ rfl Tryz.jG rfl wQ.out rfl (c:Int) rfl rfl aD cH.out.size cH.out aL ?_));intro v5 w5 L jZ _;have Zq:=hid L;have iH:=hid jZ;clear L jZ;go_wp2;go_roundw;case rel=>exact⟨k+1,_,_,aD,zG,rfl,by simp[Y],R,Zq,iH⟩
     exact zI
  ·obtain rfl:k=n:=by omega
   have R:Hid (l=Cz.tA b):=hid (by rw[M.out,ND (by rw[HN.out];omega)];rfl);have HS:=hid (N.out.sl jN);rw[R.out] at HS;clear R M N;go_wp2;go_ret;exact⟨_,rfl,HS.out,Z.out⟩
def MX(l:List Int)(m:Nat):Nat:=((List.range m).filter (Cz.uL l 0)).length
theorem Vo(l:List Int)(m:Nat):MX l (m+1)=MX l m+if Cz.uL l 0 m=true then 1 else 0:=by
 unfold MX;rw[zxs,alX,rK];congr 1;by_cases h:Cz.uL l 0 m=true
 ·rw[if_pos h,List.filter_cons,List.filter_nil,if_pos h];rfl
 ·rw[if_neg h,List.filter_cons,List.filter_nil,if_neg h];rfl
theorem aaV(l:List Int):MX l l.length=(Cz.dU Cz.dB l).length:=Cz.U3 Cz.gP l 0
theorem Vp(X:List (List Int)){k:Nat}(h:k<X.length):Cz.diff (X.take (k+1))=Cz.diff (X.take k)+MX X[k] X[k].length:=by
 unfold Cz.diff;rw[yh h,zxj,List.sum_append,aaV];simp
theorem Vq(X:List (List Int))(Z:X.length<=6)(h5:∀l∈X,l.length<=512)(v:Value)(S:Nat->Prop)(w:World)(F:cG S w v X):
  CP 86 #[v] w fun e w'=>e=.returned (.int .i64 (Cz.diff X:Nat))/\∃m,w'=w.drewN m:=by
 obtain⟨a,cap,rfl,G,A,P⟩:=F.form;have Q:=hid F;obtain⟨n,H⟩:=bJ X.length;rw[<-H] at Z Q G A ⊢;have HN:=hid H;clear F H;go_enter func86,ntmps86;go_upto_region 3 with fail;go_loopw [3,4,5,6,7] (fun c i _ _ _ wr=>∃k I:Nat,k<=n/\i=.int .i64 k/\c=.int .i64 (I:Int)/\I<=512*k/\Hid (I=Cz.diff (X.take k))/\Hid (∃b,wr=w.drewN b)) (fun _ i _ _ _ _=>n-(intOf i).toNat);case atStart=>exact⟨0,0,zxa _,rfl,rfl,aL,hid rfl,hid ⟨0,rfl⟩⟩
 case round=>
  obtain⟨k,c,hk,rfl,rfl,aa,d,HR⟩:=hrel;by_cases hlt:k<n
  ·have ab:=zN k
   have ad:=zL k n
   have g:k<X.length:=Nv
   obtain⟨p,B, -,o⟩:=Q.out.at g;obtain⟨s,R,rfl,ae, -, -⟩:=o.form;have af:=h5 _ (eV g);have T:Hid (∀c2,c2=c+MX X[k] X[k].length->c2=Cz.diff (X.take (k+1))):=hid (fun c2 h=>by rw[h,d.out,Vp X g]);have HP:=hid B;have U:=hid o;clear B o d;generalize X[k]=l at*;generalize wr=wo at*;go_upto_region 6 with fail;go_loopw [3,5,6,7] (fun cc J _ _ wr=>∃i c2:Nat,i<=l.length/\J=.int .i64 i/\cc=.int .i64 (c2:Int)/\c2<=512*k+i/\Hid (c2=c+MX l i)/\Hid (∃b,wr=w.drewN b)) (fun _ J _ _ _=>l.length-(intOf J).toNat);case atStart=>exact⟨0,c,zxa _,rfl,rfl,aD,hid rfl,HR⟩
   case round=>
    clear HR;obtain⟨i,c2,hi,rfl,rfl,ag,d,HR⟩:=hrel;have B:wr.cell? ⟨bM a,bT a+k,none⟩=some (.slice s l.length R):=by obtain⟨b,h⟩:=HR.out;rw[h];exact HP.out
    by_cases hit:i<l.length
    ·have ah:=zN i
     have ai:=zL i l.length
     have K:Hid (Cz.uL l 0 i=(List.range i).all fun j=> !decide (l.getD j 0=l.getD i 0)):=hid rfl;have GJ:Hid (c2+(if Cz.uL l 0 i=true then 1 else 0)=c+MX l (i+1)):=hid (by rw[Vo,d.out,Nat.add_assoc]);obtain⟨x,hx⟩:=bJ (l.getD i 0);rw[<-hx] at K;have L:=hid hx;clear d hx;generalize Cz.uL l 0 i=V at*;go_upto_region 10 with fail;clear B;go_loopw [6,7] (fun f M wr=>∃(j:Nat) (z:Bool),j<=i/\M=.int .i64 j/\f=.bool z/\Hid (z=(List.range j).all fun r=> !decide (l.getD r 0=x))/\Hid (∃b,wr=w.drewN b)) (fun _ M _=>i-(intOf M).toNat);case atStart=>exact⟨0,true,zxa _,rfl,rfl,hid rfl,HR⟩
     case round=>
      clear HR;obtain⟨j,z,hj,rfl,rfl,E,HR⟩:=hrel;by_cases aj:j<i
      ·have B:wr.cell? ⟨bM a,bT a+k,none⟩=some (.slice s l.length R):=by obtain⟨b,h⟩:=HR.out;rw[h];exact HP.out
       obtain⟨p1,C,tZ⟩:=eA.getD U.out 0 (show j<l.length by omega);obtain⟨p2,D,W⟩:=eA.getD U.out 0 hit;rw[<-L.out] at W;subst tZ W;have hq:wr.cell? ⟨bM s,bT s+j,none⟩=some (.int .i64 (l.getD j 0)):=by obtain⟨b,h⟩:=HR.out;rw[h];exact C
       have hr:wr.cell? ⟨bM s,bT s+i,none⟩=some (.int .i64 x):=by obtain⟨b,h⟩:=HR.out;rw[h];exact D
       have ak:=zN j
       have al:=zL j l.length
       have am:=zL j i
       have N:=hid (fun q=>Az q HR.out);have t:Hid ((z&& !decide (l.getD j 0=x))=(List.range (j+1)).all fun r=> !decide (l.getD r 0=x)):=hid (by rw[all_succ,E.out]);clear C D E;generalize l.getD j 0=y at*;cases z with
       |true=>
        by_cases u:y=x
        ·have e1:(y !=x)=false:=by simp[u]
         have HZ3:Hid (false=(List.range (j+1)).all fun r=> !decide (l.getD r 0=x)):=hid (by have:=t.out;rwa [decide_eq_true u] at this);clear t u;go_wp2;go_quiet (fail);have zu:=hid (N.out nq);exact Z8
        ·have e1:(y !=x)=true:=by simp[u]
         have HZ3:Hid (true=(List.range (j+1)).all fun r=> !decide (l.getD r 0=x)):=hid (by have:=t.out;rwa [decide_eq_false u] at this);clear t u;go_wp2;go_quiet (fail);have zu:=hid (N.out nq);go_wp2;go_roundw;case rel=>exact⟨j+1,true,aD,zG,rfl,HZ3,zu⟩
         exact zI
       |false=>
        have HZ3:=hid (show false=_ from t.out)
        clear t
        go_wp2
        go_quiet (fail)
        have zu:=hid (N.out nq)
        exact Z8
      ·obtain rfl:j=i:=by omega
       have O:V=z:=K.out.trans E.out.symm;subst O;have Y:=hid GJ.out;clear E GJ K;cases V with
       |true=>
        go_wp2
        go_roundw
        case rel=>exact⟨j+1,c2+1,aD,zG,zG,aD,Y,HR⟩
        exact zI
       |false=>
        go_wp2
        go_roundw
        case rel=>exact⟨j+1,c2,aD,zG,rfl,aD,Y,HR⟩
        exact zI
    ·obtain rfl:i=l.length:=by omega
     have GJ:=hid (T.out c2 d.out);clear d T;go_wp2;go_roundw;case rel=>exact⟨k+1,c2,aD,zG,rfl,aD,GJ,HR⟩
     exact zI
  ·have GJ:Hid ((c:Int)=(Cz.diff X:Nat)):=hid (by rw[d.out,ND abp])
   go_wp2;go_ret;exact⟨iL GJ.out,HR.out⟩
theorem pP(w:World):bp (w.heap.size<=·) (w.alloc (.cells #[] 3)) (.slice (some ⟨w.heap.size,0,none⟩) 0 0) []:=
 ⟨World.ownsRow_made w #[] 0 (zxa _) (zxa _) bH,fun b a=>by simp[Value.ownBlock] at a;omega⟩
theorem bp.store{S:Nat->Prop}{w:World}{g n cap:Nat}{xs:List Int}(h:bp S w (.slice (some ⟨g,0,none⟩) n cap) xs)(a:n=xs.length){B:Nat}{w0:World}(b:Below B w0 w)(hB:B<=g)(j:Nat)(x:Int):
  bp S (w.setCell ⟨g,j,none⟩ (.int .i64 x)) (.slice (some ⟨g,0,none⟩) n cap) (xs.set j x)/\Below B w0 (w.setCell ⟨g,j,none⟩ (.int .i64 x)):=
 ⟨bp.set h a j x,b.setCell hB _⟩
theorem bp.free{S:Nat->Prop}{w:World}{g n cap:Nat}{xs:List Int}(h:bp S w (.slice (some ⟨g,0,none⟩) n cap) xs)(h0:0<xs.length)(j:Nat)(a:j<xs.length):w.frozen? ⟨g,j,none⟩=false/\∃x,w.cell? ⟨g,j,none⟩=some (.int .i64 x):=by
 obtain⟨c,c2,e, -, -,b⟩:=h.sN h0;injection e with e1 e2 e3
 iterate 2
  injection e1 with e1
 subst e1;exact⟨(b j a).2,(b j a).1⟩
theorem yt{l:List Int}{k:Nat}(h:k<l.length):l.getD k 0=l[k]:=by rw[iY,lN h];rfl
theorem ae7(h:p:=by
  go_wp2
  go_quiet (fail)
  have HI2:=hid (aW.keep HI.out (aH.below (aJ (Below.refl wr.heap.size wr) nq)))
  have cH:=hid (aJ HB.out nq)
  go_wp2
  go_roundw
  case rel=>exact⟨i+1,L,aD,zG,HS2,HI2,cH⟩
  exact zI):p:=h
theorem BF(l:List Int)(hl:l.length<=100000)(v:Value)(S:Nat->Prop)(w:World)(J:bB S w v l):
  CP 88 #[v] w fun e V=>∃u,e=.returned u/\bB (w.heap.size<=·) V u (Cz.eU Cz.dB l)/\BL w V:=by
 obtain⟨a,cap,rfl,K,p,r⟩:=J.form;have W:=pP w;have d:BL w (w.alloc (.cells #[] 3)):=aG.alloc aL _;have X:bB S (w.alloc (.cells #[] 3)) (.slice a l.length cap) l:=bB.keep J (aH.below d);go_enter func88,ntmps88;go_wp2_with (at_builtin;go_must (refine dI rfl _ _ rfl Tryz.jG rfl W aG rfl X jo ?_));intro v1 w1 hI1 s
 have f:bp (w.heap.size<=·) w1 v1 l:=by
  exact XA
 have c:BL w w1:=d.trans (s.below bH (fun b hb=>by simp[Value.ownBlock] at hb;omega));clear W hI1 X s d J;by_cases M:l.length=0
 ·obtain rfl:=zxh M
  obtain⟨a1,c1,rfl, -, -, -⟩:=(bp.sl f).form;have HI:=hid (bp.sl f);have HB:=hid c;clear f c M;go_upto_region 3 with fail;go_loopw [4,5,6] (fun i _ _ wr=>i=.int .i64 0/\w1=wr) (fun _ _ _ _=>0);case atStart=>exact⟨rfl,rfl⟩
  case round=>
   obtain⟨rfl,rfl⟩:=hrel;go_wp2;go_ret;exact⟨_,rfl,HI.out,HB.out⟩
 ·obtain⟨g,t,rfl,Y,N, -⟩:=f.sN aD
  have O:0<l.length:=aD
  obtain⟨n,P⟩:=bJ l.length;have Z:=hid P;rw[<-P] at f hl O ⊢;have HI:=hid f;have HB:=hid c;have HG:Hid (w.heap.size<=g):=hid Y;have ab:dV (some ⟨g,0,none⟩) n:=fun _=>⟨_,_,rfl⟩;clear f c M P Y N K p r;go_upto_region 3 with fail;go_loopw [4,5,6] (fun i _ _ wr=>∃(k:Nat) (L:List Int),k<=n/\i=.int .i64 k/\Hid (Cz.wW l k L)/\Hid (bp (w.heap.size<=·) wr (.slice (some ⟨g,0,none⟩) n t) L)/\Hid (BL w wr)) (fun i _ _ _=>n-(intOf i).toNat);case atStart=>exact⟨0,l,zxa _,rfl,hid (Cz.wW.zero l),HI,HB⟩
  case round=>
   clear HI HB;obtain⟨i,L,hi,rfl,H,HI,HB⟩:=hrel;have o:Hid (L.length=n):=hid (H.out.perm.length_eq.trans Z.out.symm);by_cases hit:i<n
   ·have ad:=zN i
    have ae:=zL i n
    have HP:=hid (H.out.ins (by rw[o.out];exact hit));generalize wr=wo at*;go_upto_region 6 with fail;go_loopw [5,6] (fun k _ wr=>∃(Q:Nat) (L:List Int),Q<=i/\k=.int .i64 Q/\Hid (Cz.MI l i Q L)/\Hid (bp (w.heap.size<=·) wr (.slice (some ⟨g,0,none⟩) n t) L)/\Hid (BL w wr)) (fun k _ _=>(intOf k).toNat);case atStart=>exact⟨i,L,aL,rfl,HP,HI,HB⟩
    case round=>
     clear HP HI HB H o;obtain⟨k,L,hk,rfl,HP,HI,HB⟩:=hrel;have I:L.length=n:=HP.out.1.length_eq.trans Z.out.symm;have o:=hid I;have hkL:k<L.length:=aD
     have af:=hid (bp.sl HI.out);have z:=HI.out.sl;rw[<-I] at z;obtain⟨p1,j, -,rfl⟩:=z.at hkL;simp only[fK,fL,zxn] at j;have ag:=zN k
     have ah:=zL k n
     by_cases R:k=0
     ·subst R
      have HS2:=hid (HP.out.stop (.inl rfl));clear j z I;exact ae7
     ·obtain⟨q,rfl⟩:∃q,k=q+1:=⟨k-1,aD⟩
      have hqL:q<L.length:=aD
      obtain⟨p2,A, -,rfl⟩:=z.at hqL;simp only[fK,fL,zxn] at A;have ai:IntKind.i64.wrap (((q+1:Nat):Int)-1)=(q:Int):=WY
      have aj:max (q:Int) 0=(q:Int):=aD
      have rW:=zN q
      have ak:=zL q n
      have T:Hid (¬L[q+1]<L[q]->Cz.wW l (i+1) L):=hid (fun h=>HP.out.stop (.inr WJ))
      have m:Hid (L[q+1]<L[q]->Cz.MI l i q ((L.set (q+1) L[q]).set q L[q+1])):=hid (fun h=>by
       have:=HP.out.step aD WJ;rwa [yt hkL,Nat.add_sub_cancel,yt hqL] at this)
      clear z I;generalize L[q+1]=x at*;generalize L[q]=y at*;by_cases B:x<y
      ·have C:=hid (m.out B)
       clear T m;go_wp2;go_quiet (fail);have HI2:=hid (aW.keep HI.out (aH.below (aJ (Below.refl wr.heap.size wr) nq)));have cH:=hid (aJ HB.out nq);have al:(wr.drewN nq).cell? ⟨g,q+1,none⟩=some (.int .i64 x):=j;have aa:(wr.drewN nq).cell? ⟨g,q,none⟩=some (.int .i64 y):=A;generalize wr.drewN nq=wd at*;have am:=(HI2.out.free aD (q+1) hkL).1;have an:=(HI2.out.free aD q hqL).1;obtain⟨D,E⟩:=bp.store HI2.out o.out.symm cH.out HG.out (q+1) y;obtain⟨F,G⟩:=bp.store D (by rw[zxl];exact o.out.symm) E HG.out q x;have U:=hid F;have gX:=hid G;clear D E F G HI2 cH;go_wp2;go_roundw;case rel=>exact⟨q,_,aD,zG,C,U,gX⟩
       simp[intOf]
      ·have HS2:=hid (T.out B)
       clear T m;exact ae7
   ·obtain rfl:i=n:=by omega
    have HE:Hid (Cz.eU Cz.dB l=L):=hid (by
     have:=H.out
     rw[<-o.out] at this
     exact this.all)
    go_wp2;go_ret;exact⟨_,rfl,by rw[HE.out];exact bp.sl HI.out,HB.out⟩
theorem uP{W:List (List (List Int))}{k i:Nat}(a:k<W.length)(b:i<W[k].length):Cz.row W k i=W[k][i]:=by
 unfold Cz.row;rw[Cz.bh a,Cz.bh b]
theorem fD{W:List (List (List Int))}{k:Nat}(a:k<W.length):Cz.len W k=W[k].length:=by
 unfold Cz.len;rw[Cz.bh a]
theorem afa(h:p:=by
  obtain⟨y,hy, -,rfl⟩:=h3.at hf
  exact(hX.cell (p:=⟨bM ar,bT ar+f,none⟩) (kK w _ hy)).trans hy):p:=h
theorem bK.rec{S:Nat->Prop}{w:World}{b:Option Addr}{l m:Nat}{W:List (List (List Int))}(h:bK S w (.slice b l m) W){k i:Nat}(n:k<W.length)(o:i<W[k].length):∃a d ar c,
  dV a W[k].length/\dV ar W[k][i].length/\bB S w (.slice ar W[k][i].length c) W[k][i]/\∀X,BL w X->X.cell? ⟨bM b,bT b+k,none⟩=some (.slice a W[k].length d)/\X.cell? ⟨bM a,bT a+i,none⟩=some (.slice ar W[k][i].length c)/\
   ∀f (hf:f<W[k][i].length),X.cell? ⟨bM ar,bT ar+f,none⟩=some (.int .i64 W[k][i][f]):=by
 obtain⟨u,e, -,g⟩:=h.at n;obtain⟨a,d,rfl,so, -, -⟩:=g.form;obtain⟨q,j, -,h3⟩:=g.at o;obtain⟨ar,c,rfl,r, -, -⟩:=h3.form;refine⟨a,d,ar,c,so,r,h3,fun X hX=>⟨?_,?_,fun f hf=>?_⟩⟩
 ·exact(hX.cell (p:=⟨bM b,bT b+k,none⟩) (kK w _ e)).trans e
 ·exact(hX.cell (p:=⟨bM a,bT a+i,none⟩) (kK w _ j)).trans j
 ·exact afa
theorem ahz{x:aC.cE}(d:aC.eT x){k f:Nat}(a:k<x.ah.length)(b:f<x.ah[k].aF.length):((aM x).getD k []).getD f (-2)≠ -2↔x.ah[k].aF[f].kind=0\/x.ah[k].aF[f].kind=1:=by
 have e:=mg x a (show f<(aC.kd x k).aF.length by rw[dH a];exact b);unfold Cz.fk iE at e;rw[iX a b] at e;rw[e];have g:=d k f a (by rw[dH a];exact b);rw[iX a b] at g;split
 ·rename_i h;simp[h]
 ·rename_i h
  split
  ·rename_i c
   have:=g c;simp[c];omega
  ·rename_i c
   simp[h,c]
theorem Qi(x:aC.cE)(R:aC.eT x)(W:aC.dw)(k i:Nat)(s:k<x.ah.length)(hk:k<W.length)(hi:i<W[k].length)(O:W[k][i].length=x.ah[k].aF.length)(h0:0<x.ah[k].aF.length)(tr:x.ah[k].aF.length<=10)(v u:Value)(S:Nat->Prop)(w:World)(hv:dO S w v x)(T:bK S w u W):
  CP 84 #[v,u,.int .i64 (k:Int),.int .i64 (i:Int)] w fun e w'=>∃r,e=.returned r/\bB (w.heap.size<=·) w' r (Cz.mask ((aM x).getD k []) (Cz.row W k i))/\BL w w':=by
 obtain⟨ak,ck,al,cl,ar,cr,w1,rfl,E,C,HK,hz,HV,ae,ag,ai,y,U,qC⟩:=jC w x v S hv;obtain⟨aw,cw,rfl,aj, -, -⟩:=T.form;obtain⟨ao,co,ax,cx,yp,F,m,n⟩:=T.rec hk hi;have G:=hid (fun X (hX:BL w1 X)=>n X (bO C.out hX));obtain⟨-, -, -, -, -,uf,b3,nN⟩:=y.at s;have HT:=hid (fun(t:Nat) (V:t<x.ah[k].aF.length)=>y.Vd s V);have H:=hid (fun(t:Nat) (V:t<x.ah[k].aF.length)=>ahz R s V);have c:=bB.keep m (aH.below (C.out.alloc C.out.size (.cells #[] 3)));rw[uP hk hi];have P:=hid (Cz.Hv ((aM x).getD k []) W[k][i]);have Y:=hid (Cz.Em ((aM x).getD k []) W[k][i]);have d:=hid (fun(f:Nat) (hf:f<W[k][i].length) (h:((aM x).getD k []).getD f (-2)≠ -2)=>Cz.Hu hf h);have xJ:=hid (fun(f:Nat) (h:¬((aM x).getD k []).getD f (-2)≠ -2)=>Cz.Mk (r:=W[k][i]) h);have I:=hid (fun(f:Nat)=>(Cz.Ht ((aM x).getD k []) W[k][i] f).trans O);have am:=zN k
 have an:=zL k W.length
 have ap:=zL k x.ah.length
 have aq:=zN i
 have au:(i:Int)<(W[k].length:Int):=aD
 obtain⟨c0,c1, -⟩:=G.out (w1.alloc (.cells #[] 3)) (aG.alloc aL _);clear G;rw[O] at F c1 c P d;obtain⟨r,Z⟩:=bJ (W[k][i]);rw[<-Z] at P Y d xJ I c ⊢;have j:r.length=x.ah[k].aF.length:=by rw[Z];exact O
 clear hv T y U qC m n b3 nN Z O;obtain⟨o,z⟩:=bJ (x.ah[k].aF.length);rw[<-z] at F c P d I c1 h0 tr j;have AL:=hid z;clear z;generalize (aM x).getD k []=ks at*;have hI:bp (w1.heap.size<=·) (w1.alloc (.cells #[] 3)) (.slice (some ⟨w1.heap.size,0,none⟩) 0 0) []:=pP w1;have J:BL w1 (w1.alloc (.cells #[] 3)):=aG.alloc aL _;have zT:bB S (w1.alloc (.cells #[] 3)) (.slice ax o cx) r:=c;have HW:=hid E;clear E c;go_enter func84,ntmps84;go_upto_region 1 with fail;rw[HW.out];clear HW;go_wp2_with (at_builtin;go_must (refine dI rfl _ _ rfl Tryz.jG rfl hI aG rfl zT jo ?_));intro v1 w2 hI1 K
 have uX:bp (w1.heap.size<=·) w2 v1 r:=by
  exact XA
 have L:BL w1 w2:=J.trans (K.below bH (fun b hb=>by simp[Value.ownBlock] at hb;omega));clear hI hI1 zT K J c0 c1;obtain⟨g,aa,rfl,hg,ab, -⟩:=uX.sN aD;have p:=hid uX;have q:=hid L;have HG:Hid (w1.heap.size<=g):=hid hg;rw[j,<-Y.out] at p;have av:dV (some ⟨g,0,none⟩) o:=fun _=>⟨_,_,rfl⟩;rw[j];clear uX L hg ab Y j;go_upto_region 3 with fail;go_loopw [10,11] (fun ff _ wr=>∃f:Nat,f<=o/\ff=.int .i64 f/\Hid (bp (w1.heap.size<=·) wr (.slice (some ⟨g,0,none⟩) o aa) (Cz.lG ks r f))/\Hid (BL w1 wr)) (fun ff _ _=>o-(intOf ff).toNat);case atStart=>exact⟨0,zxa _,rfl,p,q⟩
 case round=>
  clear p q;obtain⟨f,hf,rfl,p,q⟩:=hrel;by_cases A:f<o
  ·have ay:=zN f
   have az:=zL f o
   have M:f<x.ah[k].aF.length:=by rw[<-AL.out];exact A
   obtain⟨af,cf,Cv,Nt,aA,aB,ad, -, -, -, -, -,hT⟩:=HT.out f M;obtain⟨k3, -, -, -,g3, -⟩:=hT wr (bO C.out q.out);obtain⟨y0,y1,y2,y3⟩:=b4z (HK.out wr q.out);have l:=hid (H.out f M);rw[<-AL.out] at k3 ad;clear hT;generalize x.ah[k].aF[f].kind=gk at*;by_cases D:gk=0\/gk=1
   ·obtain⟨aE,xo,aI⟩:=p.out.free (by rw[I.out];omega) f (by rw[I.out];exact A)
    obtain⟨B,N⟩:=bp.store p.out (I.out f).symm q.out HG.out f 0;rw[d.out f A (l.out.2 D)] at B;have a:=hid B;have cN:=hid N;clear B N l;rcases D with rfl|rfl
    all_goals
     go_wp2
     go_roundw
     case rel=>exact⟨f+1,aD,zG,a,cN⟩
     exact zI
   ·have h1:¬gk=0:=fun h=>D (.inl h)
    have h2:¬gk=1:=fun h=>D (.inr h);have e1:(gk==0)=false:=Wz
    have e2:(gk==1)=false:=ah7
    have a:=p.out;rw[xJ.out f (fun h=>D (l.out.1 h))] at a;have a:=hid a;clear l h1 h2 D;go_wp2;go_roundw;case rel=>exact⟨f+1,aD,zG,a,q⟩
    exact zI
  ·obtain rfl:f=o:=by omega
   have Q:=p.out;rw[P.out] at Q;have Q:=hid (bB.mono (bp.sl Q) (S':=(w.heap.size<=·)) (fun b _ hb=>by have:=C.out.size;show w.heap.size<=b;have aJ:w1.heap.size<=b:=hb;omega));have E9:=aR C q.out;go_wp2;go_ret;exact⟨_,rfl,Q.out,E9.out⟩
structure sJ(W:aC.dw)(X:List (List Int)):Prop where
 len:X.length=W.length
 row:∀k,(X.getD k []).length=Cz.len W k
theorem sJ.at{W:aC.dw}{X:List (List Int)}(h:sJ W X){k:Nat}(a:k<W.length):∃b:k<X.length,X[k].length=W[k].length:=by
 refine⟨by rw[h.len];exact a,?_⟩;have:=h.row k;rwa [Cz.bh (by rw[h.len];exact a),fD a] at this
theorem cG.num{S:Nat->Prop}{w:World}{a:Option Addr}{n c:Nat}{X:List (List Int)}(h:cG S w (.slice a n c) X){k i:Nat}(l:k<X.length)(m:i<X[k].length):∃b d,dV b X[k].length/\∀V,BL w V->V.cell? ⟨bM a,bT a+k,none⟩=some (.slice b X[k].length d)/\V.cell? ⟨bM b,bT b+i,none⟩=some (.int .i64 X[k][i]):=by
 obtain⟨q,e, -,f⟩:=h.at l;obtain⟨b,d,rfl,o, -, -⟩:=f.form;obtain⟨y,g, -,rfl⟩:=f.at m;exact⟨b,d,o,fun V j=>⟨(j.cell (p:=⟨bM a,bT a+k,none⟩) (kK w _ e)).trans e,(j.cell (p:=⟨bM b,bT b+i,none⟩) (kK w _ g)).trans g⟩⟩
theorem aaX{X:List (List Int)}{k i:Nat}(a:k<X.length)(b:i<X[k].length):Cz.sg X k i=X[k][i]:=by
 unfold Cz.sg;rw[Cz.bh a,Cz.bh b]
theorem ED{W:aC.dw}{k i f:Nat}(a:k<W.length)(b:i<W[k].length)(c:f<W[k][i].length):Cz.cell W k i f=W[k][i][f]:=by
 unfold Cz.cell;rw[uP a b,Cz.bh c]
def zD(W:aC.dw)(X:List (List Int))(k i:Nat)(l:List bU.Ref):List Int:=(l.filter (fun r=>decide (r.kind=k))).map fun r=>Cz.sg X r.up.toNat (Cz.cell W k i r.field).toNat
def Ww(W:aC.dw)(X:List (List Int))(k i:Nat)(l:List bU.Ref):List Int:=(l.filter (fun r=>decide (r.up=(k:Int)))).flatMap fun r=>((Cz.kg W X r.kind r.field i).length:Int)::Cz.eU Cz.dB (Cz.kg W X r.kind r.field i)
theorem MZ{x:aC.cE}(c:aC.eT x){W:aC.dw}{X:List (List Int)}{k i:Nat}(d:k<x.ah.length):
  Cz.gJ (aM x) W X k i=Cz.sg X k i::(zD W X k i (bU.fS x)++Ww W X k i (bU.fS x)):=by
 unfold Cz.gJ zD Ww;rw[aaC c d (fun f u=>Cz.sg X u.toNat (Cz.cell W k i f).toNat)];congr 2;have:=U4 c k (fun a b=>(a,b))
 have e:(Cz.jh (aM x) k)=((bU.fS x).filter (fun r=>decide (r.up=(k:Int)))).map (fun r=>(r.kind,r.field)):=by
  rw[this];simp
 rw[e,List.flatMap_map]
theorem BG{α a:Type}{p:α->Bool}{g:List α->List a}{l:List α}{j:Nat}(b:j<l.length):(l.take (j+1)).filter p=(l.take j).filter p++if p l[j]=true then [l[j]] else []:=by
 rw[yh b,alX,List.filter_cons,List.filter_nil]
theorem amF(h:p:=by
  rw[BG (g:=fun _=>([]:List Nat)) hj]
  constructor<;>intro h<;>simp[h]):p:=h
theorem Vr{W:aC.dw}{X:List (List Int)}{k i:Nat}{l:List bU.Ref}{j:Nat}(hj:j<l.length):
  (l[j].kind=k->zD W X k i (l.take (j+1))=zD W X k i (l.take j)++[Cz.sg X l[j].up.toNat (Cz.cell W k i l[j].field).toNat])/\(¬l[j].kind=k->zD W X k i (l.take (j+1))=zD W X k i (l.take j)):=by
 unfold zD;exact amF
theorem aaY{W:aC.dw}{X:List (List Int)}{k i:Nat}{l:List bU.Ref}{j:Nat}(hj:j<l.length):
  (l[j].up=(k:Int)->Ww W X k i (l.take (j+1))=Ww W X k i (l.take j)++(((Cz.kg W X l[j].kind l[j].field i).length:Int)::Cz.eU Cz.dB (Cz.kg W X l[j].kind l[j].field i)))/\(¬l[j].up=(k:Int)->Ww W X k i (l.take (j+1))=Ww W X k i (l.take j)):=by
 unfold Ww;exact amF
def oM(W:aC.dw)(X:List (List Int))(k f i n:Nat):List Int:=((List.range n).filter (fun j=>decide (Cz.cell W k j f=i))).map (Cz.sg X k)
theorem am4(W:aC.dw)(X:List (List Int))(k f i n:Nat):(Cz.cell W k n f=(i:Int)->oM W X k f i (n+1)=oM W X k f i n++[Cz.sg X k n])/\(¬Cz.cell W k n f=(i:Int)->oM W X k f i (n+1)=oM W X k f i n):=by
 unfold oM;rw[zxs,alX,zxj,List.filter_cons,List.filter_nil];constructor<;>intro h<;>simp[h]
theorem M4(W:aC.dw)(X:List (List Int))(k f i n:Nat):(oM W X k f i n).length<=n:=by
 unfold oM;rw[sM];exact aaU
theorem bK.tab{S:Nat->Prop}{w:World}{b:Option Addr}{m n:Nat}{W:List (List (List Int))}(h:bK S w (.slice b m n) W){k:Nat}(o:k<W.length):∃a c,dV a W[k].length/\
  (∀X,BL w X->X.cell? ⟨bM b,bT b+k,none⟩=some (.slice a W[k].length c))/\∀i (e:i<W[k].length),∃ar d,dV ar W[k][i].length/\∀X,BL w X->X.cell? ⟨bM a,bT a+i,none⟩=some (.slice ar W[k][i].length d)/\
   ∀f (hf:f<W[k][i].length),X.cell? ⟨bM ar,bT ar+f,none⟩=some (.int .i64 W[k][i][f]):=by
 obtain⟨u,g, -,j⟩:=h.at o;obtain⟨a,c,rfl,so, -, -⟩:=j.form;refine⟨a,c,so,fun X hX=>(hX.cell (p:=⟨bM b,bT b+k,none⟩) (kK w _ g)).trans g,fun i e=>?_⟩;obtain⟨q,l, -,h3⟩:=j.at e;obtain⟨ar,d,rfl,r, -, -⟩:=h3.form;refine⟨ar,d,r,fun X hX=>⟨(hX.cell (p:=⟨bM a,bT a+i,none⟩) (kK w _ l)).trans l,fun f hf=>?_⟩⟩;exact afa
theorem amB(h:p:=by
  exact(hV.cell (p:=⟨bM ar,bT ar+i,none⟩) (kK w _ hy)).trans hy):p:=h
theorem cG.tab{S:Nat->Prop}{w:World}{a:Option Addr}{n c:Nat}{X:List (List Int)}(h:cG S w (.slice a n c) X){k:Nat}(g:k<X.length):∃ar b,dV ar X[k].length/\∀V,BL w V->V.cell? ⟨bM a,bT a+k,none⟩=some (.slice ar X[k].length b)/\∀i (d:i<X[k].length),V.cell? ⟨bM ar,bT ar+i,none⟩=some (.int .i64 X[k][i]):=by
 obtain⟨q,e, -,f⟩:=h.at g;obtain⟨ar,b,rfl,j, -, -⟩:=f.form;refine⟨ar,b,j,fun V hV=>⟨(hV.cell (p:=⟨bM a,bT a+k,none⟩) (kK w _ e)).trans e,fun i d=>?_⟩⟩;obtain⟨y,hy, -,rfl⟩:=f.at d;exact amB
theorem Vt(w:World)(y:Int):bp (·=w.heap.size) (w.alloc (.cells #[.int .i64 y] 3)) (.slice (some ⟨w.heap.size,0,none⟩) 1 1) [y]:=
 ⟨⟨rfl,.inr ⟨w.heap.size,1,#[.int .i64 y],rfl,zxa _,heap_alloc_new w _,aL,Wy,rfl,rfl⟩⟩,fun b a=>by simp[Value.ownBlock] at a;omega⟩
theorem bp.grown{S T:Nat->Prop}{w':World}{a:Value}{B:Nat}{l:List Int}(h:bp (Grow S B) w' a l)(c:∀b,S b->T b)(hB:∀b,B<=b->T b):bp T w' a l:=
 aW.mono h (fun b _ d=>d.elim (fun h=>c b h.1) (fun h=>hB b h))
theorem V9(x:aC.cE)(bo:aC.eT x)(W:aC.dw)(hf:bU.jE x W)(X:List (List Int))(hX:sJ W X)(k i:Nat)(br:k<x.ah.length)(hk:k<W.length)(hi:i<W[k].length)(v u z:Value)(S:Nat->Prop)(w:World)(hv:dO S w v x)(hW:bK S w u W)(hz:cG S w z X):
  CP 87 #[v,u,z,.int .i64 (k:Int),.int .i64 (i:Int)] w fun e w'=>∃r,e=.returned r/\bB (w.heap.size<=·) w' r (Cz.gJ (aM x) W X k i)/\BL w w':=by
 rw[MZ bo br];obtain⟨ak,ck,al,cl,ar,cr,w1,rfl,aK,bL,HK,b2,HV,b3,b4,b5,bs,bt,qC⟩:=jC w x v S hv;obtain⟨aw,cw,rfl,b6, -, -⟩:=hW.form;obtain⟨ax,cx,rfl,b7, -, -⟩:=hz.form;obtain⟨aO,aP⟩:=hX.at hk;have aQ:i<X[k].length:=by rw[aP];exact hi
 obtain⟨aq,cq,b8,Vu⟩:=hz.num aO aQ;obtain⟨c0,c1⟩:=Vu w1 bL.out;have E2:=hid (fun V (D:BL w1 V)=>hW.keep (aH.below (bO bL.out D)));have aS:=hid (fun V (D:BL w1 V)=>hz.keep (aH.below (bO bL.out D)))
 have DE:=hid (fun V (D:BL w1 V)=>Ig x hf.ah (fun k hk=>by
  obtain⟨j,hj,rfl⟩:=zxf hk;rw[<-dH hj];exact hf.aF j) _ S V (HV.out V D))
 have HF:=hid hf;have HX:=hid hX;have b9:W.length<=6:=by rw[hf.len];exact hf.ah
 have Cp:X.length=W.length:=hX.len;have ca:=zN k
 have cb:=zL k W.length
 have cc:=zL k X.length
 have cd:=zN i
 have cf:(i:Int)<(W[k].length:Int):=aD
 have cg:(i:Int)<(X[k].length:Int):=aD
 rw[aaX aO aQ];obtain⟨s0,aT⟩:=bJ (X[k][i]);rw[<-aT] at c1 ⊢;have ch:X.length<=6:=aD
 have ad:=Vt w1 s0;obtain⟨w2,hw2⟩:=bJ (w1.alloc (.cells #[.int .i64 s0] 3));rw[<-hw2] at ad;have af:BL w1 w2:=Ii
 have aU:w2.heap.size=w1.heap.size+1:=afo
 have cH:=hid af;have Rv:=hid ad;have ER:=hid aU;have HW:=hid aK;obtain⟨y0,y1,y2,y3⟩:=b4z (HK.out w1 aG);have hy:=bF (HK.out w2 af);clear hv hW hz bs bt qC Vu aK hX hf aT ad af aU Cp aP;go_enter func87,ntmps87;go_upto_region 1 with fail;rw[HW.out];clear HW;go_upto_region 2 with fail;rw[<-hw2];clear hw2 c0 c1 y0 y1 y2 y3;obtain⟨⟨y0,y1,y2,y3⟩, -⟩:=hy;go_wp2_with fail;refine(DE.out w2 cH.out).mono ?_;rintro e w3 ⟨E,cy,l,rfl,Zr,aV,hrf,O⟩;clear y0 y1 y2 y3;have bu:w1.heap.size<w3.heap.size:=by have:=ER.out;have:=O.size;omega
 have bv:=hid bu;have cN:=aR cH O;have bw:dV E l.length:=afk
 have aX:=(wS.aju hrf (S':=(w2.heap.size<=·))).sl dL (T:=(w2.heap.size<=·)) (fun b _ h=>h) (fun b s=>(hrf.lt b s).1);have ag:=hid (fun(V:World) (D:Turns (·=w1.heap.size) w3 V)=>fC.keep dL aX (fun b s ai=>D.block b (by have bx:w2.heap.size<=b:=s;have:=ER.out;show ¬b=_;omega) ai));have aY:Hid (bp (fun b=>b=w1.heap.size\/w3.heap.size<=b) w3 (.slice (some ⟨w1.heap.size,0,none⟩) 1 1) [s0]):=hid (aW.mono (aW.keep Rv.out (aH.below O)) (fun b _ s=>.inl s));have Iy:Hid (Turns (·=w1.heap.size) w3 w3):=hid (Turns.refl _ _);have HLx:=hid aV;clear aV hrf O aX Rv;obtain⟨nl,aj⟩:=bJ l.length;have JY:=hid aj;rw[<-aj] at ag bw Zr ⊢;clear aj;go_upto_region 4 with fail;go_loopw [11,13] (fun o rr wr=>∃(r:Nat) (v0:Value) (L:List Int),r<=nl/\rr=.int .i64 (r:Int)/\o=v0/\L.length<=1+r/\Hid (L=s0::zD W X k i (l.take r))/\Hid (bp (fun b=>b=w1.heap.size\/w3.heap.size<=b) wr v0 L)/\Hid (Turns (·=w1.heap.size) w3 wr)/\Hid (BL w1 wr)) (fun _ rr _=>nl-(intOf rr).toNat);case atStart=>exact⟨0,_,[s0],zxa _,rfl,rfl,bH,hid rfl,aY,Iy,cN⟩
 case round=>
  clear aY Iy;obtain⟨r,v0,L,hr,rfl,rfl,Xu,M,P,I,J⟩:=hrel;by_cases a0:r<nl
  ·have hr0:=zN r
   have bz:=zL r nl
   have hrl:r<l.length:=by rw[<-JY.out];exact a0
   have A:=hid (fun(V:World) (D:Turns (·=w1.heap.size) w3 V)=>(by
    obtain⟨-,us,FA,F,TU⟩:=fC.at (ag.out V D) hrl
    obtain rfl:us=_:=TU
    exact⟨F 0 _ rfl,F 1 _ rfl,F 2 _ rfl⟩:V.cell? ⟨bM E,bT E+r*4+0,none⟩=some (.int .i64 (l[r].kind:Int))/\V.cell? ⟨bM E,bT E+r*4+1,none⟩=some (.int .i64 (l[r].field:Int))/\V.cell? ⟨bM E,bT E+r*4+2,none⟩=some (.int .i64 l[r].up)))
   have p:l[r]∈bU.fS x:=ah0
   obtain⟨q1,q2,q3,q4, -⟩:=HF.out.refs _ p;obtain⟨N,Q⟩:=Vr (W:=W) (X:=X) (k:=k) (i:=i) hrl;have R:Hid (l[r].kind=k->L++[Cz.sg X l[r].up.toNat (Cz.cell W k i l[r].field).toNat]=s0::zD W X k i (l.take (r+1))):=hid (fun h=>by rw[N h,M.out];rfl);have U:Hid (¬l[r].kind=k->L=s0::zD W X k i (l.take (r+1))):=hid (fun h=>by rw[Q h];exact M.out);have xL:=hid (fun h1 h2=>HF.out.lead _ p i h1 h2);have FD:=hid (fun(h:l[r].kind=k)=>(by have:=HF.out.lX k hk _ (eV hi);rw[this,<-h];exact q2:l[r].field<W[k][i].length));clear p N Q M q2;generalize l[r]=rf at*;obtain⟨rk,d,ru,rl⟩:=rf;simp only[Nat.add_zero] at q1 q3 q4 A R U xL FD;obtain⟨m,rfl⟩:∃m:Nat,ru=(m:Int):=⟨ru.toNat,aD⟩;obtain⟨d0,d1,d2⟩:=A.out wr I.out;by_cases Y:rk=k
   ·subst Y
    have H:=FD.out rfl;obtain⟨a2,am⟩:=xL.out hk hi;have VP:m<W.length:=aD
    obtain⟨a3,a4⟩:=HX.out.at VP
    have a5:bU.wM W rk i d=W[rk][i][d]:=by
     have:=ED hk hi H;unfold Cz.cell Cz.row at this;exact this
    have a6:aC.gK W (m:Int)=W[m].length:=by unfold aC.gK;rw[zxk,iY,lN VP];rfl
    rw[a5] at a2 am;rw[a6] at am;obtain⟨t,ht⟩:∃t:Nat,W[rk][i][d]=(t:Int):=⟨W[rk][i][d].toNat,aD⟩;have a7:t<X[m].length:=by rw[a4];omega
    have f:=hid (R.out rfl);rw[ED hk hi H,ht,zxk,zxk,aaX a3 a7] at f;obtain⟨ap,cp,bA,Vu⟩:=(aS.out wr J.out).num a3 a7;obtain⟨ao,co,ae,ce,yp,bD, -,a⟩:=(E2.out wr J.out).rec hk hi;have an:=fun(V:World) (D:BL wr V)=>(a V D).2.2 d H;rw[ht] at an;have ci:=zN m
    have cj:=zL m X.length
    have bE:=zN d
    have bI:(d:Int)<(W[rk][i].length:Int):=aD
    have cm:=zN t
    have cn:(t:Int)<(X[m].length:Int):=aD
    have rW:=eC wr ⟨bM E,bT E+r*4+1,none⟩ (.int .i64 (d:Int)) fun q=>(A.out q.1 (I.out.trans (Turns.bg q.2))).2.1;have bN:=eC wr ⟨bM E,bT E+r*4+2,none⟩ (.int .i64 (m:Int)) fun q=>(A.out q.1 (I.out.trans (Turns.bg q.2))).2.2;have tZ:=eC wr ⟨bM ax,bT ax+m,none⟩ (.slice ap X[m].length cp) fun q=>(Vu q.1 q.2).1;have bP:=eC wr ⟨bM ap,bT ap+t,none⟩ (.int .i64 X[m][t]) fun q=>(Vu q.1 q.2).2;have VT:=eC wr ⟨bM aw,bT aw+rk,none⟩ (.slice ao W[rk].length co) fun q=>(a q.1 q.2).1;have Tq:=eC wr ⟨bM ao,bT ao+i,none⟩ (.slice ae W[rk][i].length ce) fun q=>(a q.1 q.2).2.1;have bQ:=eC wr ⟨bM ae,bT ae+d,none⟩ (.int .i64 (t:Int)) fun q=>an q.1 q.2;clear a4 Vu a an a2 am a5 a6 R U xL FD ht;generalize X[m][t]=y at*;go_upto_region 7 with fail;refine bq 26 (iq.lV [0,1,2,3,4,5,6,7,8,9,10,11,12,13,14,15,16,17,18,19,20,21,22,23,24] (.one 25 .done)) (BL wr) nK zK (aJ aG 1) ?_;have fH:=hid (aJ (Below.refl wr.heap.size wr) 1);generalize wr.drewN 1=w6 at*
    iterate 25 refine gF ?_
    refine aZ rfl ?_;go_wp2_with fail;refine aN (BL wr) (fun _ h=>h) (fH.out.alloc fH.out.size _) ?_;refine bG ?_;try simp only[jW,jH]
    clear rW bN tZ bP VT Tq bQ d0 d1 d2;have Wq:=hid (aW.keep P.out (aH.below fH.out));have au:=hid (I.out.trans (Turns.bg fH.out));have mA:=aR J fH.out;go_wp2_with (at_builtin;go_must (refine dI rfl _ _ rfl Tryz.jG rfl Wq.out (aG.alloc aL _) rfl (lg dr w6 _ y rfl trivial) aD ?_));intro v' w7 wh Z;have C:=(au.out.alloc (.cells #[.int .i64 y] 3)).into Z (fun b s e=>by have:=Wq.out.2 b e.symm;omega);have OW:=hid (wh.grown (T:=fun b=>b=w1.heap.size\/w3.heap.size<=b) (fun b h=>h) (fun b h=>.inr (by have:=au.out.size;omega)));have jb:=hid (cN.out.trans (C.below cN.out.size (fun b s=>by rw[s];exact aL)));have aa:=hid C;have BH:(L++[y]).length<=1+(r+1):=jo
    clear wh Z C Wq au mA;go_wp2;go_roundw;case rel=>exact⟨r+1,_,_,aD,zG,rfl,BH,f,OW,aa,jb⟩
    exact zI
   ·have e1:((rk:Int)==(k:Int))=false:=by simp;omega
    have b0:¬(rk:Int)=k:=aD
    have f:=hid (U.out Y);clear R U xL FD;go_wp2;go_roundw;case rel=>exact⟨r+1,_,_,aD,zG,rfl,aD,f,P,I,J⟩
    exact zI
  ·obtain rfl:r=nl:=by omega
   have a9:Hid (L=s0::(zD W X k i l++Ww W X k i (l.take 0))):=hid (by
    have:=M.out
    rw[JY.out,zxw] at this
    rw[this]
    simp[Ww])
   have ba:L.length<=61+600*0:=aD
   clear M Xu hr a0;generalize wr=w4 at*;go_upto_region 9 with fail;go_loopw [11,14,15,16,17] (fun o rr _ _ _ wr=>∃(j:Nat) (v0:Value) (L:List Int),j<=r/\rr=.int .i64 (j:Int)/\o=v0/\L.length<=61+600*j/\Hid (L=s0::(zD W X k i l++Ww W X k i (l.take j)))/\Hid (bp (fun b=>b=w1.heap.size\/w3.heap.size<=b) wr v0 L)/\Hid (Turns (·=w1.heap.size) w3 wr)/\Hid (BL w1 wr)) (fun _ rr _ _ _ _=>r-(intOf rr).toNat);case atStart=>exact⟨0,_,_,zxa _,rfl,rfl,ba,a9,P,I,J⟩
   case round=>
    clear P I J a9 ba;obtain⟨j,v0,L,hj,rfl,rfl,Xu,M,P,I,J⟩:=hrel;by_cases bR:j<r
    ·have bE:=zN j
     have bI:=zL j r
     have hrl:j<l.length:=by rw[<-JY.out];exact bR
     have A:=hid (fun(V:World) (D:Turns (·=w1.heap.size) w3 V)=>(by
      obtain⟨-,us,FA,F,TU⟩:=fC.at (ag.out V D) hrl
      obtain rfl:us=_:=TU
      exact⟨F 0 _ rfl,F 1 _ rfl,F 2 _ rfl⟩:V.cell? ⟨bM E,bT E+j*4+0,none⟩=some (.int .i64 (l[j].kind:Int))/\V.cell? ⟨bM E,bT E+j*4+1,none⟩=some (.int .i64 (l[j].field:Int))/\V.cell? ⟨bM E,bT E+j*4+2,none⟩=some (.int .i64 l[j].up)))
     have p:l[j]∈bU.fS x:=ah0
     obtain⟨q1,q2,q3,q4, -⟩:=HF.out.refs _ p;obtain⟨N,Q⟩:=aaY (W:=W) (X:=X) (k:=k) (i:=i) hrl;have R:Hid (l[j].up=(k:Int)->(L++[((Cz.kg W X l[j].kind l[j].field i).length:Int)])++Cz.eU Cz.dB (Cz.kg W X l[j].kind l[j].field i)=s0::(zD W X k i l++Ww W X k i (l.take (j+1)))):=hid (fun h=>by rw[N h,M.out];simp);have U:Hid (¬l[j].up=(k:Int)->L=s0::(zD W X k i l++Ww W X k i (l.take (j+1)))):=hid (fun h=>by rw[Q h];exact M.out);have FD:=hid (fun(n:Nat) (h1:l[j].kind<W.length) (h2:n<W[l[j].kind].length)=>(by rw[HF.out.lX l[j].kind h1 _ (eV h2)];exact q2:l[j].field<W[l[j].kind][n].length));clear p N Q M q2;generalize l[j]=rf at*;obtain⟨rk,d,ru,rl⟩:=rf;simp only[Nat.add_zero] at q1 q3 q4 A R U FD;obtain⟨m,rfl⟩:∃m:Nat,ru=(m:Int):=⟨ru.toNat,aD⟩;obtain⟨d0,d1,d2⟩:=A.out wr I.out;by_cases bS:m=k
     ·subst bS
      have f:=hid (R.out rfl);have Y:rk<W.length:=by rw[HF.out.len];exact q1
      obtain⟨bb,av⟩:=HX.out.at Y;have b1:W[rk].length<=512:=zxb (gq Y) HF.out.tot
      have G:oM W X rk d i W[rk].length=Cz.kg W X rk d i:=by
       unfold oM Cz.kg;rw[fD Y]
      rw[<-G] at f;have bV:=M4 W X rk d i W[rk].length;obtain⟨ao,co,yp,ho,a⟩:=(E2.out wr J.out).tab Y;obtain⟨ap,cp,bA,hp⟩:=(aS.out wr J.out).tab bb;have bW:=hid a;have cs:=hid ho;have Um:=hid hp;have bc:=hid (fun V (D:BL wr V)=>A.out V (I.out.trans (Turns.bg D)));have g0:=ho wr aG;have hr0:=zN rk
      have bz:=zL rk W.length
      have bd:bp (wr.heap.size<=·) wr (.slice none 0 0) (oM W X rk d i 0):=bp.nil _ _;have be:=hid bd;have Le:Hid (BL wr wr):=hid aG;have bf:Hid ((oM W X rk d i 0).length<=0):=hid (M4 _ _ _ _ _ _);clear a ho hp R U G bd A;generalize wr=wo at*;go_upto_region 15 with fail;go_loopw [15,17] (fun ow nn wr=>∃(n:Nat) (v1:Value) (own:List Int),n<=W[rk].length/\nn=.int .i64 (n:Int)/\ow=v1/\own.length<=n/\Hid (own=oM W X rk d i n)/\Hid (bp (wo.heap.size<=·) wr v1 own)/\Hid (BL wo wr)) (fun _ nn _=>W[rk].length-(intOf nn).toNat);case atStart=>exact⟨0,_,_,zxa _,rfl,rfl,bf.out,hid rfl,be,Le⟩
      case round=>
       clear be Le bf;obtain⟨n,v1,own,hn,rfl,rfl,G,HE,HI,kQ⟩:=hrel;by_cases ab:n<W[rk].length
       ·have ct:=zN n
        have cu:(n:Int)<(W[rk].length:Int):=aD
        obtain⟨ae,ce,bD,a⟩:=bW.out n ab;have H:=FD.out n Y ab;have cv:=zN d
        have cz:(d:Int)<(W[rk][n].length:Int):=aD
        obtain⟨N,Q⟩:=am4 W X rk d i n;rw[ED Y ab H] at N Q;have bh:n<X[rk].length:=by rw[av];exact ab
        rw[aaX bb bh] at N;have wI:Hid (W[rk][n][d]=(i:Int)->own++[X[rk][n]]=oM W X rk d i (n+1)):=hid (fun h=>by rw[N h,HE.out]);have az:Hid (¬W[rk][n][d]=(i:Int)->own=oM W X rk d i (n+1)):=hid (fun h=>by rw[Q h,HE.out]);have cA:=hid a;have bX:=hid (fun V (D:BL wo V)=>(Um.out V D).2 n bh);obtain⟨g1,g2⟩:=a wr kQ.out;replace g2:=g2 d H;obtain⟨d0,d1,d2⟩:=bc.out wr kQ.out;clear N Q HE a;generalize X[rk][n]=y at*;generalize W[rk][n][d]=z at*;by_cases aA:z=(i:Int)
        ·subst aA
         have vU:=hid (wI.out rfl);clear wI az;go_wp2;go_quiet (fail);have iH:=hid (aJ kQ.out nq);have qf:=hid (aW.keep HI.out (aH.below (aJ (Below.refl wr.heap.size wr) nq)));obtain⟨p1,p2⟩:=(Um.out _ iH.out);have p3:=bX.out _ iH.out;obtain⟨d3, -, -⟩:=bc.out _ iH.out;generalize wr.drewN nq=w5 at*;clear p2 g1 g2 d0 d1 d2;have cB:(n:Int)<(X[rk].length:Int):=aD
         have wu:=zL rk X.length
         clear av;go_wp2_with (at_builtin;go_must (refine dI rfl _ _ rfl Tryz.jG rfl qf.out (aG.alloc aL _) rfl (lg dr w5 _ y rfl trivial) aD ?_));intro v' w7 wh Z;have C:=Z.below (B:=wo.heap.size) alI (fun b s=>qf.out.2 b s.symm);have uJ:=hid (wh.grown (T:=(wo.heap.size<=·)) (fun b h=>h) (fun b h=>by have:=iH.out.size;show wo.heap.size<=b;omega));have jb:=hid ((iH.out.alloc iH.out.size _).trans C);have BH:(own++[y]).length<=n+1:=jo
         clear wh Z C qf iH;go_wp2;go_roundw;case rel=>exact⟨n+1,_,_,aD,zG,rfl,BH,vU,uJ,jb⟩
         exact zI
        ·have vU:=hid (az.out aA)
         have cC:(z==(i:Int))=false:=by simpa using aA
         clear wI az;go_wp2;go_quiet (fail);have iH:=hid (aJ kQ.out nq);have qf:=hid (aW.keep HI.out (aH.below (aJ (Below.refl wr.heap.size wr) nq)));go_wp2;go_roundw;case rel=>exact⟨n+1,_,_,aD,zG,rfl,aD,vU,qf,iH⟩
         exact zI
       ·obtain rfl:n=W[rk].length:=by omega
        obtain⟨a1,c1,rfl,bY, -, -⟩:=(bp.sl HI.out).form;rw[<-HE.out] at f;have aB:=hid (aW.keep P.out (aH.below kQ.out));have aE:=hid (I.out.trans (Turns.bg kQ.out));obtain⟨no,K⟩:=bJ own.length;have xJ:=hid K;have cD:no<=512:=aD
        rw[<-K] at f;have HI:=HI;rw[<-K] at HI bY ⊢;have bi:(Cz.eU Cz.dB own).length=no:=by rw[K];exact(Cz.fZ (c:=Cz.dB)).length_eq
        have bj:=hid bi;clear bi HE G bV av K;go_wp2_with (at_builtin;go_must (refine dI rfl _ _ rfl Tryz.jG rfl aB.out (aG.alloc aL _) rfl (lg dr wr _ (no:Int) rfl trivial) aD ?_));intro v7 w7 wh Z;have C:=(aE.out.alloc (.cells #[.int .i64 (no:Int)] 3)).into Z (fun b s e=>by have:=aB.out.2 b e.symm;omega);have OW:=hid (wh.grown (T:=fun b=>b=w1.heap.size\/w3.heap.size<=b) (fun b h=>h) (fun b h=>.inr (by have:=aE.out.size;omega)));have aa:=hid C;have bk:=aW.keep (aW.keep HI.out (aH.below (aG.alloc aL (.cells #[.int .i64 (no:Int)] 3)))) (w':=w7) (fun b s ai=>Z.block b (fun e=>by have:=(World.ownsRow.lt P.out.1 b e.symm).2;have bx:wo.heap.size<=b:=s;omega) ai);have bl:=hid (bp.sl bk);clear wh Z C bk HI kQ aB aE;go_wp2_with fail;refine(BF own (by rw[<-xJ.out];omega) _ _ w7 bl.out).mono ?_;rintro e w8 ⟨u8,rfl,aI,mz⟩;obtain⟨a8,c8,rfl, -, -, -⟩:=aI.form;have Ba:=hid (aW.keep OW.out (aH.below mz));have JW:=hid (aa.out.trans (Turns.bg mz));have bm:=hid aI;clear aI mz bl OW aa;go_wp2_with (at_builtin;go_must (refine dI rfl _ _ rfl Tryz.jG rfl Ba.out aG rfl bm.out (by have:=bj.out;simp;omega) ?_));intro v9 w9 FM sS;have Pb:=JW.out.into sS (fun b s e=>by have:=Ba.out.2 b e.symm;omega);have QX:Hid (bp (fun b=>b=w1.heap.size\/w3.heap.size<=b) w9 v9 (L++[(no:Int)]++Cz.eU Cz.dB own)):=hid (by rw[zxm];exact FM.grown (T:=fun b=>b=w1.heap.size\/w3.heap.size<=b) (fun b h=>h) (fun b h=>.inr (by have:=JW.out.size;omega)));have pX:=hid (cN.out.trans (Pb.below cN.out.size (fun b s=>by rw[s];exact aL)));have Wm:=hid Pb;have bZ:(L++[(no:Int)]++Cz.eU Cz.dB own).length<=61+600*(j+1):=by have:=bj.out;simp;omega
        clear FM sS Pb Ba JW bm;go_wp2;go_roundw;case rel=>exact⟨j+1,_,_,aD,zG,rfl,bZ,f,QX,Wm,pX⟩
        exact zI
     ·have e1:((m:Int) !=(k:Int))=true:=by simp;omega
      have bn:¬(m:Int)=k:=aD
      have f:=hid (U.out bn);clear R U FD;go_wp2;go_roundw;case rel=>exact⟨j+1,_,_,aD,zG,rfl,aD,f,P,I,J⟩
      exact zI
    ·obtain rfl:j=r:=by omega
     go_wp2;go_ret;refine⟨_,rfl,?_,bO bL.out J.out⟩;have h:=M.out;rw[JY.out,zxw] at h;rw[<-HLx.out,<-h];exact bp.sl (aW.mono P.out (fun b _ s=>by have:=bL.out.size;have:=bv.out;rcases s with rfl|s<;>omega))
def rkT(W:aC.dw)(G:Nat->Nat->List Int)(n:Nat):List (List Int):=(List.range n).map fun k=>Cz.tA ((List.range (Cz.len W k)).map (G k))
theorem sJ.of{W:aC.dw}{X:List (List Int)}(h:Cz.OkS W X):sJ W X:=⟨h.1,fun k=>by
 by_cases a:k<W.length
 ·exact h.2 k a
 ·have:=h.1
  unfold Cz.len;rw[iY,iY,zxr aD,zxr aD];rfl⟩
def alS(x:aC.cE)(W:aC.dw)(k i:Nat):List Int:=Cz.mask ((aM x).getD k []) (Cz.row W k i)
theorem Vv(x:aC.cE)(W:aC.dw):rkT W (alS x W) W.length=Cz.S0 (aM x) W:=rfl
theorem aa0(x:aC.cE)(W:aC.dw)(X:List (List Int)):rkT W (Cz.gJ (aM x) W X) W.length=Cz.fF (aM x) W X:=rfl
theorem Za(h:p:=by
  obtain rfl:i=W[k].length:=by omega
  have HR:=hid (Qh Y aD v1 _ wr (fG.sl dP HI.out))
  rw[<-HY.out] at Je
  clear HI HY y0 y1 y2 y3
  go_wp2_with fail
  refine HR.out.mono ?_
  rintro e w6 ⟨r6,rfl,h6,oH⟩
  clear HR c0
  obtain⟨a6,c6,rfl, -, -, -⟩:=h6.form
  have ahA:=bO kQ.out oH
  have HU:=hid (bB.mono h6 (fun b _ h=>HO.out.fresh HB.out.size b abt))
  have Wq:=hid (fG.below dP HO.out ahA)
  have mA:=aR HB ahA
  clear h6 oH ahA HO HB kQ
  go_wp2_with (at_builtin;go_must (refine jO dP rfl _ _ rfl Tryz.mB rfl Wq.out rfl (Cz.tA Y) HU.out rfl aD mA.out.size mA.out aL ?_))
  intro v7 w7 hO7 mI _
  have OW:=hid hO7
  have jb:=hid mI
  have BH:(X++[Cz.tA Y]).length<=k+1:=jo
  clear hO7 mI Wq mA
  go_wp2
  go_roundw
  case rel=>exact⟨k+1,_,_,aD,zG,rfl,BH,Je,OW,jb⟩
  exact zI):p:=h
theorem ae8(h:p:=by
  clear wh mI Mt mA
  go_wp2
  go_roundw
  case rel=>exact⟨i+1,_,_,aD,zG,rfl,BH,HYn,uJ,jb⟩
  exact zI):p:=h
theorem Qj(x:aC.cE)(M:aC.eT x)(q:∀k (h:k<x.ah.length),0<x.ah[k].aF.length)(W:aC.dw)(s:bU.jE x W)(v u:Value)(S T:Nat->Prop)(w:World)(Z:dO S w v x)(N:bK T w u W):
  CP 47 #[v,u] w fun e w'=>∃r,e=.returned r/\cG (w.heap.size<=·) w' r (Cz.sorts (aM x) W)/\BL w w':=by
 replace Z:=Z.mono (S':=dr) (fun _ _ _=>trivial);replace N:=N.mono (S':=dr) (fun _ _ _=>trivial);obtain⟨ak,ck,al,cl,ar,cr,w1,rfl,O,bL,HK,av,HV,ax,ay,az,aa,ab,qC⟩:=jC w x v dr Z;obtain⟨aw,cw,rfl,aA, -, -⟩:=N.form;have E2:=hid (fun V (B:BL w1 V)=>N.keep (aH.below (bO bL.out B)));have ad:W.length<=6:=by rw[s.len];exact s.ah
 have JX:Hid (∀k (h:k<W.length),W[k].length<=512):=hid (fun k h=>zxb (gq h) s.tot);have g:=hid (fun(k:Nat) (h:k<W.length)=>(by rw[<-s.len];exact h:k<x.ah.length))
 have PE:=hid (fun V (B:BL w1 V) (k i:Nat) (f:k<W.length) (J:i<W[k].length)=>
  Qi x M W k i (g.out k f) f J (by rw[s.lX k f _ (eV J),dH (g.out k f)]) (q k _) (by rw[<-dH (g.out k f)];exact s.aF k) _ _ dr V (HV.out V B) (E2.out V B))
 have Dc:=hid (fun V (B:BL w1 V) (X:List (List Int)) (hX:sJ W X) (z:Value) (hz:cG dr V z X) (k i:Nat) (f:k<W.length) (J:i<W[k].length)=>
  V9 x M W s X hX k i (g.out k f) f J _ _ z dr V (HV.out V B) (E2.out V B) hz)
 have HW:=hid O;obtain⟨y0,y1,y2,y3⟩:=b4z (HK.out w1 aG);clear Z N aa ab qC O s q HV g;go_enter func47,ntmps47;go_upto_region 1 with fail;rw[HW.out];clear HW y0 y1 y2 y3;go_upto_region 3 with fail;go_loopw [5,6,7,8] (fun C D _ _ wr=>∃(k:Nat) (a:Value) (X:List (List Int)),k<=W.length/\D=.int .i64 (k:Int)/\a=C/\X.length<=k/\Hid (X=rkT W (alS x W) k)/\Hid (fG bB w1.heap.size 22 wr a X)/\Hid (BL w1 wr)) (fun C D _ _ _=>W.length-(intOf D).toNat);case atStart=>exact⟨0,_,[],zxa _,rfl,rfl,aL,hid rfl,hid (fG.nil _ _ _ _),hid aG⟩
 case round=>
  obtain⟨k,a,X,f,rfl,rfl,Yq,HX,HO,HB⟩:=hrel;by_cases hkt:k<W.length
  ·have ae:=zN k
   have af:=zL k W.length
   have Q:Hid (BL w1 wr):=hid HB.out;obtain⟨ao,co,yp,E, -⟩:=(E2.out wr Q.out).tab hkt;have F:=hid E;have R:=JX.out k hkt;have Je:Hid (X++[Cz.tA ((List.range W[k].length).map (alS x W k))]=rkT W (alS x W) (k+1)):=hid abw;have c0:=E wr aG;clear E HX;generalize wr=wo at*;go_upto_region 7 with fail;clear c0;go_loopw [7,8] (fun row G wr=>∃(i:Nat) (v1:Value) (Y:List (List Int)),i<=W[k].length/\G=.int .i64 (i:Int)/\v1=row/\Y.length<=i/\Hid (Y=(List.range i).map (alS x W k))/\Hid (fG bB wo.heap.size 22 wr v1 Y)/\Hid (BL wo wr)) (fun _ G _=>W[k].length-(intOf G).toNat);case atStart=>exact⟨0,_,[],zxa _,rfl,rfl,aL,hid rfl,hid (fG.nil _ _ _ _),hid aG⟩
   case round=>
    obtain⟨i,v1,Y,J,rfl,rfl,ag,HY,HI,kQ⟩:=hrel;have c0:=F.out wr kQ.out;have U:=aR Q kQ.out;obtain⟨y0,y1,y2,y3⟩:=b4z (HK.out wr U.out);by_cases hit:i<W[k].length
    ·have HYn:Hid (Y++[alS x W k i]=(List.range (i+1)).map (alS x W k)):=hid (by rw[HY.out,zxs,zxj,List.map_singleton])
     clear HY;go_wp2_with fail;refine(PE.out wr U.out k i hkt hit).mono ?_;rintro e w6 ⟨r6,rfl,h6,oH⟩;clear c0 y0 y1 y2 y3;obtain⟨a6,c6,rfl, -, -, -⟩:=h6.form;have HU:=hid (bB.mono h6 (fun b _ h=>HI.out.fresh kQ.out.size b h));have Mt:=hid (fG.below dP HI.out oH);have mA:=aR kQ oH;clear h6 oH HI kQ;go_wp2_with (at_builtin;go_must (refine jO dP rfl _ _ rfl Tryz.mB rfl Mt.out rfl (alS x W k i) HU.out rfl aD mA.out.size mA.out aL ?_));intro v7 w7 wh mI _;have uJ:=hid wh;have jb:=hid mI;have BH:(Y++[alS x W k i]).length<=i+1:=jo
     exact ae8
    ·exact Za
  ·obtain rfl:k=W.length:=by omega
   have BZ:Hid (cG (w1.heap.size<=·) wr a (Cz.S0 (aM x) W)):=hid (by have:=fG.sl dP HO.out;rwa [HX.out,Vv] at this);clear HX HO Yq hkt f;generalize wr=w2 at*;obtain⟨tt,wK⟩:=bJ (Cz.total W);have HT:=hid wK;clear wK;go_upto_region 12 with fail;go_loopw [5,9,10,11,12,13] (fun C dd _ _ _ _ wr=>∃(b:Int) (a:Value) (L:List (List Int)),dd=.int .i64 b/\a=C/\Hid (cG (w1.heap.size<=·) wr a L)/\Hid (Cz.OkS W L)/\Hid (BL w1 wr)/\Hid ((b= -1/\L=Cz.S0 (aM x) W)\/∃P n,Cz.OkS W P/\b=(Cz.diff P:Nat)/\L=Cz.fF (aM x) W P/\Cz.sorts (aM x) W=Cz.qv (aM x) W (n+1) P/\Cz.total W<=n+Cz.diff P)/\ -1<=b/\b<=(tt:Int)) (fun _ dd _ _ _ _ _=>tt+1-(intOf dd+1).toNat);case atStart=>exact⟨-1,_,_,rfl,rfl,BZ,hid (Cz.Z0 (aM x) W),HB,hid (.inl ⟨rfl,rfl⟩),aD,aD⟩
   case round=>
    clear BZ HB;obtain⟨b,a,L,rfl,rfl,HP,o,HB,Bt,aB,aE⟩:=hrel
    have p:=hid (fun V (h:BL wr V)=>Vq L (by rw[o.out.1];exact ad) (fun r hr=>by
     obtain⟨j,hj,rfl⟩:=zxf hr;have H:j<W.length:=by rw[<-o.out.1];exact hj
     have:=o.out.2 j H;rw[Cz.bh hj,fD H] at this;rw[this];exact JX.out j H) a _ V (HP.out.keep (aH.below h)))
    obtain⟨d,hd⟩:=bJ (Cz.diff L);have aI:d<=tt:=by rw[hd,HT.out];exact Cz.Jj o.out.1 o.out.2
    have I:=hid hd;rw[<-hd] at p;clear hd;go_wp2_with fail;refine(p.out wr aG).mono ?_;rintro e w3 ⟨rfl,EM⟩;have t:Hid (BL wr w3):=hid (iW aG EM);clear EM;by_cases l:b=(d:Int)
    ·have HE:Hid (L=Cz.sorts (aM x) W):=hid (by
      rcases Bt.out with⟨y, -⟩|⟨P,n,y,K,A,h4,R⟩
      ·omega
      ·rw[h4,A]
       have h6:Cz.diff (Cz.fF (aM x) W P)=Cz.diff P:=by
        have:=I.out;rw[A] at this;omega
       exact(Cz.Mf n h6).symm)
     have e1:(b !=(d:Int))=false:=by simpa using l
     have HR:=hid ((HP.out.keep (aH.below t.out)).mono (S':=(w.heap.size<=·)) (fun c _ hc=>by have:=bL.out.size;have ai:w1.heap.size<=c:=hc;show w.heap.size<=c;omega));rw[HE.out] at HR;have aj:=hid (bO bL.out (bO HB.out t.out));clear l I;go_wp2;go_ret;exact⟨_,rfl,HR.out,aj.out⟩
    ·have e1:(b !=(d:Int))=true:=by simpa using l
     have UO:Hid (((d:Int)= -1/\Cz.fF (aM x) W L=Cz.S0 (aM x) W)\/∃P n,Cz.OkS W P/\(d:Int)=(Cz.diff P:Nat)/\Cz.fF (aM x) W L=Cz.fF (aM x) W P/\Cz.sorts (aM x) W=Cz.qv (aM x) W (n+1) P/\Cz.total W<=n+Cz.diff P):=hid (.inr (by
      rcases Bt.out with⟨y,K⟩|⟨P,n,y,K,A,h4,R⟩
      ·exact⟨L,Cz.total W,o.out,by rw[I.out],rfl,by rw[K];rfl,aD⟩
      ·have h6:¬Cz.diff (Cz.fF (aM x) W P)=Cz.diff P:=fun h=>l (by rw[K,<-h,<-A,I.out])
       obtain⟨m,e1,e2,e3, -, -⟩:=Cz.aah y R h6;exact⟨L,m,o.out,by rw[I.out],rfl,by rw[h4,e3,A],by rw[A];exact e2⟩))
     have au:b<(d:Int):=by
      rcases Bt.out with⟨y,K⟩|⟨P,n,y,K,A,h4,R⟩
      ·omega
      ·have h6:Cz.diff P<=Cz.diff (Cz.fF (aM x) W P):=Cz.Aq y.1 y.2
       rw[<-A,<-I.out] at h6;omega
     clear l I Bt;go_wp2_with fail;refine(p.out w3 t.out).mono ?_;rintro e w4 ⟨rfl,VX⟩;have am:=hid ((HP.out.keep (aH.below (t.out.trans (iW aG VX|>.mono t.out.size)))).mono (S':=dr) (fun _ _ _=>trivial));have gX:=hid (HB.out.trans ((t.out.trans (iW aG VX|>.mono t.out.size)).mono HB.out.size));have an:=hid (sJ.of o.out);have ap:=hid (Cz.zi (aM x) W L);clear VX HP HB t p o e1;generalize aq:wr=aJ at*;clear aq;go_upto_region 16 with fail;go_loopw [10,11,12,13] (fun C D _ _ wr=>∃(k:Nat) (a:Value) (X:List (List Int)),k<=W.length/\D=.int .i64 (k:Int)/\a=C/\X.length<=k/\Hid (X=rkT W (Cz.gJ (aM x) W L) k)/\Hid (fG bB w4.heap.size 22 wr a X)/\Hid (BL w4 wr)) (fun C D _ _ _=>W.length-(intOf D).toNat);case atStart=>exact⟨0,_,[],zxa _,rfl,rfl,aL,hid rfl,hid (fG.nil _ _ _ _),hid aG⟩
     case round=>
      obtain⟨k,a,X,f,rfl,rfl,Yq,HX,HO,HB⟩:=hrel;by_cases hkt:k<W.length
      ·have ae:=zN k
       have af:=zL k W.length
       have Q:=aR gX HB.out;obtain⟨ao,co,yp,E, -⟩:=(E2.out wr Q.out).tab hkt;have F:=hid E;have R:=JX.out k hkt;have Je:Hid (X++[Cz.tA ((List.range W[k].length).map (Cz.gJ (aM x) W L k))]=rkT W (Cz.gJ (aM x) W L) (k+1)):=hid abw;have c0:=E wr aG;clear E HX;generalize wr=wo at*;go_upto_region 20 with fail;clear c0;go_loopw [12,13] (fun row G wr=>∃(i:Nat) (v1:Value) (Y:List (List Int)),i<=W[k].length/\G=.int .i64 (i:Int)/\v1=row/\Y.length<=i/\Hid (Y=(List.range i).map (Cz.gJ (aM x) W L k))/\Hid (fG bB wo.heap.size 22 wr v1 Y)/\Hid (BL wo wr)) (fun _ G _=>W[k].length-(intOf G).toNat);case atStart=>exact⟨0,_,[],zxa _,rfl,rfl,aL,hid rfl,hid (fG.nil _ _ _ _),hid aG⟩
       case round=>
        obtain⟨i,v1,Y,J,rfl,rfl,ag,HY,HI,kQ⟩:=hrel;have c0:=F.out wr kQ.out;have U:=aR Q kQ.out;obtain⟨y0,y1,y2,y3⟩:=b4z (HK.out wr U.out);by_cases hit:i<W[k].length
        ·have HYn:Hid (Y++[Cz.gJ (aM x) W L k i]=(List.range (i+1)).map (Cz.gJ (aM x) W L k)):=hid (by rw[HY.out,zxs,zxj,List.map_singleton])
         clear HY;go_wp2_with fail;refine(Dc.out wr U.out L an.out _ (am.out.keep (aH.below ((bO HB.out kQ.out)))) k i hkt hit).mono ?_;rintro e w6 ⟨r6,rfl,h6,oH⟩;clear c0 y0 y1 y2 y3;obtain⟨a6,c6,rfl, -, -, -⟩:=h6.form;have HU:=hid (bB.mono h6 (fun b _ h=>HI.out.fresh kQ.out.size b h));have Mt:=hid (fG.below dP HI.out oH);have mA:=aR kQ oH;clear h6 oH HI kQ;go_wp2_with (at_builtin;go_must (refine jO dP rfl _ _ rfl Tryz.mB rfl Mt.out rfl (Cz.gJ (aM x) W L k i) HU.out rfl aD mA.out.size mA.out aL ?_));intro v7 w7 wh mI _;have uJ:=hid wh;have jb:=hid mI;have BH:(Y++[Cz.gJ (aM x) W L k i]).length<=i+1:=jo
         exact ae8
        ·exact Za
      ·obtain rfl:k=W.length:=by omega
       have Cr:Hid (cG (w1.heap.size<=·) wr a (Cz.fF (aM x) W L)):=hid (by
        have:=fG.sl dP HO.out
        rw[HX.out,aa0] at this
        exact cG.mono this (fun c _ hc=>by have:=gX.out.size;have ai:w4.heap.size<=c:=hc;show w1.heap.size<=c;omega))
       have kM:=aR gX HB.out;clear HX HO Yq hkt f HB;go_wp2;go_roundw;case rel=>exact⟨(d:Int),_,_,rfl,rfl,Cr,ap,kM,UO,aD,aD⟩
       exact zI
def gG(o:List Nat):List Int:=o.map fun(i:Nat)=>(i:Int)
def dm(a:List (List Nat)):List (List Int):=a.map gG
theorem jk(a:List (List Nat)):(dm a).length=a.length:=sM _
theorem lH(o:List Nat):(gG o).length=o.length:=sM _
theorem EF{a:List (List Nat)}{i:Nat}(h:i<(dm a).length)(h2:i<a.length):(dm a)[i]=gG a[i]:=zxo _
theorem Qk(a:List (List Nat))(o:List Nat)(r:Nat):dm (a++[o++[r]])=dm a++[gG o++[(r:Int)]]:=by simp[dm,gG]
def EG(l:List Int)(v:Int)(o:List Nat)(n:Nat):List (List Nat):=((List.range n).filter (fun i=>decide (i∉o/\l.getD i 0=v))).map fun i=>o++[i]
theorem aa1(l:List Int)(v:Int)(o:List Nat):EG l v o l.length=Cz.ext l v o:=rfl
theorem Vw(l:List Int)(v:Int)(o:List Nat)(n:Nat):((n∉o/\l.getD n 0=v)->EG l v o (n+1)=EG l v o n++[o++[n]])/\(¬(n∉o/\l.getD n 0=v)->EG l v o (n+1)=EG l v o n):=by
 unfold EG;rw[zxs,alX,zxj,List.filter_cons,List.filter_nil];exact⟨fun h=>by rw[if_pos (decide_eq_true h)];rfl,fun h=>by rw[if_neg (by simpa only[oW] using h)];simp⟩
def Wx(b:Bool)(o:List Nat)(r q:Nat):Bool:=b&&(o.take q).all (fun i=>decide (i≠r))
theorem aa2{b:Bool}{o:List Nat}{r q:Nat}(h:q<o.length):Wx b o r (q+1)=(Wx b o r q&&decide (o[q]≠r)):=by
 unfold Wx;rw[yh h,List.all_append];simp[Bool.and_assoc]
theorem R6(x v:Int)(o:List Nat)(r:Nat):Wx (decide (x=v)) o r o.length=true↔(r∉o/\x=v):=by
 unfold Wx;rw[zxw];simp only[pR,oW,alU];exact⟨fun h=>⟨fun a=>h.2 r a rfl,h.1⟩,fun h=>⟨h.2,fun i b e=>h.1 (e▸b)⟩⟩
theorem aa3{l:List Int}{v:Int}{a nx:List (List Nat)}{i:Nat}(b:i<a.length)(h:nx.length<=5000):Cz.ji l v (a.drop i) nx=Cz.ji l v (a.drop (i+1)) (nx++Cz.ext l v a[i]):=by
 rw[zxe b,Cz.ji,if_pos h]
theorem Vx{l:List Int}{v:Int}{a nx:List (List Nat)}{i:Nat}(h:¬i<a.length\/¬nx.length<=5000):Cz.ji l v (a.drop i) nx=nx:=by
 by_cases b:i<a.length
 ·rw[zxe b,Cz.ji,if_neg (h.resolve_left (fun h=>h b))]
 ·rw[List.drop_of_length_le aD];rfl
theorem aa4(w:World)(t:TypeId):cG (w.heap.size<=·) (w.alloc (.cells #[.slice none 0 0] t)) (.slice (some ⟨w.heap.size,0,none⟩) 1 1) (dm [[]]):=by
 refine⟨_,_,rfl,fun _=>⟨_,_,rfl⟩,aL,by unfold maxLen;simp[dm],fun _=>aL,fun j a=>?_⟩;obtain rfl:j=0:=by simpa [dm] using a
 exact⟨.slice none 0 0,bH,eA.nil _ _ _⟩
theorem aek(h:p:=by
  clear hgo
  go_wp2
  go_roundw
  case rel=>exact⟨p+1,nx,_,aD,zG,rfl,hnx,HTn2,JY,HRn,BU⟩
  exact zI):p:=h
theorem amr(h:p:=by
  go_wp2
  go_roundw
  case rel=>exact⟨q+1,false,aD,zG,rfl,HFn,HM⟩
  exact zI):p:=h
theorem M5(l:List Int)(hl:l.length<=512)(v:Value)(S:Nat->Prop)(w:World)(hv:bB S w v l):
  CP 48 #[v] w fun e w'=>∃r,e=.returned r/\(Cz.kE l).length<=5512/\cG (w.heap.size<=·) w' r (dm (Cz.kE l))/\BL w w':=by
 obtain⟨a,cap,rfl,az, -, -⟩:=hv.form;obtain⟨w1,hw1⟩:=bJ (w.alloc (.cells #[.slice none 0 0] 22));have J:=aa4 w 22;rw[<-hw1] at J;have K:BL w w1:=Cx
 have Wj:=hid J;have bL:=hid K;have HV:=hid (fun V (h:BL w1 V)=>bB.keep hv (aH.below (bO K h)));obtain⟨g,hn⟩:=bJ l.length;have HN:=hid hn;rw[<-hn] at HV az hl ⊢;clear hv J K hn;go_enter func48,ntmps48;go_upto_region 2 with fail;rw[<-hw1];clear hw1;go_wp2_with fail;refine(BF l abp _ _ w1 (HV.out w1 aG)).mono ?_;rintro e w2 ⟨u2,rfl,j,x⟩;obtain⟨z,k⟩:=bJ (Cz.eU Cz.dB l);have Mj:=hid k;rw[<-k] at j;have L:z.length=g:=by rw[k,HN.out];exact(Cz.fZ (c:=Cz.dB)).length_eq
 obtain⟨au,cu,rfl,aA, -, -⟩:=j.form;have HU:=hid (fun V (h:BL w2 V)=>bB.keep j (aH.below h));have cH:=aR bL x;have jm:=hid (cG.keep Wj.out (aH.below x));have R:Hid (Cz.V8 l (z.drop 0) [[]]=Cz.kE l):=hid (by rw[k];rfl);have aB:=hid (fun V (h:BL w2 V)=>(HV.out V (bO x h):bB S V (.slice a g cap) l));rw[L] at aA HU ⊢;have W:=hid L;clear k j L x HV Wj bL;go_upto_region 4 with fail;go_loopw [3,5,6,7,8,9,10] (fun oo pp _ _ _ _ _ wr=>∃(p:Nat) (d:List (List Nat)) (v0:Value),p<=g/\pp=.int .i64 (p:Int)/\v0=oo/\d.length<=5512/\Hid (Cz.V8 l (z.drop p) d=Cz.kE l)/\Hid (∀o∈d,o.length=p)/\Hid (cG (w.heap.size<=·) wr v0 (dm d))/\Hid (BL w2 wr)) (fun _ pp _ _ _ _ _ _=>g-(intOf pp).toNat);case atStart=>exact⟨0,[[]],_,zxa _,rfl,rfl,bH,R,hid bH,jm,hid aG⟩
 case round=>
  clear jm R;obtain⟨p,d,v0,hp,rfl,rfl,X,R,UD,HR,HB⟩:=hrel;by_cases aC:p<g
  ·have aQ:=zN p
   have aS:=zL p g
   have Y:p<z.length:=by rw[W.out];exact aC
   obtain⟨ao,co,rfl,yp, -, -⟩:=HR.out.form;obtain⟨no,m⟩:=bJ d.length;have xJ:=hid m;rw[jk,<-m] at HR yp;rw[jk,<-m];rw[<-m] at X;have Z:Hid (Cz.V8 l (z.drop (p+1)) (Cz.ji l z[p] (d.drop 0) [])=Cz.kE l):=hid (by rw[<-R.out,zxe Y];rfl)
   have aE:=hid (fun V (h:BL w2 V)=>(by
    obtain⟨u,h1, -,rfl⟩:=(HU.out V h).at Y
    exact h1:V.cell? ⟨bM au,bT au+p,none⟩=some (.int .i64 z[p])))
   clear m R;generalize z[p]=y at*;generalize aF:wr=A at*;clear aF;go_upto_region 8 with fail;go_loopw [6,7,8,9,10] (fun nn ii _ _ _ wr=>∃(i:Nat) (nx:List (List Nat)) (M:Value),i<=no/\ii=.int .i64 (i:Int)/\M=nn/\nx.length<=5512/\Hid (Cz.ji l y (d.drop i) nx=Cz.ji l y (d.drop 0) [])/\Hid (∀o∈nx,o.length=p+1)/\Hid (fG bB A.heap.size 22 wr M (dm nx))/\Hid (BL A wr)) (fun _ ii _ _ _ _=>no-(intOf ii).toNat);case atStart=>exact⟨0,[],_,zxa _,rfl,rfl,bH,hid rfl,hid bH,hid (fG.nil _ _ _ _),hid aG⟩
   case round=>
    obtain⟨i,nx,M,hi,rfl,rfl,hnx,HS,JY,t,B⟩:=hrel;obtain⟨an,cn,rfl, -, -, -⟩:=(fG.sl dP t.out).form;rw[jk] at t ⊢;by_cases hgo:i<no/\nx.length<=5000
    ·obtain⟨hit,aa⟩:=hgo
     have aT:=zN i
     have aI:=zL i no
     have aP:(nx.length:Int)<=5000:=aD
     have Ms:i<d.length:=by rw[<-xJ.out];exact hit
     have Wr:Hid (Cz.ji l y (d.drop (i+1)) (nx++Cz.ext l y d[i])=Cz.ji l y (d.drop 0) []):=hid (by rw[<-HS.out,aa3 Ms aa])
     obtain⟨T,ci,aU,N,ab⟩:∃T ci,dV T p/\A.cell? ⟨bM ao,bT ao+i,none⟩=some (.slice T p ci)/\bB (w.heap.size<=·) A (.slice T p ci) (gG d[i]):=by
      obtain⟨u,h1, -,j⟩:=HR.out.at (show i<(dm d).length by rw[jk];exact Ms);rw[EF _ Ms] at j;obtain⟨T,ci,rfl,h3, -, -⟩:=j.form;rw[lH,UD.out _ (eV Ms)] at h1 j h3;exact⟨T,ci,h3,h1,j⟩
     have ad:=UD.out _ (eV Ms);have n:=hid ad;have ae:=hid (fun V (h:BL A V)=>(h.cell (p:=⟨bM ao,bT ao+i,none⟩) (kK _ _ N)).trans N);have af:=hid (fun V (h:BL A V)=>bB.keep ab (aH.below h));have ag:Hid (nx=nx++EG l y d[i] 0):=hid (by simp[EG]);clear N ab ad HS;generalize d[i]=o at*;go_upto_region 11 with fail;go_loopw [6,8,9,10] (fun nn rr _ _ wr=>∃(r:Nat) (f:List (List Nat)) (M:Value),r<=g/\rr=.int .i64 (r:Int)/\M=nn/\f.length<=5000+r/\Hid (f=nx++EG l y o r)/\Hid (∀o∈f,o.length=p+1)/\Hid (fG bB A.heap.size 22 wr M (dm f))/\Hid (BL A wr)) (fun _ rr _ _ _=>g-(intOf rr).toNat);case atStart=>exact⟨0,nx,_,zxa _,rfl,rfl,aD,ag,JY,t,B⟩
     case round=>
      clear t B JY ag;obtain⟨r,f,M,hr,rfl,rfl,aK,s,JY,t,B⟩:=hrel;by_cases aM:r<g
      ·have hr0:=zN r
       have aV:=zL r g
       have ah:r<l.length:=by rw[<-HN.out];exact aM
       obtain⟨zF,AA⟩:=Vw l y o r;have aj:l.getD r 0=l[r]:=yt ah;rw[aj] at zF AA;have RU:=aR HB B.out;have c1:=aE.out wr RU.out;obtain⟨x1,c2, -,rfl⟩:=(aB.out wr RU.out).at ah
       have C:Hid (Wx (decide (l[r]=y)) o r p=true->f++[o++[r]]=nx++EG l y o (r+1)):=hid (fun h=>by
        rw[<-n.out] at h;rw[zF ((R6 _ _ _ _).1 h),s.out,zxm])
       have D:Hid (Wx (decide (l[r]=y)) o r p=false->f=nx++EG l y o (r+1)):=hid (fun h=>by
        rw[<-n.out] at h;rw[AA (fun j=>by rw[(R6 _ _ _ _).2 j] at h;cases h),s.out])
       clear zF AA aj s;generalize l[r]=xr at*;have ak:(xr==y)=decide (xr=y):=by by_cases h:xr=y<;>simp[h]
       obtain⟨U,al⟩:=bJ (decide (xr=y));rw[<-al] at ak C D;clear al;go_wp2;go_quiet (fail);clear c1 c2;clear ak;have xX:=hid (aJ B.out nq);have am:=hid (fG.below dP t.out (aJ (Below.refl wr.heap.size wr) nq));generalize wr.drewN nq=wq at*;clear t B;go_upto_region 15 with fail;go_loopw [9,10] (fun bb qq wr=>∃(q:Nat) (b:Bool),q<=p/\qq=.int .i64 (q:Int)/\bb=.bool b/\Hid (b=Wx U o r q)/\Hid (∃mm,wr=wq.drewN mm)) (fun _ qq _=>p-(intOf qq).toNat);case atStart=>exact⟨0,U,zxa _,rfl,rfl,hid (by simp[Wx]),hid ⟨0,rfl⟩⟩
       case round=>
        obtain⟨q,b,hq,rfl,rfl,E,HM⟩:=hrel;have H:=hid (iW xX.out HM.out);have c3:=ae.out wr H.out;by_cases Vh:q<p
        ·have rW:=zN q
         have aX:=zL q p
         have O:q<o.length:=by rw[n.out];exact Vh
         obtain⟨u,c4, -,hu⟩:=(af.out wr H.out).at (show q<(gG o).length by rw[lH];exact O);rw[show (gG o)[q]'(by rw[lH];exact O)=(o[q]:Int) from zxo _] at hu;subst hu;have nM:=hid (aa2 (b:=U) (r:=r) O);generalize o[q]=oq at*;cases b
         ·have HFn:Hid (false=Wx U o r (q+1)):=hid (by rw[nM.out,<-E.out];rfl)
          exact amr
         ·by_cases ap:oq=r
          ·subst ap
           have HFn:Hid (false=Wx U o oq (q+1)):=hid (by rw[nM.out];simp);have e1:((oq:Int) !=(oq:Int))=false:=bH
           exact amr
          ·have HFn:Hid (true=Wx U o r (q+1)):=hid (by rw[nM.out,<-E.out];simp[ap])
           have e1:((oq:Int) !=(r:Int))=true:=jo
           go_wp2;go_roundw;case rel=>exact⟨q+1,true,aD,zG,rfl,HFn,HM⟩
           exact zI
        ·obtain rfl:q=p:=by omega
         have F:=hid (fG.below dP am.out (rF HM.out));clear am xX HM;cases b
         ·have P:=hid (D.out E.out.symm)
          clear D C;go_wp2;go_roundw;case rel=>exact⟨r+1,f,_,aD,zG,rfl,aD,P,JY,F,H⟩
          exact zI
         ·have P:=hid (C.out E.out.symm)
          clear D C;have G:BL wr (wr.alloc (.cells #[] 3)):=aG.alloc aL _;have c5:=ae.out _ (bO H.out G);have aq:=hid (af.out _ (bO H.out G));go_wp2_with (at_builtin;go_must (refine dI rfl _ _ rfl Tryz.jG rfl (pP wr) aG rfl aq.out jo ?_));intro v6 w6 ar tg
          have av:bp (wr.heap.size<=·) w6 v6 (gG o):=by
           have:=aW.mono ar (fun b _ Q=>eE bH b Q);simpa using this
          have oH:BL wr w6:=G.trans (tg.below bH (fun b Q=>by simp[Value.ownBlock] at Q;omega));have Mt:=hid av;have mA:=hid oH;clear ar av oH tg G c5 aq;go_wp2_with (at_builtin;go_must (refine dI rfl _ _ rfl Tryz.jG rfl Mt.out (aG.alloc aL _) rfl (lg dr w6 _ (r:Int) rfl trivial) (by rw[lH,n.out];omega) ?_));intro v7 w7 wh qz;have M6:bp (wr.heap.size<=·) w7 v7 (gG o++[(r:Int)]):=aW.mono wh (fun b _ Q=>eE (by have:=mA.out.size;omega) b Q);have mI:BL wr w7:=(mA.out.alloc mA.out.size _).trans (qz.below (by have:=mA.out.size;simp;omega) (fun b Q=>Mt.out.2 b Q.symm));obtain⟨a7,c7,rfl, -, -, -⟩:=(bp.sl M6).form;have hU:=bB.mono (bp.sl M6) (fun b _ h=>F.out.fresh H.out.size b h);simp only[rK,List.length_singleton] at hU;have HU:=hid hU;have zO:=hid (fG.below dP F.out mI);have ou:=aR H mI;clear hU wh M6 mI qz Mt mA F H;go_wp2_with (at_builtin;go_must (refine jO dP rfl _ _ rfl Tryz.mB rfl zO.out rfl (gG o++[(r:Int)]) HU.out rfl (by rw[jk];omega) ou.out.size ou.out aL ?_));intro v9 w9 FM CW _;rw[<-Qk] at FM;have aN:=hid FM;have pX:=hid CW;have aO:(f++[o++[r]]).length<=5000+(r+1):=jo
          have aw:Hid (∀o'∈f++[o++[r]],o'.length=q+1):=hid (fun o' ho=>by
           rcases zxx.1 ho with h|h
           ·exact JY.out o' h
           ·rw[nL] at h;subst h;rw[rK,n.out];rfl)
          clear FM CW zO ou;go_wp2;go_roundw;case rel=>exact⟨r+1,_,_,aD,zG,rfl,aO,P,aw,aN,pX⟩
          exact zI
      ·obtain rfl:r=g:=by omega
       have ax:Hid (Cz.ji l y (d.drop (i+1)) f=Cz.ji l y (d.drop 0) []):=hid (by rw[s.out,HN.out,aa1];exact Wr.out);have ay:f.length<=5512:=aD
       clear s Wr aK;go_wp2;go_roundw;case rel=>exact⟨i+1,f,_,aD,zG,rfl,ay,ax,JY,t,B⟩
       exact zI
    ·have I:Hid (Cz.ji l y (d.drop 0) []=nx):=hid (by rw[<-HS.out];exact Vx (by rw[<-xJ.out];omega))
     have HTn2:Hid (Cz.V8 l (z.drop (p+1)) nx=Cz.kE l):=hid (by rw[<-I.out];exact Z.out);have HRn:Hid (cG (w.heap.size<=·) wr (.slice an nx.length cn) (dm nx)):=hid (cG.mono (fG.sl dP t.out) (fun c _ hc=>by have:=cH.out.size;have:=HB.out.size;have aY:A.heap.size<=c:=hc;show w.heap.size<=c;omega));have BU:=aR HB B.out;clear I Z t B HS;by_cases hit:i<no
     ·have aa:¬(nx.length:Int)<=5000:=by omega
      have aI:=zL i no
      exact aek
     ·obtain rfl:i=no:=by omega
      exact aek
  ·obtain rfl:p=g:=by omega
   have I:=R.out;rw[List.drop_of_length_le (by rw[W.out];exact aL)] at I;have I:Hid (d=Cz.kE l):=hid I;go_wp2;go_ret;exact⟨_,rfl,by rw[<-I.out];exact X,by rw[<-I.out];exact HR.out,bO cH.out HB.out⟩
def yg(a:List Nat)(n i:Nat):List Int:=(List.range n).map fun j=>if a.idxOf j<i then ((a.idxOf j:Nat):Int) else 0
def Ql(a:List Nat)(n:Nat):List Int:=(List.range n).map fun j=>((a.idxOf j:Nat):Int)
def qx(W:aC.dw)(a:List (List Nat))(k:Nat):List (List Int):=(List.range W.length).map fun j=>if j<k then Ql (a.getD j []) (Cz.len W j) else []
theorem zH(a:List Nat)(n i:Nat):(yg a n i).length=n:=by simp[yg]
theorem Vy(a:List Nat)(n:Nat):yg a n 0=List.replicate n 0:=by
 refine alW (by simp[yg]) fun j b c=>?_;simp[yg]
theorem Vz{a:List Nat}{n i:Nat}(c:a.Perm (List.range n))(d:i<a.length):(yg a n i).set a[i] (i:Int)=yg a n (i+1):=by
 have b:a.Nodup:=c.nodup_iff.2 List.nodup_range;have hid:a.idxOf a[i]=i:=b.idxOf_getElem i d;refine alW (by simp[yg]) fun j p f=>?_;rw[List.getElem_set];by_cases e:a[i]=j
 ·subst e
  rw[if_pos rfl];simp only[yg,zxo,zxy,hid];rw[if_pos aD]
 ·rw[if_neg e]
  simp only[yg,zxo,zxy];have g:j<n:=by simpa [yg] using f
  have k:a.idxOf j≠i:=fun h=>by
   have m:j∈a:=c.mem_iff.2 (List.mem_range.2 g);have o:=List.getElem_idxOf (List.idxOf_lt_length_of_mem m);apply e;rw[<-o];simp only[h]
  by_cases l:a.idxOf j<i
  ·rw[if_pos l,if_pos aD]
  ·rw[if_neg l,if_neg aD]
theorem aa5{a:List Nat}{n:Nat}(b:a.Perm (List.range n)):yg a n a.length=Ql a n:=by
 refine zxq fun j c=>?_;rw[if_pos (List.idxOf_lt_length_of_mem (b.mem_iff.2 c))]
theorem VA(W:aC.dw)(a:List (List Nat)):qx W a 0=List.replicate W.length []:=by
 refine alW (by simp[qx]) fun j b c=>?_;simp[qx]
theorem uQ(W:aC.dw)(a:List (List Nat))(k:Nat):(qx W a k).length=W.length:=by simp[qx]
theorem VB{W:aC.dw}{a:List (List Nat)}{k:Nat}(b:k<W.length):(qx W a k).set k (Ql (a.getD k []) (Cz.len W k))=qx W a (k+1):=by
 refine alW (by simp[qx]) fun j c d=>?_;rw[List.getElem_set];by_cases e:k=j
 ·subst e;rw[if_pos rfl];simp[qx]
 ·rw[if_neg e]
  simp only[qx,zxo,zxy];exact Cz.amj
theorem ada{W:aC.dw}{a:List (List Nat)}{k j:Nat}(h:j<(qx W a k).length):(qx W a k)[j]=if j<k then Ql (a.getD j []) (Cz.len W j) else []:=by simp[qx]
theorem aa6(a:List Nat)(n:Nat):(Ql a n).length=n:=by simp[Ql]
theorem Qm(w:World)(n:Nat)(c:n<=1000000):fE (w.heap.size<=·) (w.alloc (.cells (gM n) 22)) (.slice (some ⟨w.heap.size,0,none⟩) n n) (List.replicate n []):=by
 refine⟨fun b a=>by simp[Value.ownBlock] at a;omega,List.replicate n (.slice none 0 0),fun _=>0,?_,bH,fun j d e=>?_⟩
 ·exact Zi
 ·simp only[List.getElem_replicate]
  exact bp.nil _ _
theorem cG.ord{S:Nat->Prop}{w:World}{b:Option Addr}{l m:Nat}{a:List (List Nat)}(h:cG S w (.slice b l m) (dm a)){k:Nat}(g:k<a.length):∃c n,dV c a[k].length/\∀V,BL w V->V.cell? ⟨bM b,bT b+k,none⟩=some (.slice c a[k].length n)/\∀i (e:i<a[k].length),V.cell? ⟨bM c,bT c+i,none⟩=some (.int .i64 (a[k][i]:Int)):=by
 obtain⟨q,f, -,d⟩:=h.at (show k<(dm a).length by rw[jk];exact g);rw[EF _ g] at d;obtain⟨ar,o,rfl,j, -, -⟩:=d.form;rw[lH] at f j d;refine⟨ar,o,j,fun V hV=>⟨(hV.cell (p:=⟨bM b,bT b+k,none⟩) (kK w _ f)).trans f,fun i e=>?_⟩⟩;obtain⟨y,hy, -,rfl⟩:=d.at (show i<(gG a[k]).length by rw[lH];exact e);rw[show (gG a[k])[i]'(by rw[lH];exact e)=(a[k][i]:Int) from zxo _] at hy;exact amB
theorem wX(x:aC.cE)(a1:aC.eT x)(W:aC.dw)(hf:bU.jE x W)(aE:Cz.nH (aM x) W)(a:List (List Nat))(H:a.length=W.length)(hp:∀k,k<W.length->(a.getD k []).Perm (List.range (Cz.len W k)))(v u z:Value)(S T Z:Nat->Prop)(w:World)(hv:dO S w v x)(hW:bK T w u W)(hz:cG Z w z (dm a)):
  CP 39 #[v,u,z] w fun e w'=>∃r,e=.returned r/\cM (w.heap.size<=·) w' r (Cz.bN (aM x) W a)/\BL w w':=by
 replace hv:=hv.mono (S':=dr) (fun _ _ _=>trivial);obtain⟨ak,ck,al,cl,ar,cr,w1,rfl,a2,bL,HK,cA,HV,cB,cC,cD,a3,bE,qC⟩:=jC w x v dr hv;obtain⟨aw,cw,rfl,bF, -, -⟩:=hW.form;obtain⟨az,cz,rfl,hsz, -, -⟩:=hz.form;rw[jk,H] at hz hsz ⊢;obtain⟨n,hn⟩:=bJ W.length;have cF:n<=6:=by rw[hn,hf.len];exact hf.ah
 have HN:=hid hn;rw[<-hn] at hz hsz bF H hW hp ⊢;have E2:=hid (fun V (J:BL w1 V)=>hW.keep (aH.below (bO bL.out J)));have a4:=hid (fun V (J:BL w1 V)=>cG.keep hz (aH.below (bO bL.out J)));have JX:Hid (∀k (h:k<W.length),W[k].length<=512):=hid (fun k h=>zxb (gq h) hf.tot);have HP:=hid hp;have J4:=hid H;have pW:=hid aE;have HF:=hid hf;have zM:=hid a1;have HT:=hid (fun(k t:Nat) (hk:k<x.ah.length) (ht:t<x.ah[k].aF.length)=>a3.Vd hk ht);have bI:=hid (fun(k f:Nat) (hk:k<=6) (hj:f<=10) (V:World) (d:BL w1 V)=>rX x k f _ dr V (HV.out V d) aD aD);have a5:=fun V=>oQ (P:=prog) (t:=33) (e:=42) (b:=24) zK zK aD n aD V;have bP:=fun V=>oQ (P:=prog) (t:=42) (e:=22) (b:=24) zK zK aD n aD V;obtain⟨w2,hw2⟩:=bJ (w1.alloc (.cells (gM n) 42));obtain⟨w3,ap⟩:=bJ (w2.alloc (.cells (gM n) 22));have a6:BL w1 w2:=Ii
 have a8:BL w2 w3:=by rw[ap];exact aG.alloc aL _
 have a9:w2.heap.size=w1.heap.size+1:=afo
 have hO:cM (·=w1.heap.size) w2 (.slice (some ⟨w1.heap.size,0,none⟩) n n) (Cz.mo (aM x) W a 0):=by
  rw[Cz.Hx,<-hn,hw2];exact bZ.mono (ud w1 n aD) (fun b aK d=>by have h':w1.heap.size<=b:=d;simp at aK;show b=w1.heap.size;omega)
 have hA:fE (w2.heap.size<=·) w3 (.slice (some ⟨w2.heap.size,0,none⟩) n n) (qx W a 0):=by
  rw[VA,<-hn,ap];exact Qm w2 n aD
 have wQ:=hid hO;have ba:=hid hA;have cH:=hid a6;have R:=hid a8;have Dt:=hid a9;have bb:=hid a2;have cI:dV (some ⟨w2.heap.size,0,none⟩) n:=fun _=>⟨_,_,rfl⟩;have cJ:dV (some ⟨w1.heap.size,0,none⟩) n:=fun _=>⟨_,_,rfl⟩;clear hv hW hz a3 bE qC a2 hf aE a1 hO hA a6 a8 a9 H hp hn HV;go_enter func39,ntmps39;go_upto_region 1 with fail;rw[bb.out];clear bb;go_upto_region 2 with fail;rw[<-hw2];clear hw2;go_upto_region 4 with fail;rw[<-ap];clear ap a5 bP;go_loopw [9,10] (fun kk _ wr=>∃k:Nat,k<=n/\kk=.int .i64 (k:Int)/\Hid (fE (w2.heap.size<=·) wr (.slice (some ⟨w2.heap.size,0,none⟩) n n) (qx W a k))/\Hid (BL w2 wr)) (fun kk _ _=>n-(intOf kk).toNat);case atStart=>exact⟨0,zxa _,rfl,ba,R⟩
 case round=>
  clear ba R;obtain⟨k,hk,rfl,HA,D⟩:=hrel;by_cases hkt:k<n
  ·have lP:=aR cH D.out
   have bQ:=zN k
   have bR:=zL k n
   have C:k<W.length:=abx
   have I:k<a.length:=by rw[J4.out];exact hkt
   obtain⟨ao,co,yp,ho, -⟩:=(E2.out w2 cH.out).tab C;have U:=JX.out k C;have A:=HP.out k hkt;rw[fD C,Cz.bh I] at A
   have RD:Hid ((qx W a k).set k (yg a[k] W[k].length a[k].length)=qx W a (k+1)):=hid (by
    have:=VB (a:=a) C
    rw[Cz.bh I,fD C] at this
    rw[aa5 A,this])
   obtain⟨q,L⟩:=bJ (W[k].length);rw[<-L] at ho U yp A RD;have ax:=hid A;have Jd:a[k].length=q:=by have:=A.length_eq;simpa using this
   obtain⟨aq,cq,aO,hq⟩:=(a4.out w2 cH.out).ord I;have X:Hid (∀V,BL w2 V->V.cell? ⟨bM az,bT az+k,none⟩=some (.slice aq q cq)):=hid (fun V h=>by rw[<-Jd];exact(hq V h).1);have aS:=hid (fun V (h:BL w2 V)=>(hq V h).2);rw[Jd] at aO RD;have UD:=hid Jd;have c0:=ho wr D.out;have EM:=He (P:=prog) (t:=22) (e:=3) (b:=8) zK zK aD q aD wr;have H:BL wr (wr.alloc (.cells (zeroCells q) 3)):=aG.alloc aL _;obtain⟨g,cap,u0,T0,e1,e2,e3,Np,E,M,Q,E3, -,j⟩:=jv.borrow aW HA.out k (by rw[uQ];exact C)
   have Y:w2.heap.size=g:=by
    exact Dp
   subst Y;obtain⟨b1,b2,b3,b4⟩:=j _ (.slice (some ⟨wr.heap.size,0,none⟩) q q) (yg a[k] q 0) (Turns.bg H) (by rw[Vy];exact aW.mono (Ed wr q aD) (fun b _ d=>.inr d));have bc:=hid (cW.mono b3 (S':=(w2.heap.size<=·)) (fun b _ d=>eE D.out.size b d))
   have iH:=hid (D.out.trans (b4.below D.out.size (fun b d=>by
    rcases d with d|d
    ·exact(E3 b d).1
    ·rw[d];exact aL)))
   clear e1 e2 e3 E M Q E3 j b3 b4 ho hq A L Jd;generalize a[k]=o at*;go_wp2;clear c0 EM b1 b2 H;generalize bS:wr=wo at*;clear bS HA D;go_loopw [10] (fun ii wr=>∃i:Nat,i<=q/\ii=.int .i64 (i:Int)/\Hid (fE (w2.heap.size<=·) wr (.slice (some ⟨w2.heap.size,0,none⟩) n n) ((qx W a k).set k (yg o q i)))/\Hid (BL w2 wr)) (fun ii _=>q-(intOf ii).toNat);case atStart=>exact⟨0,zxa _,rfl,bc,iH⟩
   case round=>
    clear bc iH;obtain⟨i,hi,rfl,HA,D⟩:=hrel;have d0:=X.out wr D.out;by_cases hit:i<q
    ·have bV:=zN i
     have bW:=zL i q
     have Ms:i<o.length:=by rw[UD.out];exact hit
     have d1:=aS.out wr D.out i Ms;have bd:o[i]<q:=by have:=ax.out.mem_iff.1 (eV Ms);simpa using this
     have be:=hid (Vz ax.out Ms);obtain⟨g,cap,u1,T1,e1,e2,e3,Np,E,M,Q,E3,j, -⟩:=jv.borrow aW HA.out k (by rw[zxl,uQ];exact C)
     have Y:w2.heap.size=g:=by
      exact Dp
     subst Y;rw[List.getElem_set_self] at Q;obtain⟨g2,c2,rfl,bf,cx,F⟩:=Q.sN (by rw[zH];omega);rw[zH] at E Q j;have bi:=(E3 g2 bf).1;have bj:=aW.keep Q (aH.below (aJ (Below.refl wr.heap.size wr) 1));obtain⟨aa, -⟩:=bp.store bj (zH _ _ _).symm (aJ (Below.refl wr.heap.size wr) 1|>.mono (zxa _)) (zxa _) o[i] (i:Int);have G:Turns T1 wr ((wr.drewN 1).setCell ⟨g2,o[i],none⟩ (.int .i64 (i:Int))):=(Turns.bg (aJ (Below.refl wr.heap.size wr) 1)).setCell _ _ bf;have aT:=j _ _ G (aW.mono aa (fun b d h=>.inl ⟨h,(E3 b h).2.2⟩));rw[be.out,List.set_set] at aT;have bX:=hid (cW.mono aT (S':=(w2.heap.size<=·)) (fun b _ d=>eE D.out.size b d));have mA:=hid (D.out.trans (G.below D.out.size (fun b d=>(E3 b d).1)));obtain⟨⟨y1,cK⟩,bY⟩:(∃y,(wr.drewN 1).cell? ⟨g2,o[i],none⟩=some (.int .i64 y))/\(wr.drewN 1).frozen? ⟨g2,o[i],none⟩=false:=F o[i] (by rw[zH];exact bd);have cL:(0:Int)<=(o[i]:Int):=aD
     have K4:(o[i]:Int)<(q:Int):=aD
     have N:dV (some ⟨g2,0,none⟩) q:=fun _=>⟨_,_,rfl⟩;clear e1 e2 e3 M Q E3 j F bj aa G aT bi bd;generalize o[i]=oi at*;go_upto_region 10 with fail;refine fB 13 nK zK ?_;simp only[List.take_succ_cons,List.take_zero,jW,jH];repeat (go_big_quiet_step (fail))
     refine iU ?_;clear d0 d1 E;go_wp2;go_roundw;case rel=>exact⟨i+1,aD,zG,bX,mA⟩
     exact zI
    ·obtain rfl:i=q:=by omega
     rw[RD.out] at HA;go_wp2;go_roundw;case rel=>exact⟨k+1,aD,zG,HA,D⟩
     exact zI
  ·have b0:n=k:=by omega
   subst b0;generalize wr=w5 at*;have lP:=aR cH D.out;have b5:Hid (w1.heap.size<w5.heap.size):=hid (by have:=Dt.out;have:=D.out.size;omega);have Zq:Hid (cM (fun b=>b=w1.heap.size\/w5.heap.size<=b) w5 (.slice (some ⟨w1.heap.size,0,none⟩) n n) (Cz.mo (aM x) W a 0)):=hid (bZ.mono (bZ.keep wQ.out (aH.below D.out)) (fun b _ d=>.inl d));have b6:=hid (fun(V:World) (J:Turns (·=w1.heap.size) w5 V)=>cG.keep (fE.sl HA.out) (fun b d aK=>J.block b (by have cO:w2.heap.size<=b:=d;have:=Dt.out;show ¬b=_;omega) aK));have RU:=hid (fun(V:World) (J:Turns (·=w1.heap.size) w5 V)=>lP.out.trans (J.below lP.out.size (fun b d=>by rw[d];exact aL)));clear HA D wQ hkt hk;go_upto_region 12 with fail;go_loopw [11,12,13,14,15] (fun kk _ _ _ _ wr=>∃k:Nat,k<=n/\kk=.int .i64 (k:Int)/\Hid (cM (fun b=>b=w1.heap.size\/w5.heap.size<=b) wr (.slice (some ⟨w1.heap.size,0,none⟩) n n) (Cz.mo (aM x) W a k))/\Hid (Turns (·=w1.heap.size) w5 wr)) (fun kk _ _ _ _ _=>n-(intOf kk).toNat);case atStart=>exact⟨0,zxa _,rfl,Zq,hid (Turns.refl _ _)⟩
   case round=>
    clear Zq;obtain⟨k,hk,rfl,HO,NI⟩:=hrel;by_cases hkt:k<n
    ·have bQ:=zN k
     have bR:=zL k n
     have C:k<W.length:=abx
     have I:k<a.length:=by rw[J4.out];exact hkt
     have hkx:k<x.ah.length:=by rw[<-HF.out.len];exact C
     have aj5:=zL k x.ah.length
     have U:=JX.out k C;have A:=HP.out k hkt;rw[fD C,Cz.bh I] at A;have bk:Hid (a.getD k []=a[k]):=hid (Cz.bh I);obtain⟨q,L⟩:=bJ (W[k].length);have Fu:=hid L;rw[<-L] at U A;have ax:=hid A;have Jd:a[k].length=q:=by have:=A.length_eq;simpa using this
     have UD:=hid Jd;obtain⟨aq,cq,aO,hq⟩:=(a4.out w1 aG).ord I;have X:Hid (∀V,BL w1 V->V.cell? ⟨bM az,bT az+k,none⟩=some (.slice aq q cq)):=hid (fun V h=>by rw[<-Jd];exact(hq V h).1);have aS:=hid (fun V (h:BL w1 V)=>(hq V h).2);rw[Jd] at aO;obtain⟨K,bl⟩:=bJ (x.ah[k].aF.length);have AL:=hid bl;have tr:K<=10:=by have:=HF.out.aF k;rw[dH hkx] at this;omega
     have bm:Hid (cM (fun b=>b=w1.heap.size\/w5.heap.size<=b) wr (.slice (some ⟨w1.heap.size,0,none⟩) n n) ((Cz.mo (aM x) W a k).set k (Cz.jL (aM x) W a k 0))):=hid (by
      rw[Cz.Hy (aM x) W a C];exact HO.out)
     have wI:=NI;have z0:=X.out wr (RU.out _ NI.out);clear hq A L Jd bl HO NI;generalize wr=wq at*;go_upto_region 15 with fail;clear z0;go_loopw [12,13,14,15] (fun mm _ _ _ wr=>∃m:Nat,m<=q/\mm=.int .i64 (m:Int)/\Hid (cM (fun b=>b=w1.heap.size\/w5.heap.size<=b) wr (.slice (some ⟨w1.heap.size,0,none⟩) n n) ((Cz.mo (aM x) W a k).set k (Cz.jL (aM x) W a k m)))/\Hid (Turns (·=w1.heap.size) w5 wr)) (fun mm _ _ _ _=>q-(intOf mm).toNat);case atStart=>exact⟨0,zxa _,rfl,bm,wI⟩
     case round=>
      clear bm wI;obtain⟨m,hm,rfl,HO,NI⟩:=hrel;have kM:=hid (RU.out wr NI.out);have z0:=X.out wr kM.out;by_cases zQ:m<q
      ·have cP:=zN m
       have a5:=zL m q
       have aU:m<a[k].length:=by rw[UD.out];exact zQ
       have hi:a[k][m]<q:=by have:=ax.out.mem_iff.1 (eV aU);simpa using this
       have b7:Hid ((a.getD k []).getD m 0=a[k][m]):=hid (by rw[bk.out,Cz.bh aU]);have b8:=hid (fun V (h:BL w1 V)=>aS.out V h m aU);generalize a[k][m]=i at*;have ox:i<W[k].length:=by rw[<-Fu.out];exact hi
       obtain⟨ao,co,ai,ci,yp,b9,E5,aI⟩:=(E2.out w1 aG).rec C ox;have ab:W[k][i].length=K:=by rw[HF.out.lX k C _ (eV ox),dH hkx,AL.out]
       have ad:W[k][i]=Cz.row W k i:=(uP C ox).symm;have Ct:Hid (∀n,(Cz.iZ (aM x) W a k i n).length=K):=hid (fun n=>by rw[Cz.rC,<-ad,ab]);have DE:Hid (∀f (h:f<(Cz.iZ (aM x) W a k i f).length),(Cz.iZ (aM x) W a k i f)[f]=Cz.cell W k i f):=hid (fun f h=>Cz.RQ h);rw[<-Fu.out] at yp
       have bn:=hid (fun V (h:BL w1 V)=>(by
        obtain⟨h2,h3, -⟩:=aI V h
        rw[<-Fu.out] at h2
        rw[ab] at h3
        exact⟨h2,h3⟩:V.cell? ⟨bM aw,bT aw+k,none⟩=some (.slice ao q co)/\V.cell? ⟨bM ao,bT ao+i,none⟩=some (.slice ai K ci)))
       rw[ab] at E5 b9;have yo:=hid (fun V (h:BL w1 V)=>bB.keep E5 (aH.below h));have uG:Hid (W[k][i]=Cz.iZ (aM x) W a k i 0):=hid (by rw[Cz.Hw,ad]);have cQ:=hid ab;have bV:=zN i
       have bW:=zL i q
       clear aI E5 ab ad;have zP:=hid (fun V (h:BL wr V)=>bO kM.out h);have rW:=eC wr ⟨bM aw,bT aw+k,none⟩ (.slice ao q co) fun s=>(bn.out _ (zP.out _ s.2)).1;have cR:=eC wr ⟨bM ao,bT ao+i,none⟩ (.slice ai K ci) fun s=>(bn.out _ (zP.out _ s.2)).2;have tZ:=eC wr ⟨bM az,bT az+k,none⟩ (.slice aq q cq) fun s=>X.out _ (zP.out _ s.2);have cS:=eC wr ⟨bM aq,bT aq+m,none⟩ (.int .i64 (i:Int)) fun s=>b8.out _ (zP.out _ s.2);go_upto_region 17 with fail;refine bq 14 (iq.lV [1,2,3,4,5,6,7,8,9,10,11,12,13] (.one 0 .done)) (BL wr) nK zK (aJ aG 1) ?_;have fH:=hid (aJ (Below.refl wr.heap.size wr) 1);generalize wr.drewN 1=w6 at*
       iterate 13
        refine bC rfl ?_
        intro hne
        go_big_quiet_step (fail)
        refine iU ?_
       refine aZ rfl ?_;go_wp2_with fail;refine aN (BL wr) (fun _ h=>h) (fH.out.alloc fH.out.size _) ?_;refine bG ?_;try simp only[jW,jH]
       have ca:=hid (yo.out _ (zP.out _ (fH.out.alloc fH.out.size (.cells #[] 3))));go_wp2_with (at_builtin;go_must (refine dI rfl _ _ rfl Tryz.jG rfl (pP w6) aG rfl ca.out jo ?_));intro v7 w7 wh qz
       have M6:bp (wr.heap.size<=·) w7 v7 (Cz.iZ (aM x) W a k i 0):=by
        rw[<-uG.out]
        have h:=aW.mono wh (S':=(wr.heap.size<=·)) (fun b _ d=>by
         have h':w6.heap.size<=b:=eE bH b d;have:=fH.out.size;show wr.heap.size<=b;omega)
        simpa using h
       have jb:=hid ((fH.out.alloc fH.out.size _).trans (qz.below (B:=wr.heap.size) yw (fun b d=>by have:=fH.out.size;simp[Value.ownBlock] at d;omega)));obtain⟨a7,c7,rfl,cb, -, -⟩:=(bp.sl M6).form;rw[Ct.out] at M6 cb ⊢;have uJ:=hid M6;generalize Nr:wr=wl at*;go_upto_region 19 with fail;go_loopw [14,15] (fun ff _ wr=>∃f:Nat,f<=K/\ff=.int .i64 (f:Int)/\Hid (bp (wl.heap.size<=·) wr (.slice a7 K c7) (Cz.iZ (aM x) W a k i f))/\Hid (BL wl wr)) (fun ff _ _=>K-(intOf ff).toNat);case atStart=>exact⟨0,zxa _,rfl,uJ,jb⟩
       case round=>
        obtain⟨f,hf,rfl,HI,R⟩:=hrel;by_cases hft:f<K
        ·have cT:=zN f
         have bY:=zL f K
         have rG:f<x.ah[k].aF.length:=by rw[<-AL.out];exact hft
         have xX:=hid (zP.out wr R.out);obtain⟨af,cf,Cv,Nt,cU,cV,cc, -, -, -, -, -,hT⟩:=HT.out k f hkx rG;obtain⟨k3, -, -, -,g3, -⟩:=hT wr (bO bL.out xX.out);rw[<-AL.out] at k3 cc;obtain⟨y0,y1,y2,y3⟩:=b4z (HK.out wr xX.out);have Cg:aC.fd x k f=x.ah[k].aF[f]:=iX hkx rG
         have PE:Hid (∀gk,gk=(x.ah[k].aF[f]).kind->(gk=0->iE x k f= -1)/\(gk=1->iE x k f=aC.eD x k f/\0<=iE x k f)/\(¬gk=0->¬gk=1->iE x k f= -2)):=hid (by
          rintro gk rfl
          rw[<-Cg]
          refine⟨fun h0=>?_,fun h1=>?_,fun h0 h1=>?_⟩
          ·unfold iE;rw[if_pos h0]
          ·have:=zM.out k f hkx Sg h1
           unfold iE;rw[if_neg aD,if_pos h1];exact⟨rfl,this⟩
          ·unfold iE;rw[if_neg h0,if_neg h1])
         have tF:Hid (Cz.fk (aM x) k f=iE x k f):=hid (mg x hkx Sg);have HG:=hid (PE.out _ rfl);have hml:(Cz.iZ (aM x) W a k i f).length=K:=Ct.out f;have ae:Hid (∀v,Cz.val (aM x) a k f (Cz.cell W k i f)=v->(Cz.iZ (aM x) W a k i f).set f v=Cz.iZ (aM x) W a k i (f+1)):=hid (fun v h=>Cz.Mp (by rw[<-Cz.rC (aM x) W a k i f,hml];exact hft) h);obtain⟨g7,cd,e7,bo,br,F⟩:=HI.out.sN (by rw[hml];omega);rw[hml] at e7;obtain⟨rfl,rfl⟩:a7=some ⟨g7,0,none⟩/\c7=cd:=by simpa using e7
         generalize x.ah[k].aF[f].kind=gk at*;by_cases h0:gk=0
         ·subst h0
          obtain⟨O,N⟩:=bp.store HI.out hml.symm R.out bo f 0;rw[ae.out 0 (by unfold Cz.val;rw[tF.out,HG.out.1 rfl,if_neg aD,if_pos rfl])] at O;have zO:=hid O;have ou:=hid N;obtain⟨⟨yq,ce⟩,ch⟩:=F f FW;clear O N HG ae tF F hml;exact aeg
         ·by_cases h1:gk=1
          ·obtain⟨bs,hg0⟩:=HG.out.2.1 h1
           have ay:=pW.out.ref k i f C (by rw[fD C];exact ox) afp adr;rw[tF.out] at ay;obtain⟨u0,aA⟩:∃u:Nat,iE x k f=(u:Int):=⟨(iE x k f).toNat,aD⟩;have cj:Hid (aC.eD x k f=(u0:Int)):=hid (by rw[<-bs,aA]);rw[aA] at ay;simp only[zxk] at ay;obtain⟨aj,wu,Ch⟩:=ay;obtain⟨z0,aB⟩:∃z:Nat,Cz.cell W k i f=(z:Int):=⟨(Cz.cell W k i f).toNat,aD⟩;rw[aB,zxk] at Ch;have bt:u0<n:=by rw[HN.out];exact aj
           have cX:=zL u0 n
           have og:=zN u0
           have cY:=zN z0
           have I9:Hid (Cz.val (aM x) a k f (Cz.cell W k i f)=(((a.getD u0 []).idxOf z0:Nat):Int)):=hid (by
            unfold Cz.val
            rw[tF.out,aA,if_neg aD,if_neg aD,aB,zxk,zxk])
           obtain⟨au,cu,aa,am⟩:=(b6.out wr (NI.out.trans (Turns.bg R.out))).tab (k:=u0) (by rw[uQ];exact aj);have e4:((qx W a n)[u0]'(by rw[uQ];exact aj)).length=Cz.len W u0:=by rw[ada,if_pos bt,aa6]
           have an:=fun(V:World) (J:BL wr V)=>(am V J).1;have G:=fun(V:World) (J:BL wr V)=>(am V J).2 z0 (by rw[e4];exact Ch);rw[e4] at an aa;have e5:((qx W a n)[u0]'(by rw[uQ];exact aj))[z0]'(by rw[e4];exact Ch)=(((a.getD u0 []).idxOf z0:Nat):Int):=by simp[qx,Ql,bt]
           rw[e5] at G;obtain⟨lu,bu⟩:=bJ (Cz.len W u0);rw[<-bu] at an aa Ch;have cZ:=zL z0 lu
           obtain⟨bv,bw⟩:=bJ ((a.getD u0 []).idxOf z0:Nat);rw[<-bw] at G I9;obtain⟨uz,aY, -,vW⟩:=(bp.sl HI.out).at (show f<(Cz.iZ (aM x) W a k i f).length by rw[hml];exact hft);rw[DE.out f FW,aB] at vW;subst vW;simp only[fK,fL,zxn] at aY an;have bx:=(F f FW).2;have nM:=hid (fun V (J:BL wr V)=>bp.store (aW.keep HI.out (aH.below J)) hml.symm (bO R.out J) bo f (bv:Int));rw[ae.out _ I9.out] at nM;have cm:=hid an;have GJ:=hid G;have bz:=hid aY;have cn:=hid bx;have a0:=hid br;have c1:dV (some ⟨g7,0,none⟩) K:=fun _=>⟨_,_,rfl⟩;subst h1;have e0:((1:Int)==0)=false:=rfl;clear bs hg0 aj wu Ch aA aB am e4 e5 an G bu bw aY bx hml F HG ae tF I9;go_upto_region 25 with fail;have qo:=eC wr ⟨w.heap.size,0,none⟩ (.int .i64 x.aQ) fun s=>aP (HK.out s.1 (bO xX.out s.2)) 0;have qp:=eC wr ⟨w.heap.size,1,none⟩ (.slice ak x.ah.length ck) fun s=>aP (HK.out s.1 (bO xX.out s.2)) 1;have qt:=eC wr ⟨w.heap.size,2,none⟩ (.slice al x.aV.length cl) fun s=>aP (HK.out s.1 (bO xX.out s.2)) 2;have qu:=eC wr ⟨w.heap.size,3,none⟩ (.slice ar x.aX.length cr) fun s=>aP (HK.out s.1 (bO xX.out s.2)) 3;have Tq:=eC wr ⟨w2.heap.size,u0,none⟩ (.slice au lu cu) fun s=>cm.out s.1 s.2;have cp:=eC wr ⟨bM au,bT au+z0,none⟩ (.int .i64 (bv:Int)) fun s=>GJ.out s.1 s.2;have cs:=eC wr ⟨g7,f,none⟩ (.int .i64 (z0:Int)) fun s=>(s.2.cell (p:=⟨g7,f,none⟩) a0.out).trans bz.out;refine bq 15 (iq.lV [0,1,2,3,4,5,9,10,11,12] (.one 6 (iq.lV [7,8,13,14] .done))) (BL wr) nK zK (aJ aG 1) ?_;have fH:=hid (aJ (Below.refl wr.heap.size wr) 1);generalize wr.drewN 1=w8 at*;have bA:=hid (bI.out k f aD aD w8 (bO xX.out fH.out));rw[cj.out] at bA
           iterate 10 refine gF ?_
           refine aZ rfl ?_;go_wp2_with fail;refine bA.out.mono ?_;rintro e w9 ⟨rfl,d⟩;have Fx:=aR fH d;clear d;go_wp2_with fail;refine aN (BL wr) (fun _ h=>h) Fx.out ?_
           iterate 4 refine gF ?_
           refine bG ?_;try simp only[jW,jH]
           clear qo qp qt qu Tq cp cs;obtain⟨O,N⟩:=nM.out w9 Fx.out;have zO:=hid O;have ou:=hid N;have ce:=(Fx.out.cell (p:=⟨g7,f,none⟩) a0.out).trans bz.out;have ch:w9.frozen? ⟨g7,f,none⟩=false:=(World.frozen?_of_block (a:=⟨g7,f,none⟩) (Fx.out.block _ a0.out)).trans cn.out;clear O N nM;exact aeg
          ·have Je:Hid (bp (wl.heap.size<=·) wr (.slice (some ⟨g7,0,none⟩) K c7) (Cz.iZ (aM x) W a k i (f+1))):=hid (by
            rw[<-Cz.Mq (by rw[tF.out];exact HG.out.2.2 h0 h1)]
            exact HI.out)
           have e0:(gk==0)=false:=WO
           have e1:(gk==1)=false:=Wz
           clear h0 h1 HG ae tF F hml;go_wp2;go_roundw;case rel=>exact⟨f+1,aD,zG,Je,R⟩
           exact zI
        ·obtain rfl:f=K:=by omega
         have ct:Hid (bp (wl.heap.size<=·) wr (.slice a7 f c7) (Cz.Ce (aM x) W a k i)):=hid (by
          have e:=Cz.Mn (aM x) W a k i
          rw[show (Cz.row W k i).length=f by have:=Ct.out 0;rwa [Cz.rC] at this] at e
          rw[<-e];exact HI.out)
         obtain⟨g,c3,uu,TT,e1,e2,e3,Np,E,M,Q,E3, -,j⟩:=jv.borrow cW HO.out k (by rw[zxl];simp[Cz.mo];exact C)
         have Y:w1.heap.size=g:=by
          exact Dp
         subst Y;rw[List.getElem_set_self] at Q;obtain⟨ag,cg,rfl, -, -, -⟩:=(fE.sl Q).form;have bD:w1.heap.size<wl.heap.size:=kK wl ⟨w1.heap.size,k,none⟩ E;have c4:=(R.out.cell (p:=⟨w1.heap.size,k,none⟩) bD).trans E;have cy:wr.frozen? ⟨w1.heap.size,k,none⟩=false:=(World.frozen?_of_block (a:=⟨w1.heap.size,k,none⟩) (R.out.block _ bD)).trans M;have Z3:=hid Q;have Rw:=hid (fun w2 u'=>j w2 u' (Cz.jL (aM x) W a k m++[Cz.Ce (aM x) W a k i]));have LY:=hid E3;have c5:dV (some ⟨w1.heap.size,0,none⟩) n:=fun _=>⟨_,_,rfl⟩;have mz:=R.out;have vX:(Cz.jL (aM x) W a k m).length+1<=1000000000:=by simp[Cz.jL];omega
         clear e1 e2 e3 Q E3 j E M;go_wp2_with (at_builtin;go_must (refine iM aW rfl _ _ rfl Tryz.mB rfl Z3.out mz rfl (Cz.Ce (aM x) W a k i) ct.out rfl vX ?_));intro v' w9 Sc sS;obtain⟨k1,k2,k3,k4⟩:=Rw.out w9 v' ((Turns.bg mz).trans (sS.mono fun b _ d=>Z3.out.1 b d.symm)) Sc;rw[List.set_set,show Cz.jL (aM x) W a k m++[Cz.Ce (aM x) W a k i]=Cz.jL (aM x) W a k (m+1) from (by rw[Cz.En,b7.out])] at k3
         have rV:=hid (bZ.mono k3 (S':=fun b=>b=w1.heap.size\/w5.heap.size<=b) (fun b _ d=>by
          rcases d with d|d
          ·exact d.1
          ·exact .inr (by have:=NI.out.size;omega)))
         have Wm:Hid (Turns (·=w1.heap.size) w5 (w9.setCell ⟨w1.heap.size,k,none⟩ v')):=hid (NI.out.into k4 (fun b d e=>by
          rcases e with h|h
          ·rcases (LY.out b h).1 with h'|h'
           ·exact h'
           ·omega
          ·exact h))
         obtain⟨av,lv,cv,rfl⟩:∃a l c,v'=.slice a l c:=ahU
         clear Sc sS k3 k4 Rw Z3 LY HO;go_wp2;go_roundw;case rel=>exact⟨m+1,aD,zG,rV,Wm⟩
         exact zI
      ·obtain rfl:m=q:=by omega
       have QX:Hid (cM (fun b=>b=w1.heap.size\/w5.heap.size<=b) wr (.slice (some ⟨w1.heap.size,0,none⟩) n n) (Cz.mo (aM x) W a (k+1))):=hid (by
        rw[Cz.Hz (aM x) W a C,bk.out,UD.out];exact HO.out)
       go_wp2;go_roundw;case rel=>exact⟨k+1,aD,zG,QX,NI⟩
       exact zI
    ·obtain rfl:k=n:=by omega
     have HE:Hid (cM (w.heap.size<=·) wr (.slice (some ⟨w1.heap.size,0,none⟩) k k) (Cz.bN (aM x) W a)):=hid (by
      rw[<-Cz.Mr,<-HN.out]
      exact bZ.mono HO.out (fun b _ d=>by have:=bL.out.size;have:=b5.out;show w.heap.size<=b;rcases d with rfl|d<;>omega))
     go_wp2;go_ret;exact⟨_,rfl,HE.out,bO bL.out (RU.out _ NI.out)⟩
theorem EH(x:aC.cE)(c:aC.eT x)(W:aC.dw)(g:bU.jE x W)(b:Cz.nH (aM x) W)(a:List (List Nat))(d:a.length=W.length)(i:∀k,k<W.length->(a.getD k []).Perm (List.range (Cz.len W k)))(v u z:Value)(S T Z:Nat->Prop)(w:World)(j:dO S w v x)(l:bK T w u W)(m:cG Z w z (dm a)):
  CP 39 #[v,u,z] w fun e f=>∃r,e=.returned r/\bK (w.heap.size<=·) f r (Cz.bN (aM x) W a)/\BL w f:=
 (wX x c W g b a d i v u z S T Z w j l m).mono fun _ _ h=>by obtain⟨r,n,o,p⟩:=h;exact⟨r,n,cM.sl o,p⟩
theorem VD{W:aC.dw}{k:Nat}(a:k<W.length):(W.drop k).flatten.flatten=W[k].flatten++(W.drop (k+1)).flatten.flatten:=by
 rw[zxe a,al0,List.flatten_append]
theorem aa7{R:List (List Int)}{i:Nat}(a:i<R.length):(R.drop i).flatten=R[i]++(R.drop (i+1)).flatten:=by
 rw[zxe a,al0]
theorem M7{α:Type}{l:List α}{n:Nat}(h:n=l.length):l.drop n=[]:=by subst h;simp
theorem alT(W:aC.dw)(Z:W.length<=6)(F:∀k (h:k<W.length),W[k].length<=512)(hf:(Cz.flat W).length<=100000)(v:Value)(S:Nat->Prop)(w:World)(x:bK S w v W):
  CP 50 #[v] w fun e G=>∃u,e=.returned u/\bB (w.heap.size<=·) G u (Cz.flat W)/\BL w G:=by
 obtain⟨aw,cw,rfl,y, -, -⟩:=x.form;have z:=hid (fun V (h:BL w V)=>x.keep (aH.below h));obtain⟨n,A⟩:=bJ W.length;have HN:=hid A;rw[<-A] at z y Z ⊢;have H5:=hid F;clear x A F;go_enter func50,ntmps50;go_upto_region 3 with fail;go_loopw [3,4,5] (fun B C _ wr=>∃(k:Nat) (g:Value) (L:List Int),k<=n/\C=.int .i64 (k:Int)/\g=B/\Hid (L++(W.drop k).flatten.flatten=Cz.flat W)/\Hid (bp (w.heap.size<=·) wr g L)/\Hid (BL w wr)) (fun _ C _ _=>n-(intOf C).toNat);case atStart=>exact⟨0,_,[],zxa _,rfl,rfl,hid rfl,hid (bp.nil _ _),hid aG⟩
 case round=>
  obtain⟨k,g,L,hk,rfl,rfl,f,d,a⟩:=hrel;by_cases hkt:k<n
  ·have aa:=zN k
   have ab:=zL k n
   have t:k<W.length:=abx
   obtain⟨H,co,yp,D,l⟩:=(z.out w aG).tab t;have m:=hid D
   have Ze:=hid (fun V (I:BL w V) (i:Nat) (J:i<W[k].length)=>(by
    obtain⟨u,hu, -,K⟩:=(z.out V I).at t
    obtain⟨ad,ae,rfl, -, -, -⟩:=K.form
    obtain⟨q,hq, -,o⟩:=K.at J
    have e:=(D V I).symm.trans hu
    injection e with e
    injection e with e1 e2 e3
    subst e1
    obtain⟨p,r,rfl,sr, -, -⟩:=o.form
    exact⟨p,r,hq,o⟩:∃p r,V.cell? ⟨bM H,bT H+i,none⟩=some (.slice p W[k][i].length r)/\bB S V (.slice p W[k][i].length r) W[k][i]))
   have M:Hid (L++((W[k].drop 0).flatten++(W.drop (k+1)).flatten.flatten)=Cz.flat W):=hid (by
    rw[<-f.out,VD t,jH])
   have s:=d;have N:=a;obtain⟨j,c⟩:=bJ (W[k].length);have O:=hid c;have P:j<=512:=by rw[c];exact H5.out k t
   rw[<-c] at m yp;clear D l c f d a;generalize wr=wq at*;go_upto_region 6 with fail;go_loopw [3,5] (fun B E wr=>∃(i:Nat) (g:Value) (L:List Int),i<=j/\E=.int .i64 (i:Int)/\g=B/\Hid (L++((W[k].drop i).flatten++(W.drop (k+1)).flatten.flatten)=Cz.flat W)/\Hid (bp (w.heap.size<=·) wr g L)/\Hid (BL w wr)) (fun _ E _=>j-(intOf E).toNat);case atStart=>exact⟨0,_,_,zxa _,rfl,rfl,M,s,N⟩
   case round=>
    clear M s N;obtain⟨i,v1,L,J,rfl,rfl,f,d,a⟩:=hrel;have c0:=m.out wr a.out;by_cases hit:i<j
    ·have af:=zN i
     have ag:=zL i j
     have Q:i<W[k].length:=by rw[<-O.out];exact hit
     obtain⟨p,r,c1,o⟩:=Ze.out wr a.out i Q
     have R:Hid ((L++W[k][i])++((W[k].drop (i+1)).flatten++(W.drop (k+1)).flatten.flatten)=Cz.flat W):=hid (by
      rw[<-f.out,aa7 Q];simp only[zxm])
     have U:L.length+W[k][i].length<=100000:=by
      have:=congrArg List.length R.out;rw[rK,rK] at this;omega
     have H3:=hid o;clear o f;go_wp2_with (at_builtin;go_must (refine dI rfl _ _ rfl Tryz.jG rfl d.out aG rfl H3.out aD ?_));intro v7 w7 X Y;have uJ:=hid (X.grown (T:=(w.heap.size<=·)) (fun b h=>h) (fun b h=>by have:=a.out.size;show w.heap.size<=b;omega));have jb:=hid (a.out.trans (Y.below a.out.size (fun b hb=>d.out.2 b hb.symm)));clear X Y d a c0 c1;go_wp2;go_roundw;case rel=>exact⟨i+1,_,_,aD,zG,rfl,R,uJ,jb⟩
     exact zI
    ·obtain rfl:i=j:=by omega
     have f9:Hid (L++(W.drop (k+1)).flatten.flatten=Cz.flat W):=hid (by
      rw[<-f.out,M7 O.out];rfl)
     go_wp2;go_roundw;case rel=>exact⟨k+1,_,_,aD,zG,rfl,f9,d,a⟩
     exact zI
  ·obtain rfl:k=n:=by omega
   have HE:Hid (L=Cz.flat W):=hid (by rw[<-f.out,M7 HN.out];simp);go_wp2;go_ret;exact⟨_,rfl,by rw[<-HE.out];exact bp.sl d.out,a.out⟩
end Go.Proofs.YtohddpbgflgiaaaGreatDoor
