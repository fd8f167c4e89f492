/- Part 5 of the walks and plain laws that the proof needs (packed). -/
import Derived.Test.YtobgljfnfpolkaaGreatDoorQ1
import Derived.Test.YtobgljfnfpolkaaGreatDoorQ2
import Derived.Test.YtobgljfnfpolkaaGreatDoorQ4
set_option linter.all false
set_option maxRecDepth 100000
set_option maxHeartbeats 8000000
namespace Go.Proofs.YtobgljfnfpolkaaGreatDoor.ah
def jm(f:cA):Prop:=cN f=true/\bQ f<=100
theorem Km:∀(k f n:Nat),n<10 ^ (k+1)->yT f n<=k+1
 |_,0,_,_=>by unfold yT;omega
 |0,f+1,n,h=>by unfold yT;rw[if_pos (by simpa using h)];omega
 |k+1,f+1,n,h=>by
  unfold yT;split
  ·omega
  ·have:=Km k f (n / 10) (by rw[Nat.div_lt_iff_lt_mul (by omega)];rw[Nat.pow_succ] at h;omega)
   omega
theorem ez{n:Int}(h0: -1000000<n)(h1:n<1000000):cZ n<=7:=by
 unfold cZ;have:=Km 5 40 n.natAbs (by simp;omega);split<;>omega
theorem pU{n a b:Int}(h0:a<=n)(h1:n<=b):qV n a b=true:=by
 simp[qV,h0,h1]
theorem mY{lo hi a b:Int}(h0:a<=lo)(h1:lo<=hi)(h2:hi<=b):fG lo hi a b=true:=by
 simp[fG,h0,h1,h2]
theorem mZ{s:Nm}(h:s.size<=12):dR s<=12:=by
 unfold dR;split<;>omega
theorem gF{s:Nm}(h:aN s=true):s.size<=12:=by
 unfold aN at h;simp only[zBa,zDt] at h;omega
theorem OT{nm:Nm}{lo hi:Int}(hn:aN nm=true)(h:Ord lo hi):jm ⟨nm,nil,nil,2,lo,hi,[],[]⟩:=by
 obtain⟨h1,h2,h3⟩:=h;refine⟨?_,?_⟩
 ·have e:fG lo hi (-1048576) 1048576=true:=mY (by omega) h2 (by omega)
  simp[cN,mz,lM,e,hn]
 ·have d1:=ez (n:=lo) (by omega) (by omega)
  have d2:=ez (n:=hi) (by omega) (by omega);have es:=gF hn;simp[bQ,rB];omega
theorem OU{nm o:Nm}{lo hi:Int}(hn:aN nm=true)(ho:o=nil\/aN o=true)(h:Ord lo hi):jm ⟨nm,o,nil,4,lo,hi,[],[]⟩:=by
 obtain⟨h1,h2,h3⟩:=h;have e:fG lo hi (-1048576) 1048576=true:=mY (by omega) h2 (by omega);have d1:=ez (n:=lo) (by omega) (by omega);have d2:=ez (n:=hi) (by omega) (by omega);have es:=gF hn
 have eo:dR o<=12:=by
  rcases ho with rfl|ho
  ·decide
  ·exact mZ (gF ho)
 refine⟨?_,?_⟩
 ·rcases ho with rfl|ho
  ·simp[cN,mz,lM,e,hn]
  ·simp[cN,mz,lM,e,hn,ho]
 ·simp[bQ,rB];omega
theorem Sc{lo hi:Int}(h0:0<=lo)(h1:lo<=hi)(h2:hi<=10):jm (mI lo hi):=by
 have e:fG lo hi 0 32=true:=mY h0 h1 (by omega);have d1:=ez (n:=lo) (by omega) (by omega);have d2:=ez (n:=hi) (by omega) (by omega);have en:aN n9=true:=by decide
 have eo:aN oL=true:=by decide
 have es:n9.size=5:=rfl;have e2:dR oL<=12:=by decide
 refine⟨?_,?_⟩
 ·simp[cN,mz,lM,mI,e,en,eo]
 ·simp[bQ,mI,rB,es];omega
theorem aa0{a:Int}(h0: -3<=a)(h1:a<=100):jm (uT a):=by
 have e:qV a (-1048576) 1048576=true:=pU (by omega) (by omega);have d1:=ez (n:=a) (by omega) (by omega);have en:aN RF=true:=by decide
 have es:RF.size=2:=rfl;refine⟨?_,?_⟩
 ·simp[cN,mz,lM,uT,e,en]
 ·simp[bQ,uT,rB,es];omega
theorem Vk{nm o:Nm}{lo hi:Int}(hn:aN nm=true)(ho:aN o=true)(h0:0<=lo)(h1:lo<=hi)(h2:hi<=100):jm ⟨nm,o,nil,1,lo,hi,[],[]⟩:=by
 have e:fG lo hi 0 65536=true:=mY h0 h1 (by omega);have d1:=ez (n:=lo) (by omega) (by omega);have d2:=ez (n:=hi) (by omega) (by omega);have es:=gF hn;have eo:dR o<=12:=mZ (gF ho);refine⟨?_,?_⟩
 ·simp[cN,mz,lM,e,hn,ho]
 ·simp[bQ,rB];omega
theorem OV{s:Nm}(hs:aN s=true):jm (oM s):=by
 have en:aN yY=true:=by decide
 have eu:aN tu=true:=by decide
 have e1:yY.size=4:=rfl;have e2:tu.size=2:=rfl;have es:=gF hs;refine⟨?_,?_⟩
 ·simp[cN,mz,lM,oM,en,eu,hs]
 ·simp[bQ,oM,rB,e1,e2];omega
theorem OW{lo hi:Int}(h0:0<=lo)(h1:lo<=hi)(h2:hi<=20):jm (kB lo hi):=by
 have e:fG lo hi 0 1048576=true:=mY h0 h1 (by omega);have d1:=ez (n:=lo) (by omega) (by omega);have d2:=ez (n:=hi) (by omega) (by omega);have en:aN wE=true:=by decide
 have eu:aN tu=true:=by decide
 have et:aN eA=true:=by decide
 have e1:wE.size=4:=rfl;have e2:tu.size=2:=rfl;have e3:eA.size=5:=rfl;refine⟨?_,?_⟩
 ·simp[cN,mz,lM,kB,en,eu,et,e]
 ·simp[bQ,kB,rB,e1,e2,e3];omega
theorem Sd{s:Nm}(hs:aN s=true):jm (fJ s):=by
 have en:aN eA=true:=by decide
 have e1:eA.size=5:=rfl;have es:=gF hs;refine⟨?_,?_⟩
 ·simp[cN,mz,lM,fJ,en,hs]
 ·simp[bQ,fJ,rB,e1];omega
theorem Cl:∀(ws:List Nm) (gs:List Int),(∀w∈ws,w.size<=12)->(∀g∈gs,0<=g/\g<=5)->jx ws gs<=21*ws.length
 |[],gs,_,_=>by cases gs<;>simp[jx]
 |w::ws,[],_,_=>by simp[jx]
 |w::ws,g::gs,hw,hg=>by
  have h1:=hw w (by simp);have h2:=hg g (by simp);have h3:=Cl ws gs (fun x hx=>hw x (by simp[hx])) (fun x hx=>hg x (by simp[hx]));have h4:=ez (n:=g) (by omega) (by omega);simp[jx];omega
theorem aa2{n:Nat}{gs:List Int}(h1:1<=n)(h2:n<=3)(hl:gs.length=n)(hg:∀g∈gs,0<=g/\g<=5)(hs:0<rX gs):jm (Bb (fP.take n) gs):=by
 have hlen:(fP.take n).length=n:=by simp[fP];omega
 have hw:∀w∈fP.take n,aN w=true:=by
  intro w hw;have:=List.mem_of_mem_take hw;have e:fP.all aN=true:=by decide
  exact List.all_eq_true.1 e w this
 have en:aN xT=true:=by decide
 have e1:xT.size=3:=rfl;have hne:gs≠[]:=by intro h;rw[h] at hl;simp at hl;omega
 refine⟨?_,?_⟩
 ·have hp:j6 (fP.take n) gs=true:=by
   have a1:gs.all (fun n=>qV n 0 1048576)=true:=List.all_eq_true.2 fun g hx=>pU (hg g hx).1 (by have:=(hg g hx).2;omega)
   have a2:qV (fP.take n).length 1 12=true:=pU (by omega) (by omega)
   have a3:(fP.take n).all aN=true:=List.all_eq_true.2 hw
   unfold j6
   rw[a1,a2,a3]
   simp[hs,hlen,hl]
  simp[cN,mz,lM,Bb,en,hp]
 ·have hp:=Cl (fP.take n) gs (fun w hx=>gF (hw w hx)) hg
  rw[hlen] at hp;have d:=ez (n:=(n:Int)) (by omega) (by omega);simp only[bQ,Bb,rB,e1,hlen];simp;omega
theorem dI.v{l:List cA}(h:dI l):∀f∈l,jm f:=by
 have e1:aN gT=true:=by decide
 have e2:aN mT=true:=by decide
 have e3:aN wF=true:=by decide
 have e4:aN kM=true:=by decide
 have e5:aN kA=true:=by decide
 intro f hf;cases h with
 |none=>simp at hf
 |size lo hi h=>simp at hf;subst hf;exact OT e1 h
 |tag n gs h1 h2 h3 h4 h5=>simp at hf;subst hf;exact aa2 h1 h2 h3 h4 h5
 |born lo hi lo' hi' h h'=>
  rcases (by simpa using hf:f=pH lo hi\/f=rC lo' hi') with rfl|rfl
  ·exact OU e2 (.inl rfl) h
  ·exact OU e3 (.inr e2) h'
 |state lo hi h1 h2 h3=>simp at hf;subst hf;exact Sc h1 h2 h3
 |low lo hi lo' hi' h h'=>
  rcases (by simpa using hf:f=Bc lo hi\/f=pI lo' hi') with rfl|rfl
  ·exact OT e4 h
  ·exact OT e5 h'
def Cop(f:cA):Prop:=f.kind=2\/f.kind=3\/f.kind=4\/f.kind=5\/f.kind=8
def fs(ks:List dZ)(i:Nat):List cA:=(iT ks i).af4
def Up(ks:List dZ)(i j u:Nat):Prop:=u<i/\∃j' g,j'<j/\(fs ks i)[j']?=some g/\g.name=tu/\g.kind=1/\g.of=aU u
structure Bo(ks:List dZ)(i j:Nat)(f:cA):Prop where
 val:jm f
 ref:f.kind=1->∃u,u<i/\f.of=aU u
 time:f.kind=4->f.of=nil\/∃j' g,j'<j/\(fs ks i)[j']?=some g/\g.name=f.of/\g.kind=4
 life:f.kind=5->f.of=oL
 sum:f.kind=6->f.name=eA/\∃o j' g,i<o/\o<ks.length/\f.of=aU o/\(fs ks o)[j']?=some g/\g.kind=7/\Up ks o j' i
 part:f.kind=7->f.name=wE/\f.of=eA/\f.up=tu/\∃u,Up ks i j u/\∃t,t∈fs ks u/\t.name=eA/\t.kind=6/\t.of=aU i
 same:f.kind=8->f.up=tu/\∃u,Up ks i j u/\∃t,t∈fs ks u/\t.name=f.of/\Cop t
structure La(ks:List dZ)(i:Nat):Prop where
 span:0<=(iT ks i).lo/\(iT ks i).lo<=(iT ks i).hi/\(iT ks i).hi<=20
 nodup:((fs ks i).map cA.name).Nodup
 head:∃f l,fs ks i=f::l/\f.kind=0/\∀g∈l,g.kind≠0
 lead:∀j f,(fs ks i)[j]?=some f->Bo ks i j f
def Ext(ks ks':List dZ):Prop:=ks.length<=ks'.length/\∀i,i<ks.length->∃l,fs ks' i=fs ks i++l
theorem Ext.get{ks ks':List dZ}(h:Ext ks ks'){i j:Nat}{f:cA}(hi:i<ks.length)(hf:(fs ks i)[j]?=some f):(fs ks' i)[j]?=some f:=by
 obtain⟨l,e⟩:=h.2 i hi;rw[e,List.getElem?_append_left (by have:=List.getElem?_eq_some_iff.1 hf;obtain⟨h,_⟩:=this;exact h)];exact hf
theorem Ext.mem{ks ks':List dZ}(h:Ext ks ks'){i:Nat}{f:cA}(hi:i<ks.length)(hf:f∈fs ks i):f∈fs ks' i:=by
 obtain⟨l,e⟩:=h.2 i hi;rw[e];exact List.mem_append_left _ hf
theorem Up.ext{ks ks':List dZ}(h:Ext ks ks'){i j u:Nat}(hi:i<ks.length)(hu:Up ks i j u):Up ks' i j u:=by
 obtain⟨h1,j',g,h2,h3,h4⟩:=hu;exact⟨h1,j',g,h2,h.get hi h3,h4⟩
theorem Bo.ext{ks ks':List dZ}(h:Ext ks ks'){i j:Nat}{f:cA}(hi:i<ks.length)(hl:Bo ks i j f):Bo ks' i j f where
 val:=hl.val
 ref:=hl.ref
 time:=fun e=>by
  rcases hl.time e with h1|⟨j',g,h1,h2,h3⟩
  ·exact .inl h1
  ·exact .inr ⟨j',g,h1,h.get hi h2,h3⟩
 life:=hl.life
 sum:=fun e=>by
  obtain⟨h1,o,j',g,h2,h3,h4,h5,h6,h7⟩:=hl.sum e;exact⟨h1,o,j',g,h2,zLl h3 h.1,h4,h.get h3 h5,h6,h7.ext h h3⟩
 part:=fun e=>by
  obtain⟨h1,h2,h3,u,h4,t,h5,h6⟩:=hl.part e;exact⟨h1,h2,h3,u,h4.ext h hi,t,h.mem (by have:=h4.1;omega) h5,h6⟩
 same:=fun e=>by
  obtain⟨h1,u,h4,t,h5,h6⟩:=hl.same e;exact⟨h1,u,h4.ext h hi,t,h.mem (by have:=h4.1;omega) h5,h6⟩
theorem yF{α:Type}{a b:List α}{j:Nat}{f:α}(h:(a++b)[j]?=some f):a[j]?=some f\/∃j',j=a.length+j'/\b[j']?=some f:=by
 by_cases hj:j<a.length
 ·rw[List.getElem?_append_left hj] at h;exact .inl h
 ·rw[List.getElem?_append_right (by omega)] at h
  exact .inr ⟨j-a.length,by omega,h⟩
theorem tI{f:cA}(h:cN f=true):0<=f.kind/\f.kind<=8:=by
 unfold cN lM at h;simp only[zBa] at h;have h2:=h.2
 iterate 9
  split at h2;· omega
 exact absurd h2 (by simp)
theorem Xj{f:cA}(h:cN f=true)(hc:tv f):Cop f:=by
 have h1:=tI h;obtain⟨c0,c1,c6,c7⟩:=hc;unfold Cop;omega
theorem pV{i:Nat}(h:i<3):aN (aU i)=true:=by
 have e:∀i:Fin 3,aN (aU i.1)=true:=by decide
 exact e ⟨i,h⟩
theorem ni{ks:List dZ}{i j:Nat}{f:cA}(hv:jm f)(h:f.kind=0\/f.kind=2\/f.kind=3):Bo ks i j f where
 val:=hv
 ref:=fun e=>by omega
 time:=fun e=>by omega
 life:=fun e=>by omega
 sum:=fun e=>by omega
 part:=fun e=>by omega
 same:=fun e=>by omega
theorem dI.lead{ks:List dZ}{i:Nat}{l pre post:List cA}(h:dI l)(he:fs ks i=pre++(l++post)):∀(j:Nat) (f:cA),l[j]?=some f->Bo ks i (pre.length+j) f:=by
 intro j f hf;have hv:=h.v f (List.mem_of_getElem? hf);cases h with
 |none=>simp at hf
 |size lo hi h=>
  have:f=BV lo hi:=by simpa using List.mem_of_getElem? hf
  subst this;exact ni hv (.inr (.inl rfl))
 |tag n gs h1 h2 h3 h4 h5=>
  have:f=Bb (fP.take n) gs:=by simpa using List.mem_of_getElem? hf
  subst this;exact ni hv (.inr (.inr rfl))
 |born lo hi lo' hi' h h'=>
  have e0:f.kind=4:=by
   rcases (by simpa using List.mem_of_getElem? hf:f=pH lo hi\/f=rC lo' hi') with rfl|rfl<;>rfl
  refine⟨hv,fun e=>by omega,fun _=>?_,fun e=>by omega,fun e=>by omega,fun e=>by omega,fun e=>by omega⟩
  match j,hf with
  |0,hf=>simp at hf;subst hf;exact .inl rfl
  |1,hf=>
   simp at hf;subst hf
   refine .inr ⟨pre.length,pH lo hi,by omega,?_,rfl,rfl⟩
   rw[he,List.getElem?_append_right (by omega)];simp
  |j+2,hf=>simp at hf
 |state lo hi h1 h2 h3=>
  have:f=mI lo hi:=by simpa using List.mem_of_getElem? hf
  subst this
  have e0:(mI lo hi).kind=5:=rfl
  exact⟨hv,fun e=>by omega,fun e=>by omega,fun _=>rfl,fun e=>by omega,fun e=>by omega,fun e=>by omega⟩
 |low lo hi lo' hi' h h'=>
  rcases (by simpa using List.mem_of_getElem? hf:f=Bc lo hi\/f=pI lo' hi') with rfl|rfl<;>exact ni hv (.inr (.inl rfl))
theorem dI.names{l:List cA}(h:dI l):l.map cA.name=[]\/l.map cA.name=[gT]\/l.map cA.name=[xT]\/l.map cA.name=[mT,wF]\/l.map cA.name=[n9]\/l.map cA.name=[kM,kA]:=by
 cases h<;>simp[BV,Bb,pH,rC,mI,Bc,pI]
theorem dI.kind{l:List cA}(h:dI l):∀f∈l,f.kind≠0:=by
 intro f hf;cases h with
 |none=>simp at hf
 |size lo hi h=>simp at hf;subst hf;show (2:Int)≠0;decide
 |tag n gs h1 h2 h3 h4 h5=>simp at hf;subst hf;show (3:Int)≠0;decide
 |born lo hi lo' hi' h h'=>rcases (by simpa using hf:f=pH lo hi\/f=rC lo' hi') with rfl|rfl<;>(show (4:Int)≠0;decide)
 |state lo hi h1 h2 h3=>simp at hf;subst hf;show (5:Int)≠0;decide
 |low lo hi lo' hi' h h'=>rcases (by simpa using hf:f=Bc lo hi\/f=pI lo' hi') with rfl|rfl<;>(show (2:Int)≠0;decide)
def jd:List Nm:=[RF,tu,yY,wE,nBy]
def GW:List Nm:=[gT,xT,mT,wF,n9,kM,kA]
theorem Sg:∀a∈jd,∀b∈GW,a≠b:=by decide
theorem DB{p q a:List cA}(hp:dI p)(hs:mU (a++p) q):((p++q).map cA.name).Nodup:=by
 rcases hs with rfl|⟨hq,hh⟩
 ·rw[List.append_nil]
  rcases hp.names with e|e|e|e|e|e<;>rw[e]<;>decide
 ·have hn:∀x,(q.map cA.name).head?=some x->x∉p.map cA.name:=by
   intro x hx hm
   rw[List.head?_map] at hx
   obtain⟨f,hf,rfl⟩:=Option.map_eq_some_iff.1 hx
   obtain⟨g,hg,e⟩:=List.mem_map.1 hm
   exact hh f hf g (List.mem_append_right _ hg) e
  rw[List.map_append];have hpn:=hp.names;have hqn:=hq.names;generalize p.map cA.name=P at*;generalize q.map cA.name=Q at*;rcases hpn with rfl|rfl|rfl|rfl|rfl|rfl<;>rcases hqn with rfl|rfl|rfl|rfl|rfl|rfl<;>first|decide|exact(hn _ rfl (by simp)).elim
theorem dI.qV{l:List cA}(h:dI l):∀n∈l.map cA.name,n∈GW:=by
 rcases h.names with e|e|e|e|e|e<;>rw[e]<;>simp[GW]
structure aa3(L:List dZ)(n:Nat)(h:List cA):Prop where
 lead:∀j f,h[j]?=some f->Bo L n j f
 head:∃f l,h=f::l/\f.kind=0/\∀g∈l,g.kind≠0
 names:h.map cA.name∈[[RF],[RF,tu],[RF,tu,yY],[RF,tu,wE],[RF,tu,yY,wE]]
theorem aa4{ks ks':List dZ}{k:dZ}{h post:List cA}(ho:oh ks k.name ks' h)(hn:ks.length<=2)(hk:k.name=aU ks.length)(hks:∀i,i<ks.length->(iT ks i).name=aU i)
  (hv:∀(i j:Nat) (f:cA),i<ks.length->(fs ks i)[j]?=some f->jm f)(hx:Ext ks (ks'++[k]))(hl':ks'.length=ks.length)
  (hu:∀i,i<ks.length->fs (ks'++[k]) i=fs ks' i)(he:fs (ks'++[k]) ks.length=h++post):aa3 (ks'++[k]) ks.length h:=by
 obtain⟨a,h1,h2,⟨_,_,rfl⟩|⟨t,ht,lo,hi,s,p,h3,h4,h5,h6,hs,hp,rfl⟩⟩:=ho
 ·refine⟨fun j f hf=>?_,⟨_,_,rfl,rfl,by simp⟩,by simp[uT]⟩
  have:f=uT a:=by simpa using List.mem_of_getElem? hf
  subst this;exact ni (aa0 h1 h2) (.inl rfl)
 ·rw[hks t ht] at he ⊢
  have hU:∀j,2<=j->Up (ks'++[k]) ks.length j t:=fun j hj=>⟨ht,1,AQ (aU t) lo hi,by omega,by rw[he];rfl,rfl,rfl,rfl⟩
  have vS:∀f∈s,jm f/\f.kind=8/\∀j,2<=j->Bo (ks'++[k]) ks.length j f:=by
   intro f hf;rcases hs with rfl|⟨c,hc,hcc,rfl⟩
   ·simp at hf
   ·have hm:(iT ks t).af4[c]∈fs ks t:=zGm hc
    have hv1:=hv t c _ ht (zEg hc)
    have hnm:aN (iT ks t).af4[c].name=true:=by
     have:=hv1.1;unfold cN at this;simp only[zBa] at this;exact this.1.1
    rw[zMs.1 hf];have e0:(oM (iT ks t).af4[c].name).kind=8:=rfl;refine⟨OV hnm,e0,fun j hj=>⟨OV hnm,fun e=>by omega,fun e=>by omega,fun e=>by omega,fun e=>by omega,fun e=>by omega,fun _=>⟨rfl,t,hU j hj,_,hx.mem ht hm,rfl,Xj hv1.1 hcc⟩⟩⟩
  have vP:∀f∈p,jm f/\f.kind=7/\∀j,2<=j->Bo (ks'++[k]) ks.length j f:=by
   intro f hf;rcases hp with⟨rfl,_⟩|⟨lo',hi',q1,q2,q3,rfl,q4,q5⟩
   ·simp at hf
   ·rw[zMs.1 hf]
    have e0:(kB lo' hi').kind=7:=rfl;refine⟨OW q1 q2 q3,e0,fun j hj=>⟨OW q1 q2 q3,fun e=>by omega,fun e=>by omega,fun e=>by omega,fun e=>by omega,fun _=>⟨rfl,rfl,rfl,t,hU j hj,fJ k.name,?_,rfl,rfl,hk⟩,fun e=>by omega⟩⟩;rw[hu t ht,q5];show _∈((ks.set t (dJ (iT ks t) k.name)).getD t Er).af4
    rw[zGd,List.getElem?_set_self ht];simp[dJ]
  have nS:s.map cA.name=[]\/s.map cA.name=[yY]:=by
   rcases hs with rfl|⟨c,hc,hcc,rfl⟩
   ·exact .inl rfl
   ·exact .inr rfl
  have nP:p.map cA.name=[]\/p.map cA.name=[wE]:=by
   rcases hp with⟨rfl,_⟩|⟨lo',hi',q1,q2,q3,rfl,q4,q5⟩
   ·exact .inl rfl
   ·exact .inr rfl
  have vO:jm (AQ (aU t) lo hi):=Vk (by decide) (pV (by omega)) h3 (by omega) (by omega);refine⟨fun j f hf=>?_,⟨_,_,rfl,rfl,?_⟩,?_⟩
  ·match j,hf with
   |0,hf=>simp at hf;subst hf;exact ni (aa0 h1 h2) (.inl rfl)
   |1,hf=>
    simp at hf;subst hf
    have e0:(AQ (aU t) lo hi).kind=1:=rfl
    exact⟨vO,fun _=>⟨t,ht,rfl⟩,fun e=>by omega,fun e=>by omega,fun e=>by omega,fun e=>by omega,fun e=>by omega⟩
   |j+2,hf=>
    have hm:f∈s++p:=List.mem_of_getElem? (by simpa using hf)
    rcases List.mem_append.1 hm with hm|hm
    ·exact(vS f hm).2.2 _ (by omega)
    ·exact(vP f hm).2.2 _ (by omega)
  ·intro g hg
   rcases zMc.1 hg with rfl|hg
   ·show (1:Int)≠0;decide
   ·rcases List.mem_append.1 hg with hm|hm
    ·have:=(vS g hm).2.1;omega
    ·have:=(vP g hm).2.1;omega
  ·rw[List.map_cons,List.map_cons,List.map_append]
   rcases nS with e1|e1<;>rcases nP with e2|e2<;>rw[e1,e2]<;>simp[uT,AQ]
theorem OX{ks ks':List dZ}{k:dZ}(hk:pJ ks ks' k)(hks:∀i,i<ks.length->(iT ks i).name=aU i)
  (hv:∀(i j:Nat) (f:cA),i<ks.length->(fs ks i)[j]?=some f->jm f)(hx:Ext ks (ks'++[k]))(hl':ks'.length=ks.length)
  (hu:∀i,i<ks.length->fs (ks'++[k]) i=fs ks' i)(he:iT (ks'++[k]) ks.length=k):La (ks'++[k]) ks.length:=by
 obtain⟨hn,hkn,s1,s2,s3,h,y,p,q,ho,hy,hp,hq,hf⟩:=hk
 have A1:fs (ks'++[k]) ks.length=h++(y++(p++q)):=by
  show (iT (ks'++[k]) ks.length).af4=_
  rw[he,hf];simp
 have hG:=aa4 ho hn hkn hks hv hx hl' hu A1
 have nY:y.map cA.name=[]\/y.map cA.name=[nBy]:=by
  rcases hy with rfl|⟨_,rfl⟩
  ·exact .inl rfl
  ·exact .inr rfl
 have lY:∀f∈y,f.kind≠0/\∀j,Bo (ks'++[k]) ks.length j f:=by
  intro f hfy;rcases hy with rfl|⟨h1,rfl⟩
  ·simp at hfy
  ·have hh:ks=[]->False:=by intro e;rw[hl',e] at h1;exact absurd h1 (by simp)
   have hpos:0<ks.length:=by omega
   have hnm:(iT ks' 0).name=aU 0:=by
    have h3:iT (ks'++[k]) 0=iT ks' 0:=by
     unfold iT;rw[zGd,zGd,List.getElem?_append_left (by omega)]
    rcases ho with⟨_,_,_,⟨e,_⟩|⟨t,ht,_,_,_,pp,_,_,_,_,_,hpp,_⟩⟩
    ·exact(hh e).elim
    ·rcases hpp with⟨_,rfl⟩|⟨_,_,_,_,_,_,_,rfl⟩
     ·exact hks 0 hpos
     ·rw[iT,zGd,List.getElem?_set]
      split
      ·rename_i e0
       subst e0;simp[dJ,hks 0 hpos]
      ·rw[<-zGd]
       exact hks 0 hpos
   rw[hnm] at hfy;rw[zMs.1 hfy];have e0:(Nu (aU 0)).kind=1:=rfl;have vB:jm (Nu (aU 0)):=Vk (by decide) (pV (by omega)) (by omega) (by omega) (by omega);exact⟨by omega,fun j=>⟨vB,fun _=>⟨0,hpos,rfl⟩,fun e=>by omega,fun e=>by omega,fun e=>by omega,fun e=>by omega,fun e=>by omega⟩⟩
 refine⟨by rw[he];exact⟨s1,s2,s3⟩,?_,?_,?_⟩
 ·rw[A1,<-List.append_assoc,List.map_append,List.nodup_append]
  refine⟨?_,DB hp hq,fun a ha b hb=>Sg a ?_ b ?_⟩
  ·rw[List.map_append]
   have:=hG.names;simp only[zMc,List.mem_nil_iff,or_false] at this;rcases this with e|e|e|e|e<;>rcases nY with e2|e2<;>rw[e,e2]<;>decide
  ·rw[List.map_append] at ha
   have:=hG.names;simp only[zMc,List.mem_nil_iff,or_false] at this;rcases List.mem_append.1 ha with ha|ha
   ·have hA:∀n,n∈h.map cA.name->n∈jd:=by
     rcases this with e|e|e|e|e<;>rw[e]<;>simp[jd]
    exact hA a ha
   ·rcases nY with e|e<;>rw[e] at ha<;>simp at ha;simp[ha,jd]
  ·rw[List.map_append] at hb
   rcases List.mem_append.1 hb with hb|hb
   ·exact hp.qV b hb
   ·exact hq.plain.qV b hb
 ·obtain⟨f,l,rfl,h1,h2⟩:=hG.head
  refine⟨f,l++(y++(p++q)),A1,h1,fun g hg=>?_⟩;simp only[List.mem_append] at hg;rcases hg with hg|hg|hg|hg
  ·exact h2 g hg
  ·exact(lY g hg).1
  ·exact hp.kind g hg
  ·exact hq.plain.kind g hg
 ·intro j f hj
  rw[A1] at hj;rcases yF hj with k1|⟨j1,e1,k1⟩
  ·exact hG.lead j f k1
  ·rcases yF k1 with k2|⟨j2,e2,k2⟩
   ·exact(lY f (List.mem_of_getElem? k2)).2 _
   ·rcases yF k2 with k3|⟨j3,e3,k3⟩
    ·have:=hp.lead (pre:=h++y) (post:=q) (by rw[A1];simp) j2 f k3
     rw[zLa,Nat.add_assoc,<-e2,<-e1] at this;exact this
    ·have:=hq.plain.lead (pre:=h++y++p) (post:=[]) (by rw[A1];simp) j3 f k3
     rw[zLa,zLa,Nat.add_assoc,Nat.add_assoc,<-e3,<-e2,<-e1] at this;exact this
theorem OY{ks ks':List dZ}{k:dZ}(hk:pJ ks ks' k)(hi:∀i,i<ks.length->La ks i)(hx:Ext ks (ks'++[k]))(hl':ks'.length=ks.length)
  (hks:∀i,i<ks.length->(iT ks i).name=aU i)
  (he:iT (ks'++[k]) ks.length=k)(hu:∀i,i<ks.length->iT (ks'++[k]) i=iT ks' i):∀i,i<ks.length->La (ks'++[k]) i:=by
 intro i hi0;have hI:=hi i hi0;obtain⟨hn,hkn,s1,s2,s3,h,y,p,q,ho,hy,hp,hq,hf⟩:=hk
 have keep:iT ks' i=iT ks i->La (ks'++[k]) i:=by
  intro e
  have e2:fs (ks'++[k]) i=fs ks i:=by
   show (iT _ i).af4=_
   rw[hu i hi0,e];rfl
  refine⟨by rw[hu i hi0,e];exact hI.span,by rw[e2];exact hI.nodup,by rw[e2];exact hI.head,fun j f hj=>?_⟩;rw[e2] at hj;exact(hI.lead j f hj).ext hx hi0
 obtain⟨a,h1,h2,⟨_,rfl,_⟩|⟨t,ht,lo,hi',s,pp,h3,h4,h5,h6,hs,hpp,hh⟩⟩:=ho
 ·exact keep rfl
 ·rcases hpp with⟨_,rfl⟩|⟨lo',hi2,q1,q2,q3,hpa,q4,q5⟩
  ·exact keep rfl
  ·by_cases hit:i=t
   ·subst hit
    have e1:iT ks' i=dJ (iT ks i) k.name:=by
     rw[q5,iT,zGd,List.getElem?_set_self ht];rfl
    have e2:fs (ks'++[k]) i=fs ks i++[fJ k.name]:=by
     show (iT _ i).af4=_
     rw[hu i hi0,e1];rfl
    refine⟨by rw[hu i hi0,e1];exact hI.span,?_,?_,fun j f hj=>?_⟩
    ·rw[e2,List.map_append,List.nodup_append]
     refine⟨hI.nodup,by simp,fun x hx y hy=>?_⟩;obtain⟨g,hg,rfl⟩:=List.mem_map.1 hx;have:y=eA:=by simpa [fJ] using hy
     subst this;exact q4 g hg
    ·obtain⟨f,l,e3,h7,h8⟩:=hI.head
     refine⟨f,l++[fJ k.name],by rw[e2,e3];rfl,h7,fun g hg=>?_⟩;rcases List.mem_append.1 hg with hg|hg
     ·exact h8 g hg
     ·rw[zMs.1 hg];show (6:Int)≠0;decide
    ·rw[e2] at hj
     rcases yF hj with k1|⟨j1,ej,k1⟩
     ·exact(hI.lead j f k1).ext hx hi0
     ·have:f=fJ k.name:=by simpa using List.mem_of_getElem? k1
      subst this;have vT:jm (fJ k.name):=Sd (by rw[hkn];exact pV (by omega));have e0:(fJ k.name).kind=6:=rfl
      have A1:fs (ks'++[k]) ks.length=uT a::AQ (iT ks i).name lo hi'::(s++(kB lo' hi2::(y++(p++q)))):=by
       show (iT (ks'++[k]) ks.length).af4=_
       rw[he,hf,hh,hpa];simp
      refine⟨vT,fun e=>by omega,fun e=>by omega,fun e=>by omega,fun _=>⟨rfl,ks.length,s.length+2,kB lo' hi2,hi0,by simp[hl'],hkn,?_,rfl,hi0,1,AQ (iT ks i).name lo hi',by omega,by rw[A1];rfl,rfl,rfl,hks i hi0⟩,fun e=>by omega,fun e=>by omega⟩;rw[A1];simp
   ·exact keep (by
     rw[q5,iT,zGd,List.getElem?_set_ne (fun e=>hit e.symm),<-zGd];rfl)
theorem AU.inv{ks:List dZ}(h:AU ks):∀i,i<ks.length->La ks i:=by
 induction h with
 |nil=>intro i hi;exact absurd hi (by simp)
 |snoc ks ks' k hg hk ih=>
  have hgd:=hg.good
  have hl':=hk.le.2.2
  have hks:∀i,i<ks.length->(iT ks i).name=aU i:=fun i hi=>by
   rw[iT,zGd,zEg hi];exact hgd.2.2 i hi
  have hu:∀i,i<ks.length->iT (ks'++[k]) i=iT ks' i:=fun i hi=>by
   unfold iT;rw[zGd,zGd,List.getElem?_append_left (by omega)]
  have he:iT (ks'++[k]) ks.length=k:=by
   unfold iT;rw[zGd,List.getElem?_append_right (by omega),hl',Nat.sub_self];rfl
  have hx:Ext ks (ks'++[k]):=⟨by simp[hl'],fun i hi=>by
   show ∃l,(iT _ i).af4=(iT ks i).af4++l
   rw[hu i hi];rcases hk.old with rfl|⟨t,ht,_,rfl⟩
   ·exact⟨[],by simp⟩
   ·by_cases e:i=t
    ·subst e
     exact⟨[fJ k.name],by rw[iT,zGd,List.getElem?_set_self ht,iT,zGd,zEg ht];rfl⟩
    ·exact⟨[],by rw[iT,zGd,List.getElem?_set_ne (fun h=>e h.symm),<-zGd,List.append_nil];rfl⟩⟩
  intro i hi
  by_cases hin:i<ks.length
  ·exact OY hk ih hx hl' hks he hu i hin
  ·have e:i=ks.length:=by simp[hl'] at hi;omega
   subst e;exact OX hk hks (fun i j f hi hf=>((ih i hi).lead j f hf).val) hx hl' (fun i hi=>by show (iT _ i).af4=_;rw[hu i hi];rfl) he
end Go.Proofs.YtobgljfnfpolkaaGreatDoor.ah
namespace Go.Proofs.YtobgljfnfpolkaaGreatDoor.ah
theorem vp(x:bD)(i:Nat):kd x i=iT x.af3 i:=rfl
theorem nj{x:bD}{i j:Nat}{f:cA}(h:(fs x.af3 i)[j]?=some f):fd x i j=f:=by
 show (fs x.af3 i).getD j sZ=f
 rw[zGd,h];rfl
theorem ny{α:Type}{l:List α}{j:Nat}{f:α}(h:l[j]?=some f):j<l.length:=(List.getElem?_eq_some_iff.1 h).1
theorem pW{x:bD}{i j:Nat}(hi:i<x.af3.length)(hj:j<(fs x.af3 i).length):hasB x i j=true:=by
 have hj':j<(kd x (i:Int)).af4.length:=hj;simp[hasB,hi,hj']
theorem jT{ks:List dZ}{i j:Nat}{f:cA}(hI:La ks i)(hf:(fs ks i)[j]?=some f):aX (iT ks i) f.name=j:=by
 obtain⟨hj,e⟩:=List.getElem?_eq_some_iff.1 hf
 have:=fQ (p:=fun g:cA=>decide (g.name=f.name)) (l:=fs ks i) (i:=0) hj (fun j' h' hlt=>by
  have hp:=List.pairwise_iff_getElem.1 hI.nodup j' j (by simpa using h') (by simpa using hj) hlt;simp only[List.getElem_map] at hp;rw[e] at hp;exact decide_eq_false hp) (by rw[e];simp)
 simpa [aX,fs] using this
theorem Lb{i j:Nat}(hi:i<3)(hj:j<3)(h:aU i=aU j):i=j:=by
 have e:∀a b:Fin 3,aU a.1=aU b.1->a=b:=by decide
 exact congrArg Fin.val (e ⟨i,hi⟩ ⟨j,hj⟩ h)
theorem pX{x:bD}(hg:AU x.af3){u:Nat}(hu:u<x.af3.length):bZ x (aU u)=u:=by
 obtain⟨g1, -,g3⟩:=hg.good
 have:=fQ (p:=fun k:dZ=>decide (k.name=aU u)) (l:=x.af3) (i:=0) hu (fun j' h' hlt=>by
  rw[g3 j' h'];refine decide_eq_false fun e=>?_;have:=Lb (by omega) (by omega) e;omega) (by rw[g3 u hu];simp)
 simpa [bZ] using this
theorem Kn{x:bD}(hg:AU x.af3){i u:Nat}{f:cA}(hu:u<i)(hi:i<x.af3.length)(h:f.of=aU u):qW x i f=u:=by
 unfold qW;rw[h,pX hg (by omega),if_pos (by omega)]
theorem Ko{x:bD}(hg:AU x.af3){i j u:Nat}{f:cA}(hi:i<x.af3.length)(hf:(fs x.af3 i)[j]?=some f)(hk:f.kind=1)(hu:u<i)(h:f.of=aU u):dB x i j=u:=by
 unfold dB;rw[if_pos (pW hi (ny hf))];simp only[nj hf];rw[if_neg (by omega),if_pos hk];exact Kn hg hu hi h
theorem GX{x:bD}(hg:AU x.af3){i j u:Nat}{f:cA}(hi:i<x.af3.length)(hf:(fs x.af3 i)[j]?=some f)(hk:f.kind=7\/f.kind=8)(he:f.up=tu)(hu:Up x.af3 i j u):dB x i j=u:=by
 obtain⟨h1,j',g,h2,h3,h4,h5,h6⟩:=hu;have hI:=hg.inv i hi;have e1:aX (kd x (i:Int)) tu=j':=by rw[vp,<-h4];exact jT hI h3
 unfold dB;rw[if_pos (pW hi (ny hf))];simp only[nj hf];rw[if_pos hk,he,e1,if_pos ⟨pW hi (ny h3),by omega,by rw[nj h3];exact h5⟩,nj h3];exact Kn hg h1 hi h6
theorem Sh{x:bD}(h:BX x):GV x:=by
 intro k j hk hj h1;have hf:(fs x.af3 k)[j]?=some (fs x.af3 k)[j]:=zEg hj;have e:=nj hf;have hl:=(h.af3.inv k hk).lead j _ hf;rw[e] at h1;obtain⟨u,h2,h3⟩:=hl.ref h1;rw[Ko h.af3 hk hf h1 h2 h3];omega
theorem Kq{x:bD}(hg:AU x.af3){i j u:Nat}{f t:cA}(hu:u<x.af3.length)(hup:dB x i j=u)(ht:t∈fs x.af3 u)(hn:t.name=f.of):yU x i j f=some t:=by
 obtain⟨j',hj',e⟩:=List.getElem_of_mem ht;have hf:(fs x.af3 u)[j']?=some t:=by rw[zEg hj',e]
 have e1:aX (kd x (u:Int)) f.of=j':=by rw[vp,<-hn];exact jT (hg.inv u hu) hf
 unfold yU;rw[hup,if_neg (by omega),e1,if_pos (pW hu hj'),nj hf]
theorem filter_one{l:List Int}(hn:l.Nodup){p:Int->Bool}{a:Int}(ha:a∈l)(hp:∀b∈l,p b=true↔b=a):(l.filter p).length=1:=by
 have e:l.filter p=l.filter (fun b=>b==a):=List.filter_congr fun b hb=>by
  have:=hp b hb;by_cases e:b=a
  ·rw[this.2 e];simp[e]
  ·have h0:p b=false:=by
    cases hpb:p b
    ·rfl
    ·exact absurd (this.1 hpb) e
   rw[h0];simp[e]
 rw[e];clear e hp;induction l with
 |nil=>simp at ha
 |cons b l ih=>
  rw[List.nodup_cons] at hn
  rcases zMc.1 ha with rfl|ha
  ·have:l.filter (fun b=>b==a)=[]:=List.filter_eq_nil_iff.2 fun c hc h=>by
    have:c=a:=by simpa using h
    subst this;exact hn.1 hc
   simp[this]
  ·have hb:¬(b==a)=true:=fun h=>by
    have:b=a:=by simpa using h
    subst this;exact hn.1 ha
   rw[List.filter_cons,if_neg hb];exact ih hn.2 ha
theorem Lc{x:bD}(hg:AU x.af3){i o j:Nat}{g:cA}(ho:o<x.af3.length)(hf:(fs x.af3 o)[j]?=some g)(hk:g.kind=7)(hu:Up x.af3 o j i):(nZ x i o eA).length=1:=by
 have hI:=hg.inv o ho;have hj:=ny hf;have hl:=(hI.lead j g hf).part hk;unfold nZ;refine filter_one (a:=(j:Int)) ?_ ?_ ?_
 ·rw[List.Nodup,List.pairwise_map]
  exact List.Pairwise.imp (fun h=>by omega) List.nodup_range
 ·exact List.mem_map.2 ⟨j,List.mem_range.2 hj,rfl⟩
 ·intro b hb
  obtain⟨j2,hj2,rfl⟩:=List.mem_map.1 hb;have hj2:j2<(fs x.af3 o).length:=List.mem_range.1 hj2;have hf2:(fs x.af3 o)[j2]?=some (fs x.af3 o)[j2]:=zEg hj2;constructor
  ·intro hp
   rw[nj hf2] at hp;simp only[zBa,zDt] at hp;have h2:=((hI.lead j2 _ hf2).part hp.1.1).1;have e1:=jT hI hf2;have e2:=jT hI hf;rw[h2] at e1;rw[hl.1] at e2;rw[<-e1,<-e2]
  ·intro e
   have e:j2=j:=by omega
   subst e;rw[nj hf,GX hg ho hf (.inl hk) hl.2.2.1 hu];simp[hk,hl.2.1]
theorem OZ{x:bD}(h:BX x){i j:Nat}(hi:i<x.af3.length)(hj:j<(kd x i).af4.length):mH x i j=0:=by
 have hg:=h.af3;have hI:=hg.inv i hi;have hf:(fs x.af3 i)[j]?=some (fs x.af3 i)[j]:=zEg hj;generalize (fs x.af3 i)[j]=f at hf;have hl:=hI.lead j f hf;unfold mH;rw[nj hf,vp,jT hI hf,if_neg (by omega)];unfold wD;simp only[nj hf];have hk:=tI hl.val.1;split
 ·rename_i e
  rw[if_neg];intro hp;obtain⟨f0,l,e1,e2,e3⟩:=hI.head;rw[e1] at hf;match j,hf,hp with
  |0,_,hp=>exact absurd hp (by simp)
  |j+1,hf,_=>exact e3 f (List.mem_of_getElem? (by simpa using hf)) e
 split
 ·rename_i e
  obtain⟨u,h2,h3⟩:=hl.ref e;rw[Ko hg hi hf e h2 h3,if_neg (by omega)]
 split
 ·rename_i e
  rw[if_neg];rintro ⟨h1,h2⟩;rcases hl.time e with h3|⟨j',g,h3,h4,h5,h6⟩
  ·exact h1 h3
  ·rw[vp,<-h5,jT hI h4,nj h4] at h2
   omega
 split
 ·rename_i e
  rw[hl.life e,if_pos];obtain⟨l,h1,h2⟩:=h.af7;simp[JR,h1,h2.1]
 split
 ·rename_i e
  obtain⟨h1,o,j',g,h2,h3,h4,h5,h6,h7⟩:=hl.sum e
  have e1:eY x i f=o:=by
   unfold eY;rw[h4,pX hg h3,if_pos ⟨e,by omega⟩]
  have e4:eZ x i f=nZ x i o f.name:=by unfold eZ;rw[e1,if_neg (by omega)]
  rw[e1,if_neg (by omega),e4,h1,Lc hg h3 h5 h6 h7,if_neg (by simp)]
 split
 ·rename_i e
  obtain⟨h1,h2,h3,u,h4,t,h5,h6,h7,h8⟩:=hl.part e;have e1:=GX hg hi hf (.inl e) h3 h4;have e2:yU x i j f=some t:=Kq hg (by have:=h4.1;omega) e1 h5 (by rw[h6,h2]);have e3:mS x i j f=t:=by unfold mS;rw[e2];rfl
  rw[e1,if_neg (by omega),if_neg];rintro (h9|h9|h9)
  ·rw[e2] at h9;exact absurd h9 (by simp)
  ·rw[e3] at h9;exact h9 h7
  ·rw[e3,h8,pX hg hi] at h9;exact h9 rfl
 split
 ·rename_i e
  obtain⟨h3,u,h4,t,h5,h6,h7⟩:=hl.same e;have e1:=GX hg hi hf (.inr e) h3 h4;have e2:yU x i j f=some t:=Kq hg (by have:=h4.1;omega) e1 h5 h6;have e3:mS x i j f=t:=by unfold mS;rw[e2];rfl
  rw[e1,if_neg (by omega),if_neg];rintro (h9|h9)
  ·rw[e2] at h9;exact absurd h9 (by simp)
  ·rw[e3] at h9;exact h9 h7
 rfl
theorem Sl{x:bD}(h:BX x){i:Nat}(hi:i<x.af3.length):yV x i=0:=by
 have hg:=h.af3;have hn:=hg.good.2.2 i hi
 have e:(kd x (i:Int)).name=aU i:=by
  rw[vp,iT,zGd,zEg hi];exact hn
 obtain⟨f0,l,e1,e2,e3⟩:=(hg.inv i hi).head;have hf:(fs x.af3 i)[0]?=some f0:=by rw[e1];rfl
 have h0:fd x i 0=f0:=nj (j:=0) hf;unfold yV;rw[e,pX hg hi,if_neg (by omega),h0,if_neg];rintro (h9|h9)
 ·have:=ny hf
  have h9:(fs x.af3 i).length=0:=h9;omega
 ·exact h9 e2
def Cm(l:List cA):Prop:=∀f∈l,((f.name=kM\/f.name=kA\/f.name=gT)->f.kind=2)/\(f.name=kM->∃g∈l,g.name=kA)
theorem vq{l:List cA}(h:∀n∈l.map cA.name,n∈eA::jd):Cm l:=by
 have hd:∀a∈eA::jd,a≠kM/\a≠kA/\a≠gT:=by decide
 intro f hf;obtain⟨h1,h2,h3⟩:=hd f.name (h _ (List.mem_map_of_mem hf));exact⟨fun e=>by rcases e with e|e|e<;>contradiction,fun e=>absurd e h1⟩
theorem qH{a b:List cA}(ha:Cm a)(hb:Cm b):Cm (a++b):=by
 intro f hf;rcases List.mem_append.1 hf with hf|hf
 ·exact⟨(ha f hf).1,fun e=>by obtain⟨g,h1,h2⟩:=(ha f hf).2 e;exact⟨g,List.mem_append_left _ h1,h2⟩⟩
 ·exact⟨(hb f hf).1,fun e=>by obtain⟨g,h1,h2⟩:=(hb f hf).2 e;exact⟨g,List.mem_append_right _ h1,h2⟩⟩
theorem dI.num{l:List cA}(h:dI l):Cm l:=by
 intro f hf;cases h with
 |none=>simp at hf
 |size lo hi h=>simp at hf;subst hf;exact⟨fun _=>rfl,fun e=>absurd e (by show gT≠kM;decide)⟩
 |tag n gs h1 h2 h3 h4 h5=>simp at hf;subst hf;exact⟨fun e=>absurd e (by show ¬(xT=kM\/xT=kA\/xT=gT);decide),fun e=>absurd e (by show xT≠kM;decide)⟩
 |born lo hi lo' hi' h h'=>
  rcases (by simpa using hf:f=pH lo hi\/f=rC lo' hi') with rfl|rfl
  ·exact⟨fun e=>absurd e (by show ¬(mT=kM\/mT=kA\/mT=gT);decide),fun e=>absurd e (by show mT≠kM;decide)⟩
  ·exact⟨fun e=>absurd e (by show ¬(wF=kM\/wF=kA\/wF=gT);decide),fun e=>absurd e (by show wF≠kM;decide)⟩
 |state lo hi h1 h2 h3=>simp at hf;subst hf;exact⟨fun e=>absurd e (by show ¬(n9=kM\/n9=kA\/n9=gT);decide),fun e=>absurd e (by show n9≠kM;decide)⟩
 |low lo hi lo' hi' h h'=>
  rcases (by simpa using hf:f=Bc lo hi\/f=pI lo' hi') with rfl|rfl
  ·exact⟨fun _=>rfl,fun _=>⟨pI lo' hi',by simp,rfl⟩⟩
  ·exact⟨fun _=>rfl,fun e=>absurd e (by show kA≠kM;decide)⟩
theorem oe.far{k:dZ}{l:List cA}(h:oe k l):∀n∈l.map cA.name,n∈eA::jd:=by
 rcases h with rfl|⟨c,hc,_,rfl⟩<;>simp[jd,oM]
theorem uZ.far{ks:List dZ}{tgt:Nat}{nm:Nm}{ks':List dZ}{l:List cA}(h:uZ ks tgt nm ks' l):∀n∈l.map cA.name,n∈eA::jd:=by
 rcases h with⟨rfl,_⟩|⟨lo',hi',q1,q2,q3,rfl,q4,q5⟩<;>simp[jd,kB]
theorem oh.far{ks:List dZ}{nm:Nm}{ks':List dZ}{l:List cA}(h:oh ks nm ks' l):∀n∈l.map cA.name,n∈eA::jd:=by
 obtain⟨a,h1,h2,⟨_,_,rfl⟩|⟨t,ht,lo,hi,s,p,h3,h4,h5,h6,hs,hp,rfl⟩⟩:=h
 ·simp[jd,uT]
 ·intro n hn
  simp only[List.map_cons,List.map_append,zMc,List.mem_append] at hn;rcases hn with rfl|rfl|hn|hn
  ·simp[jd,uT]
  ·simp[jd,AQ]
  ·exact hs.far n hn
  ·exact hp.far n hn
theorem AU.num{ks:List dZ}(h:AU ks):∀k∈ks,Cm k.af4:=by
 induction h with
 |nil=>intro k hk;simp at hk
 |snoc ks ks' k hg hk ih=>
  intro y hy
  rcases List.mem_append.1 hy with hy|hy
  ·rcases hk.old with rfl|⟨t,ht,_,rfl⟩
   ·exact ih y hy
   ·rcases List.mem_or_eq_of_mem_set hy with hy|rfl
    ·exact ih y hy
    ·exact qH (ih _ (zGm ht)) (vq (by simp[fJ]))
  ·rw[zMs.1 hy]
   obtain⟨_,_,_,_,_,a,y,p,q,ha,hy,hp,hq,hf⟩:=hk;rw[hf];refine qH (qH (qH (vq ha.far) (vq ?_)) hp.num) hq.plain.num;rcases hy with rfl|⟨_,rfl⟩<;>simp[jd,Nu]
end Go.Proofs.YtobgljfnfpolkaaGreatDoor.ah
namespace Go.Proofs.YtobgljfnfpolkaaGreatDoor.ah
def Xk(c k:Nat):Nm:=[JU,JV,Dt].getD c nil++(aU k).extract 0 1
theorem Xl{c k c' k':Nat}(hc:c<3)(hk:k<3)(hc':c'<3)(hk':k'<3)(h:k≠k'):Xk c k≠Xk c' k':=by
 have e:∀c k c' k':Fin 3,k≠k'->Xk c.1 k.1≠Xk c'.1 k'.1:=by decide
 exact e ⟨c,hc⟩ ⟨k,hk⟩ ⟨c',hc'⟩ ⟨k',hk'⟩ (fun h2=>h (congrArg Fin.val h2))
theorem Xm{c k:Nat}(hc:c<3)(hk:k<3):aN (Xk c k)=true:=by
 have e:∀c k:Fin 3,aN (Xk c.1 k.1)=true:=by decide
 exact e ⟨c,hc⟩ ⟨k,hk⟩
structure Xn(ks:List dZ)(k:Nat)(r:uY):Prop where
 lt:k<ks.length
 name:∃c,c<3/\r.name=Xk c k
 kind:r.kind=aU k
 n: -200000<=r.n/\r.n<=200000
 a:r.a=nil\/(aN r.a=true/\∃f∈fs ks k,f.name=r.a/\f.kind=2)
 b:r.b=nil\/(aN r.b=true/\∃f∈fs ks k,f.name=r.b/\f.kind=2)
 ab:r.a≠r.b
theorem EU{l:List cA}{s:Nm}(h:0<=Bd l s):∃f∈l,f.name=s:=by
 rcases gE (fun f:cA=>decide (f.name=s)) l with⟨h1,_⟩|⟨k,hk,_,h2,_⟩
 ·have h:0<=dw (fun f:cA=>decide (f.name=s)) l 0:=h
  omega
 ·exact⟨l[k],zGm hk,by simpa using h2⟩
theorem rulG{ks:List dZ}(hg:AU ks){k:Nat}(hk:k<ks.length){r:uY}(h:yZ ks[k] r):Xn ks k r:=by
 obtain⟨g1, -,g3⟩:=hg.good;have eL:aN kM=true:=by decide
 have eH:aN kA=true:=by decide
 have eS:aN gT=true:=by decide
 have hn:=g3 k hk;have hN:=hg.num _ (zGm hk)
 have ef:fs ks k=ks[k].af4:=by
  show (iT ks k).af4=_
  rw[iT,zGd,zEg hk];rfl
 rw[<-ef] at hN;unfold yZ at h;rw[hn,<-ef] at h;rcases h with⟨n,n1,n2,h1,rfl⟩|⟨n,n1,n2,h1,h2⟩
 ·obtain⟨f,f1,f2⟩:=EU h1
  obtain⟨g,g1,g2⟩:=(hN f f1).2 f2;exact⟨hk,⟨0,by omega,rfl⟩,rfl,⟨by show -200000<=n;omega,by show n<=200000;omega⟩,.inr ⟨eL,f,f1,f2,(hN f f1).1 (.inl f2)⟩,.inr ⟨eH,g,g1,g2,(hN g g1).1 (.inr (.inl g2))⟩,by show kM≠kA;decide⟩
 ·obtain⟨f,f1,f2⟩:=EU h1
  have fk:=(hN f f1).1 (.inr (.inr f2));rcases h2 with rfl|rfl
  ·exact⟨hk,⟨1,by omega,rfl⟩,rfl,⟨n1,n2⟩,.inr ⟨eS,f,f1,f2,fk⟩,.inl rfl,by show gT≠nil;decide⟩
  ·exact⟨hk,⟨2,by omega,rfl⟩,rfl,⟨n1,n2⟩,.inl rfl,.inr ⟨eS,f,f1,f2,fk⟩,by show nil≠gT;decide⟩
theorem O1{ks:List dZ}(hg:AU ks){n:Nat}{rs:List uY}(h:mA ks n rs):(∀r∈rs,∃k,k<n/\Xn ks k r)/\rs.Pairwise (fun r s=>r.name≠s.name):=by
 have hl:=hg.good.1;induction h with
 |nil=>exact⟨fun _ h=>absurd h (by simp),List.Pairwise.nil⟩
 |skip i rs h ih=>exact⟨fun r hr=>by obtain⟨k,h1,h2⟩:=ih.1 r hr;exact⟨k,by omega,h2⟩,ih.2⟩
 |take i rs r hi h hr ih=>
  have hG:=rulG hg hi hr
  refine⟨fun r' hr'=>?_,?_⟩
  ·rcases List.mem_append.1 hr' with hr'|hr'
   ·obtain⟨k,h1,h2⟩:=ih.1 r' hr';exact⟨k,by omega,h2⟩
   ·rw[zMs.1 hr'];exact⟨i,by omega,hG⟩
  ·rw[List.pairwise_append]
   refine⟨ih.2,List.pairwise_singleton _ _,fun a ha b hb=>?_⟩;rw[zMs.1 hb];obtain⟨k,h1,h2⟩:=ih.1 a ha;obtain⟨c,h3,h4⟩:=h2.name;obtain⟨c',h5,h6⟩:=hG.name;rw[h4,h6];have:=h2.lt;exact Xl h3 (by omega) h5 (by omega) (by omega)
theorem EV{x:bD}(hg:AU x.af3){k:Nat}(hk:k<x.af3.length){s:Nm}(h:s=nil\/∃f∈fs x.af3 k,f.name=s/\f.kind=2):tr x k s=(false,false):=by
 unfold tr;by_cases e:s=nil\/(k:Int)<0
 ·rw[if_pos e]
 ·rw[if_neg e]
  rcases h with h|⟨f,h1,h2,h3⟩
  ·exact absurd (.inl h) e
  ·obtain⟨j,hj,rfl⟩:=List.getElem_of_mem h1
   have hf:(fs x.af3 k)[j]?=some (fs x.af3 k)[j]:=zEg hj;have e1:aX (kd x (k:Int)) s=j:=by rw[vp,<-h2];exact jT (hg.inv k hk) hf
   have e2:(fd x k j).kind=2:=by rw[nj hf];exact h3
   simp[e1,pW hk hj,e2]
theorem Sm{x:bD}(h:BX x){i:Nat}(hi:i<x.af8.length):yX x i=0:=by
 obtain⟨n, -,h2, -⟩:=h.af8;obtain⟨h3,h4⟩:=O1 h.af3 h2;have e:rl x i=x.af8[i]:=by rw[rl,zGd,zEg hi];rfl
 obtain⟨k, -,h5⟩:=h3 _ (zGm hi);have ea:=EV h.af3 h5.lt (h5.a.imp id And.right);have eb:=EV h.af3 h5.lt (h5.b.imp id And.right);have ek:bZ x x.af8[i].kind=k:=by rw[h5.kind];exact pX h.af3 h5.lt
 have et:¬(x.af8.take i).any (fun s=>decide (s.name=x.af8[i].name))=true:=by
  intro ht;obtain⟨s,h6,h7⟩:=List.any_eq_true.1 ht;obtain⟨j,hj,rfl⟩:=List.getElem_of_mem h6;rw[List.getElem_take] at h7;rw[zLt] at hj;exact List.pairwise_iff_getElem.1 h4 j i (by omega) hi (by omega) (by simpa using h7)
 unfold yX;simp only[e];rw[if_neg et,ek,ea,eb,if_neg (by simp),if_neg (by simp),if_neg h5.ab]
theorem qI{α:Type}{g:α->Nat}{b:Nat}:∀(l:List α),(∀x∈l,g x<=b)->bn g l<=b*l.length:=by
 have:∀(l:List α) (n:Nat),(∀x∈l,g x<=b)->l.foldl (fun n x=>n+g x) n<=n+b*l.length:=by
  intro l;induction l with
  |nil=>intro n _;simp
  |cons x l ih=>
   intro n h
   have h1:=h x (by simp)
   have h2:=ih (n+g x) (fun y hy=>h y (by simp[hy]))
   simp only[List.foldl_cons,List.length_cons,Nat.mul_succ]
   omega
 intro l h;have:=this l 0 h;unfold bn;omega
theorem GY{n:Nat}:∀s∈om.take n,aN s=true:=by
 have e:om.all aN=true:=by decide
 intro s hs;exact List.all_eq_true.1 e s (List.mem_of_mem_take hs)
theorem GZ{l:Eb}(h:Nx l):tf l=true/\jy l<=400:=by
 obtain⟨h1,n,h2,h3,h4,h5,h6⟩:=h;have hl:l.agc.length=n:=by rw[h4,zLt];have:om.length=4:=rfl;omega
 have hs:∀s∈l.agc,aN s=true:=by rw[h4];exact GY
 have eN:aN oL=true:=by decide
 have e4:oL.size=4:=rfl;refine⟨?_,?_⟩
 ·have a1:qV l.agc.length 1 12=true:=pU (by omega) (by omega)
  have a2:l.agc.all aN=true:=List.all_eq_true.2 hs
  have a3:l.agd.all (yS l.agc.length)=true:=List.all_eq_true.2 fun m hm=>by
   obtain⟨m1,m2,m3,m4⟩:=h6 m hm;unfold yS;rw[pU m1 (by omega),pU m3 (by omega)];rfl
  unfold tf;rw[h1,eN,a1,a2,a3];simp;omega
 ·have b1:bn (fun s:Nm=>1+s.size) l.agc<=13*l.agc.length:=qI _ fun s hs'=>by have:=gF (hs s hs');omega
  have b2:bn (fun m:Int×Int=>4+(1+cZ m.1)+(1+cZ m.2)+1) l.agd<=21*l.agd.length:=qI _ fun m hm=>by
   obtain⟨m1,m2,m3,m4⟩:=h6 m hm;have d1:=ez (n:=m.1) (by omega) (by omega);have d2:=ez (n:=m.2) (by omega) (by omega);omega
  have b3:=ez (n:=(l.agc.length:Int)) (by omega) (by omega);unfold jy;rw[h1,e4];omega
theorem G4{x:bD}(hg:AU x.af3){i:Nat}(hi:i<x.af3.length):oK x.af3[i]=true/\gQ x.af3[i]<=1200:=by
 obtain⟨g1,g2,g3⟩:=hg.good;have hI:=hg.inv i hi;have hn:=g3 i hi;have hl:=(g2 _ (zGm hi)).len
 have hv:∀f∈x.af3[i].af4,jm f:=by
  intro f hf
  have ef:fs x.af3 i=x.af3[i].af4:=by
   show (iT x.af3 i).af4=_
   rw[iT,zGd,zEg hi];rfl
  rw[<-ef] at hf;obtain⟨j,hj,e⟩:=List.getElem_of_mem hf;exact(hI.lead j f (by rw[zEg hj,e])).val
 have es:iT x.af3 i=x.af3[i]:=by rw[iT,zGd,zEg hi];rfl
 obtain⟨s1,s2,s3⟩:=hI.span;rw[es] at s1 s2 s3;have hnm:=pV (i:=i) (by omega);refine⟨?_,?_⟩
 ·have a1:x.af3[i].af4.all cN=true:=List.all_eq_true.2 fun f hf=>(hv f hf).1
  unfold oK;rw[hn,hnm,mY s1 s2 (by omega),a1];simp[hl]
 ·have b1:bn bQ x.af3[i].af4<=100*x.af3[i].af4.length:=qI _ fun f hf=>(hv f hf).2
  have b2:=ez (n:=x.af3[i].lo) (by omega) (by omega);have b3:=ez (n:=x.af3[i].hi) (by omega) (by omega);have b4:=gF hnm;unfold gQ;rw[hn];omega
theorem G5{ks:List dZ}{k:Nat}{r:uY}(hl:ks.length<=3)(h:Xn ks k r):tg r=true/\kQ r<=100:=by
 obtain⟨lt,⟨c,hc,hn⟩,hk,⟨n1,n2⟩,ha,hb,hab⟩:=h;have e1:=Xm (c:=c) (k:=k) hc (by omega);have e2:=pV (i:=k) (by omega);have ea:(decide (r.a=nil)||aN r.a)=true:=by rcases ha with h|h<;>simp[h]
 have eb:(decide (r.b=nil)||aN r.b)=true:=by rcases hb with h|h<;>simp[h]
 have ec:(decide (r.a=nil)&&decide (r.b=nil))=false:=by
  by_cases h1:r.a=nil
  ·have:r.b≠nil:=fun h2=>hab (h1.trans h2.symm)
   simp[this]
  ·simp[h1]
 have fa:dR r.a<=12:=by
  rcases ha with h|h
  ·rw[h];decide
  ·exact mZ (gF h.1)
 have fb:dR r.b<=12:=by
  rcases hb with h|h
  ·rw[h];decide
  ·exact mZ (gF h.1)
 refine⟨?_,?_⟩
 ·unfold tg
  rw[hn,hk,e1,e2,ea,eb,ec,pU (by omega) (by omega)];rfl
 ·have d:=ez (n:=r.n) (by omega) (by omega)
  have s1:=gF e1;have s2:=gF e2;unfold kQ;rw[hn,hk];omega
theorem Sn{x:bD}(h:BX x):okB x=true:=by
 obtain⟨g1,g2,g3⟩:=h.af3.good;obtain⟨n, -,h2,h5⟩:=h.af8;obtain⟨h3,h4⟩:=O1 h.af3 h2;obtain⟨l,hl,hL⟩:=h.af7;have hv:=h.af6
 have vk:∀k∈x.af3,oK k=true/\gQ k<=1200:=fun k hk=>by
  obtain⟨i,hi,rfl⟩:=List.getElem_of_mem hk;exact G4 h.af3 hi
 have vr:∀r∈x.af8,tg r=true/\kQ r<=100:=fun r hr=>by
  obtain⟨k,_,h6⟩:=h3 r hr;exact G5 g1 h6
 have vl:∀y∈x.af7,tf y=true/\jy y<=400:=fun y hy=>by
  rw[hl] at hy;rw[zMs.1 hy];exact GZ hL
 have hll:x.af7.length=1:=by rw[hl];rfl
 have c1:pG x=true:=by
  unfold pG;rw[pU hv.1 (by omega),List.all_eq_true.2 fun k hk=>(vk k hk).1,List.all_eq_true.2 fun k hk=>(vr k hk).1,List.all_eq_true.2 fun k hk=>(vl k hk).1];simp;omega
 have c2:¬8192<Ep x:=by
  have b1:=qI (g:=gQ) x.af3 fun k hk=>(vk k hk).2;have b2:=qI (g:=jy) x.af7 fun k hk=>(vl k hk).2;have b3:=qI (g:=kQ) x.af8 fun k hk=>(vr k hk).2;have b4:=ez (n:=x.af6) (by omega) (by omega);unfold Ep;omega
 have c3:dr x=0:=by unfold dr;rw[if_pos c1,if_neg c2]
 have c4:(List.range x.af7.length).all (fun i=>decide (Es x i=0))=true:=by
  rw[hll];have:Es x 0=0:=by unfold Es;rw[if_neg (by simp)]
  simp[List.range_succ,this]
 have c5:((List.range x.af3.length).all fun i:Nat=>decide (yV x i=0)&&(List.range (kd x i).af4.length).all fun j:Nat=>decide (mH x i j=0))=true:=by
  refine List.all_eq_true.2 fun i hi=>?_;have hi:=List.mem_range.1 hi;rw[Sl h hi];simp only[decide_true,Bool.true_and];refine List.all_eq_true.2 fun j hj=>?_;rw[OZ h hi (List.mem_range.1 hj)];rfl
 have c6:(List.range x.af8.length).all (fun i=>decide (yX x i=0))=true:=by
  refine List.all_eq_true.2 fun i hi=>?_;rw[Sm h (List.mem_range.1 hi)];rfl
 unfold okB;rw[c3,c4,c5,c6];rfl
end Go.Proofs.YtobgljfnfpolkaaGreatDoor.ah
namespace Go.Proofs.YtobgljfnfpolkaaGreatDoor
open Go.RowKit
theorem Tryz.Vl:jt Tryz.prog 83 87 2 16:=gA (z:=.agg #[.int .i64 0,.int .i64 0]) (by kernel_rfl) (by kernel_rfl) rfl (by omega) (by omega)
def nA(k:Nat)(n:Nat):List (Int×Int):=(List.range n).map fun i:Nat=>((k:Int),(i:Int))
theorem G6(k n:Nat):nA k (n+1)=nA k n++[((k:Int),(n:Int))]:=by simp[nA,List.range_succ]
def ji(W:ah.bK):Nat->List (Int×Int)
 |0=>[]
 |k+1=>ji W k++nA k (W.getD k []).length
def jc(W:ah.bK):List (Int×Int):=ji W W.length
theorem vw(W:ah.bK):∀k,k<=W.length->(ji W k).length=ah.total (W.take k)
 |0,_=>rfl
 |k+1,h=>by
  have hk:k<W.length:=by omega
  have:=vw W k (by omega);rw[ji,zLa,this,zTs hk,zGd,zEg hk];simp only[ah.total,nA,List.map_append,List.sum_append,zLm,List.length_range,List.map_cons,List.map_nil,List.sum_cons,List.sum_nil,zOg];omega
theorem rY(W:ah.bK)(k:Nat):ah.total (W.take k)<=ah.total W:=by
 have:ah.total (W.take k++W.drop k)=ah.total (W.take k)+ah.total (W.drop k):=by simp only[ah.total,List.map_append,List.sum_append]
 rw[List.take_append_drop] at this;omega
theorem Kr(W:ah.bK){k:Nat}(h:k<W.length):ji W (k+1)=ji W k++nA k W[k].length:=by
 rw[ji,zGd,zEg h];rfl
theorem Sq(W:ah.bK){k i:Nat}(h:k<W.length)(hi:i<=W[k].length):(ji W k++nA k i).length<=ah.total W:=by
 have h1:=vw W (k+1) (by omega);have h2:=rY W (k+1);rw[Kr W h,zLa] at h1;rw[zLa];have e:∀n,(nA k n).length=n:=fun n=>by simp[nA]
 rw[e] at h1 ⊢;omega
abbrev G7(B:Nat):=cG 2 KV (fun _=>True) B 87
theorem EW(W:ah.bK)(ht:ah.total W<=1000)(v:Value)(S:Nat->Prop)(w:World)(hv:dc S w v W):
  Calls Tryz.prog 39 #[v] w fun e w'=>∃u,e=.returned u/\G7 w.heap.size w' u (jc W)/\BL w w':=by
 obtain⟨a,cap,rfl,hs,hc,hm⟩:=hv.form;have HV:=hid (dc.mono (S':=(·<w.heap.size)) hv (fun b hb _=>hb));have HT:=hid ht;clear hv ht;go_enter Tryz.func39,Tryz.ntmps39;go_upto_region 3 with fail
 go_loopw [3,4] (fun l kk wr=>∃(k:Nat) (xs:List (Int×Int)) (am:Option Addr) (cm:Nat),k<=W.length/\l=.slice am xs.length cm/\kk=.int .i64 (k:Int)/\Hid (xs=ji W k)/\Hid (G7 w.heap.size wr (.slice am xs.length cm) xs)/\Hid (BL w wr))
  (fun _ kk _=>W.length-(intOf kk).toNat)
 case atStart=>exact⟨0,[],none,0,by omega,rfl,rfl,hid rfl,hid (cG.nil _ _ _ _ _ _),hid aj⟩
 case round=>
  obtain⟨k,xs,am,cm,hk,rfl,rfl,HX,HO,HB⟩:=hrel;obtain⟨wo,rfl⟩:=nmE (wr:World);by_cases hlt:k<W.length
  ·have hk1:(k:Int)<W.length:=by omega
   have hk0:(0:Int)<=k:=by omega
   obtain⟨u,hu,hku,hr⟩:=(HV.out.keep (aA.aM HB.out (fun b hb=>hb))).at hlt;obtain⟨b,cb,rfl,hbs,hbc,hbm⟩:=hr.form;have HU:=hid hu;have HN:Hid (∀i,i<=W[k].length->(ji W k++nA k i).length<=1000):=hid fun i hi=>Nat.le_trans (Sq W hlt hi) HT.out;obtain⟨n,hn⟩:=nmE (W[k].length);rw[<-hn] at HU HN hu hbc hbs;have HNN:=hid hn;clear hr hn;obtain⟨ys,hys⟩:=nmE (ji W k);go_wp2;clear hu
   go_loopw [3,5] (fun l ii w3=>∃(i:Nat) (zs:List (Int×Int)) (a2:Option Addr) (c2:Nat),i<=n/\l=.slice a2 zs.length c2/\ii=.int .i64 (i:Int)/\Hid (zs=ji W k++nA k i)/\Hid (G7 w.heap.size w3 (.slice a2 zs.length c2) zs)/\Hid (BL w w3)/\Hid (w3.cell? ⟨aY a,bC a+k,none⟩=some (.slice b n cb)))
    (fun _ ii _=>n-(intOf ii).toNat)
   case atStart=>exact⟨0,xs,am,cm,by omega,rfl,rfl,hid (by rw[HX.out];simp[nA]),HO,HB,HU⟩
   case round=>
    obtain⟨i,zs,a2,c2,hi,rfl,rfl,HZ,zu,bB,A6⟩:=hrel;obtain⟨wi,rfl⟩:=nmE (wr:World);have kL:=A6.out;have hz2:=bB.out.size;by_cases hin:i<n
    ·have hin1:(i:Int)<n:=by omega
     have hzl:zs.length<=1000:=by rw[HZ.out];exact HN.out i hi
     go_wp2_with (at_builtin;go_must (refine cD dx rfl _ _ rfl Tryz.Vl rfl zu.out (us:=[.int .i64 (k:Int),.int .i64 (i:Int)]) rfl rfl rfl ((k:Int),(i:Int)) rfl tH (by omega) (by omega) ?_));intro v' w6 how ht hn;obtain⟨z2,A5⟩:=nmE (zs++[((k:Int),(i:Int))]);rw[<-A5] at how;obtain⟨a',c',rfl, -⟩:=how.form
     have hB6:BL w w6:=bB.out.trans (ht.below hz2 (fun b hb=>by
      have:=(zu.out.lt b hb.symm).1;omega))
     have jC:=hid hB6;have HO6:=hid how
     have hsl:aY a<w.heap.size:=by
      obtain⟨_,_,h9,_⟩:=HV.out.at hlt;exact h9
     have HU6:Hid (w6.cell? ⟨aY a,bC a+k,none⟩=some (.slice b n cb)):=hid ((jC.out.cell (p:=⟨aY a,bC a+k,none⟩) hsl).trans ((bB.out.cell (p:=⟨aY a,bC a+k,none⟩) hsl).symm.trans A6.out));have Rp:Hid (z2=ji W k++nA k (i+1)):=hid (by rw[A5,HZ.out,G6,List.append_assoc]);have qJ:Hid (z2.length=zs.length+1):=hid (by rw[A5];simp);clear how ht hn A5 hB6 kL;go_wp2;go_roundw;case rel=>exact⟨i+1,z2,a',c',by omega,rfl,by go_num,Rp,HO6,jC,HU6⟩
     simp[intOf];omega
    ·have O2:i=n:=by omega
     have HZ2:Hid (zs=ji W (k+1)):=hid (by rw[HZ.out,Kr W hlt,<-HNN.out,O2]);clear O2;go_wp2;go_roundw;case rel=>exact⟨k+1,zs,a2,c2,by omega,rfl,by go_num,HZ2,zu,bB⟩
     simp[intOf];omega
  ·have hkk:k=W.length:=by omega
   have HR:Hid (xs=jc W):=hid (by rw[HX.out,hkk];rfl);go_wp2;go_ret;exact⟨_,rfl,by rw[<-HR.out];exact HO.out,HB.out⟩
end Go.Proofs.YtobgljfnfpolkaaGreatDoor
namespace Go.Proofs.YtobgljfnfpolkaaGreatDoor
namespace Sub
abbrev S:=List (List Bool)
def keeps(s:S)(k i:Nat):Bool:=(s.getD k []).getD i false
def Fit(sh:List Nat)(s:S):Prop:=s.length=sh.length/\∀k,(s.getD k []).length=sh.getD k 0
def le(s t:S):Prop:=∀k i,keeps s k i=true->keeps t k i=true
theorem le.refl(s:S):le s s:=fun _ _ h=>h
theorem le.trans{s t u:S}(h:le s t)(g:le t u):le s u:=fun k i hk=>g k i (h k i hk)
theorem aR{α:Type}{xs:List α}{d:α}{k:Nat}(h:k<xs.length):xs.getD k d=xs[k]:=by
 rw[zGd,zEg h];rfl
theorem gU{α:Type}{xs:List α}{d:α}{k:Nat}(h:xs.length<=k):xs.getD k d=d:=by
 rw[zGd,List.getElem?_eq_none h];rfl
theorem Sr{a b:List Bool}(hl:a.length=b.length)(h:∀i,a.getD i false=b.getD i false):a=b:=by
 refine List.ext_getElem hl fun i h1 h2=>?_;have:=h i;rwa [aR h1,aR h2] at this
theorem ext{sh:List Nat}{s t:S}(hs:Fit sh s)(ht:Fit sh t)(h:∀k i,keeps s k i=keeps t k i):s=t:=by
 refine List.ext_getElem (by rw[hs.1,ht.1]) fun k h1 h2=>?_;have e1:=hs.2 k;have e2:=ht.2 k;have e3:=fun i=>h k i;unfold keeps at e3;rw[aR h1] at e1;rw[aR h2] at e2;rw[aR h1,aR h2] at e3;exact Sr (by omega) e3
theorem le_antisymm{sh:List Nat}{s t:S}(hs:Fit sh s)(ht:Fit sh t)(h:le s t)(g:le t s):s=t:=
 ext hs ht fun k i=>by
  have h1:=h k i;have h2:=g k i;cases e1:keeps s k i<;>cases e2:keeps t k i<;>simp_all
def drop(s:S)(k i:Nat):S:=s.set k ((s.getD k []).set i false)
theorem nC{α:Type}(xs:List α)(k j:Nat)(x d:α):(xs.set k x).getD j d=if k=j/\j<xs.length then x else xs.getD j d:=by
 rw[zGd,List.getElem?_set,zGd];by_cases h:k=j
 ·subst h
  by_cases g:k<xs.length
  ·simp[g]
  ·simp[g]
 ·simp[h]
theorem fK(s:S)(k i k' i':Nat):keeps (drop s k i) k' i'=(keeps s k' i'&& !(decide (k'=k)&&decide (i'=i))):=by
 unfold keeps drop;rw[nC];by_cases h:k=k'/\k'<s.length
 ·rw[if_pos h,nC]
  obtain⟨rfl,h1⟩:=h;by_cases g:i=i'/\i'<(s.getD k []).length
  ·rw[if_pos g]
   simp[g.1]
  ·rw[if_neg g]
   by_cases e:i'=i
   ·subst e
    rw[gU (by omega)];simp
   ·simp[e]
 ·rw[if_neg h]
  by_cases e:k'=k
  ·subst e
   rw[gU (xs:=s) (by omega)];simp
  ·simp[e]
theorem iU{sh:List Nat}{s:S}(h:Fit sh s)(k i:Nat):Fit sh (drop s k i):=by
 refine⟨by unfold drop;rw[List.length_set];exact h.1,fun j=>?_⟩;unfold drop;rw[nC];split
 ·rename_i g
  rw[List.length_set,g.1];exact h.2 j
 ·exact h.2 j
theorem yG(s:S)(k i:Nat):le (drop s k i) s:=fun k' i' h=>by
 rw[fK,zBa] at h;exact h.1
theorem lQ{s:S}{k i:Nat}(h:keeps s k i=true):k<s.length/\i<(s.getD k []).length:=by
 unfold keeps at h;constructor
 ·apply Classical.byContradiction;intro g
  rw[gU (xs:=s) (by omega)] at h;simp at h
 ·apply Classical.byContradiction;intro g
  rw[gU (by omega)] at h;cases h
def tJ(k:Nat)(l:List Bool):List (Nat×Nat):=(List.range l.length).filterMap fun i=>if l.getD i false then some (k,i) else none
def kept(s:S):List (Nat×Nat):=(List.range s.length).flatMap fun k=>tJ k (s.getD k [])
theorem cO{s:S}{k i:Nat}:(k,i)∈kept s↔keeps s k i=true:=by
 unfold kept tJ;simp only[List.mem_flatMap,List.mem_range,List.mem_filterMap];constructor
 ·rintro ⟨k',_,i',_,h⟩
  split at h
  ·rename_i g
   cases h;exact g
  ·cases h
 ·intro h
  have:=lQ h;exact⟨k,this.1,i,this.2,by unfold keeps at h;rw[if_pos h]⟩
theorem G8(k:Nat)(l:List Bool):(tJ k l).Nodup:=by
 unfold tJ;refine List.Pairwise.filterMap _ (fun a a' h b hb b' hb'=>?_) (List.nodup_range (n:=l.length));split at hb
 ·split at hb'
  ·cases hb;cases hb'
   intro e;injection e with _ e2;exact h e2
  ·cases hb'
 ·cases hb
theorem rZ(s:S):(kept s).Nodup:=by
 unfold kept;refine List.pairwise_flatMap.2 ⟨fun k _=>G8 k _,List.nodup_range.imp (fun {k k'} h x hx y hy e=>?_)⟩;subst e;unfold tJ at hx hy;simp only[List.mem_filterMap] at hx hy;obtain⟨i,_,e1⟩:=hx;obtain⟨j,_,e2⟩:=hy;split at e1
 ·split at e2
  ·have e3:=zSi e1
   have e4:=zSi e2;rw[<-e4] at e3;injection e3 with e5 _;exact h e5
  ·cases e2
 ·cases e1
def size(s:S):Nat:=(kept s).length
theorem length_le_of_subset{α:Type}[DecidableEq α]{l m:List α}(h:l.Nodup)(hs:∀x∈l,x∈m):l.length<=m.length:=by
 induction l generalizing m with
 |nil=>simp
 |cons x l ih=>
  have hx:x∈m:=hs x (by simp)
  have hn:=List.nodup_cons.1 h
  have:=ih (m:=m.erase x) hn.2 (fun y hy=>(List.mem_erase_of_ne (by intro e;subst e;exact hn.1 hy)).2 (hs y (by simp[hy])))
  rw[List.length_erase_of_mem hx] at this
  have:0<m.length:=List.length_pos_of_mem hx
  simp only[List.length_cons]
  omega
theorem size_le{s t:S}(h:le s t):size s<=size t:=
 length_le_of_subset (rZ s) fun x hx=>by obtain⟨k,i⟩:=x;exact cO.2 (h k i (cO.1 hx))
theorem tK{s t:S}(h:le s t){k i:Nat}(h1:keeps t k i=true)(h2:keeps s k i=false):size s<size t:=by
 have:((k,i)::kept s).length<=(kept t).length:=length_le_of_subset
  (List.nodup_cons.2 ⟨fun hm=>absurd (cO.1 hm) (by rw[h2];simp),rZ s⟩) fun x hx=>by
   rcases zMc.1 hx with e|hx
   ·rw[e];exact cO.2 h1
   ·obtain⟨a,b⟩:=x;exact cO.2 (h a b (cO.1 hx))
 simp only[List.length_cons] at this;unfold size;omega
theorem ou{sh:List Nat}{s t:S}(hs:Fit sh s)(ht:Fit sh t)(h:le s t)(hne:s≠t):∃k i,keeps t k i=true/\keeps s k i=false:=by
 apply Classical.byContradiction;intro g;refine hne (le_antisymm hs ht h fun k i hk=>?_);cases e:keeps s k i
 ·exact absurd ⟨k,i,hk,e⟩ g
 ·rfl
def Ld(W:S->Nat->Nat->Bool):Prop:=∀s t,le s t->∀k i,W t k i=true->W s k i=true
def valid(W:S->Nat->Nat->Bool)(s:S):Bool:=(kept s).all fun x=> !W s x.1 x.2
theorem fW{W:S->Nat->Nat->Bool}{s:S}:valid W s=true↔∀k i,keeps s k i=true->W s k i=false:=by
 unfold valid;rw[List.all_eq_true];constructor
 ·intro h k i hk
  simpa using h (k,i) (cO.2 hk)
 ·rintro h ⟨k,i⟩ hx
  simpa using h k i (cO.1 hx)
def pass(W:S->Nat->Nat->Bool):List (Nat×Nat)->S->S
 |[],s=>s
 |x::l,s=>pass W l (if W s x.1 x.2 then drop s x.1 x.2 else s)
theorem kE{W:S->Nat->Nat->Bool}{sh:List Nat}:∀(l:List (Nat×Nat)) {s:S},Fit sh s->Fit sh (pass W l s)
 |[],_,h=>h
 |x::l,s,h=>kE l (by split;exact iU h _ _;exact h)
theorem kX{W:S->Nat->Nat->Bool}:∀(l:List (Nat×Nat)) (s:S),le (pass W l s) s
 |[],s=>le.refl s
 |x::l,s=>by
  unfold pass;split
  ·exact(kX l _).trans (yG _ _ _)
  ·exact kX l s
theorem DC{W:S->Nat->Nat->Bool}(hW:Ld W){t:S}(ht:valid W t=true):∀(l:List (Nat×Nat)) {s:S},le t s->le t (pass W l s)
 |[],_,h=>h
 |x::l,s,h=>by
  unfold pass;split
  ·rename_i g
   refine DC hW ht l fun k i hk=>?_;rw[fK,h k i hk];by_cases e:k=x.1/\i=x.2
   ·have h1:=hW t s h x.1 x.2 g
    rw[fW.1 ht x.1 x.2 (by rw[<-e.1,<-e.2];exact hk)] at h1;cases h1
   ·simp only[Bool.true_and,Bool.not_eq_true',Bool.and_eq_false_iff,decide_eq_false_iff_not]
    omega
  ·exact DC hW ht l h
theorem Cn{W:S->Nat->Nat->Bool}{sh:List Nat}:∀(l:List (Nat×Nat)) {s:S},Fit sh s->(∀x∈l,keeps s x.1 x.2=true)->pass W l s=s->∀x∈l,W s x.1 x.2=false
 |[],_,_,_,_=>fun x hx=>by simp at hx
 |x::l,s,hs,hk,h=>by
  unfold pass at h;split at h
  ·have h1:=kX (W:=W) l (drop s x.1 x.2)
   rw[h] at h1;have:=h1 x.1 x.2 (hk x (by simp));rw[fK] at this;simp at this
  ·rename_i g
   intro y hy;rcases zMc.1 hy with rfl|hy
   ·simpa using g
   ·exact Cn l hs (fun z hz=>hk z (by simp[hz])) h y hy
def gM(W:S->Nat->Nat->Bool):Nat->S->S
 |0,s=>s
 |n+1,s=>if pass W (kept s) s=s then s else gM W n (pass W (kept s) s)
def great(W:S->Nat->Nat->Bool)(s:S):S:=gM W (size s) s
theorem zw{W:S->Nat->Nat->Bool}{sh:List Nat}:∀(n:Nat) {s:S},Fit sh s->Fit sh (gM W n s)
 |0,_,h=>h
 |n+1,s,h=>by
  unfold gM;split
  ·exact h
  ·exact zw n (kE _ h)
theorem Co{W:S->Nat->Nat->Bool}:∀(n:Nat) (s:S),le (gM W n s) s
 |0,s=>le.refl s
 |n+1,s=>by
  unfold gM;split
  ·exact le.refl s
  ·exact(Co n _).trans (kX _ _)
theorem Cp{W:S->Nat->Nat->Bool}(hW:Ld W){t:S}(ht:valid W t=true):∀(n:Nat) {s:S},le t s->le t (gM W n s)
 |0,_,h=>h
 |n+1,s,h=>by
  unfold gM;split
  ·exact h
  ·exact Cp hW ht n (DC hW ht _ h)
theorem qK{W:S->Nat->Nat->Bool}{sh:List Nat}{l:List (Nat×Nat)}{s:S}(hs:Fit sh s)(h:pass W l s≠s):size (pass W l s)<size s:=by
 obtain⟨k,i,h1,h2⟩:=ou (kE l hs) hs (kX l s) h;exact tK (kX l s) h1 h2
theorem Cq{s:S}(h:size s=0)(k i:Nat):keeps s k i=false:=by
 cases e:keeps s k i
 ·rfl
 ·have:=cO.2 e
  rw[List.eq_nil_of_length_eq_zero h] at this;simp at this
theorem tL{W:S->Nat->Nat->Bool}{sh:List Nat}:∀(n:Nat) {s:S},Fit sh s->size s<=n->valid W (gM W n s)=true
 |0,s,_,hn=>fW.2 fun k i hk=>by
  unfold gM at hk;rw[Cq (by omega)] at hk;cases hk
 |n+1,s,hs,hn=>by
  unfold gM;split
  ·rename_i h
   exact fW.2 fun k i hk=>Cn _ hs (fun x hx=>by obtain⟨a,b⟩:=x;exact cO.1 hx) h (k,i) (cO.2 hk)
  ·rename_i h
   exact tL n (kE _ hs) (by have:=qK (l:=kept s) (W:=W) hs h;omega)
theorem nD{W:S->Nat->Nat->Bool}{sh:List Nat}{s:S}(h:Fit sh s):Fit sh (great W s):=zw _ h
theorem tM(W:S->Nat->Nat->Bool)(s:S):le (great W s) s:=Co _ s
theorem kF{W:S->Nat->Nat->Bool}{sh:List Nat}{s:S}(h:Fit sh s):valid W (great W s)=true:=tL _ h aB
theorem Cr{W:S->Nat->Nat->Bool}(hW:Ld W){s t:S}(ht:valid W t=true)(h:le t s):le t (great W s):=Cp hW ht _ h
theorem wR{W:S->Nat->Nat->Bool}{sh:List Nat}:∀(n m:Nat) {s:S},Fit sh s->size s<=n->size s<=m->gM W n s=gM W m s
 |0,0,_,_,_,_=>rfl
 |0,m+1,s,hs,hn,_=>by
  have h:kept s=[]:=List.eq_nil_of_length_eq_zero (by unfold size at hn;omega);unfold gM;rw[h];simp[pass]
 |n+1,0,s,hs,_,hm=>by
  have h:kept s=[]:=List.eq_nil_of_length_eq_zero (by unfold size at hm;omega);unfold gM;rw[h];simp[pass]
 |n+1,m+1,s,hs,hn,hm=>by
  unfold gM;split
  ·rfl
  ·rename_i h
   have:=qK (l:=kept s) (W:=W) hs h;exact wR n m (kE _ hs) (by omega) (by omega)
theorem G9{W:S->Nat->Nat->Bool}{sh:List Nat}{s:S}(hs:Fit sh s):great W s=if pass W (kept s) s=s then s else great W (pass W (kept s) s):=by
 unfold great;by_cases h:pass W (kept s) s=s
 ·rw[if_pos h]
  cases e:size s with
  |zero=>rfl
  |succ n=>unfold gM;rw[if_pos h]
 ·rw[if_neg h]
  have:=qK (l:=kept s) (W:=W) hs h;cases e:size s with
  |zero=>omega
  |succ n=>
   rw[gM,if_neg h]
   exact wR _ _ (kE _ hs) (by omega) aB
end Sub
namespace Sub
def without(W:S->Nat->Nat->Bool)(s:S)(k i:Nat):S:=great W (drop s k i)
def gV(W:S->Nat->Nat->Bool)(s:S):List (Nat×Nat)->List S->List S
 |[],out=>out
 |x::l,out=>gV W s l (if without W s x.1 x.2∈out then out else out++[without W s x.1 x.2])
def DE(W:S->Nat->Nat->Bool)(most:Nat):Nat->Nat->List S->List S
 |0,_,out=>out
 |n+1,i,out=>if h:i<out.length/\out.length<=most then DE W most n (i+1) (gV W (out[i]'h.1) (kept (out[i]'h.1)) out) else out
structure Good(W:S->Nat->Nat->Bool)(sh:List Nat)(g:S)(out:List S):Prop where
 fit:∀s∈out,Fit sh s
 valid:∀s∈out,valid W s=true
 nodup:out.Nodup
 has:g∈out
theorem Good.snoc{W:S->Nat->Nat->Bool}{sh:List Nat}{g t:S}{out:List S}(h:Good W sh g out)(h1:Fit sh t)(h2:Sub.valid W t=true)(h3:t∉out):Good W sh g (out++[t]) where
 fit s hs:=by
  rcases List.mem_append.1 hs with hs|hs
  ·exact h.fit s hs
  ·rw[zMs.1 hs];exact h1
 valid s hs:=by
  rcases List.mem_append.1 hs with hs|hs
  ·exact h.valid s hs
  ·rw[zMs.1 hs];exact h2
 nodup:=List.nodup_append.2 ⟨h.nodup,by simp,fun a ha b hb e=>h3 (by rw[<-zMs.1 hb,<-e];exact ha)⟩
 has:=List.mem_append.2 (.inl h.has)
theorem ow{W:S->Nat->Nat->Bool}{sh:List Nat}{g s:S}(hs:Fit sh s):∀(l:List (Nat×Nat)) {out:List S},Good W sh g out->Good W sh g (gV W s l out)
 |[],_,h=>h
 |x::l,out,h=>by
  unfold gV;split
  ·exact ow hs l h
  ·rename_i hn
   exact ow hs l (h.snoc (nD (iU hs _ _)) (kF (iU hs _ _)) hn)
theorem jU{W:S->Nat->Nat->Bool}{s:S}:∀(l:List (Nat×Nat)) (out:List S),∃m,gV W s l out=out++m
 |[],out=>⟨[],by simp[gV]⟩
 |x::l,out=>by
  unfold gV;split
  ·exact jU l out
  ·obtain⟨m,hm⟩:=jU (W:=W) (s:=s) l (out++[without W s x.1 x.2])
   exact⟨without W s x.1 x.2::m,by rw[hm];simp⟩
theorem Ct{W:S->Nat->Nat->Bool}{s:S}:∀(l:List (Nat×Nat)) (out:List S),∀x∈l,without W s x.1 x.2∈gV W s l out
 |[],_=>fun x hx=>by simp at hx
 |y::l,out=>fun x hx=>by
  unfold gV;rcases zMc.1 hx with rfl|hx
  ·obtain⟨m,hm⟩:=jU (W:=W) (s:=s) l (if without W s x.1 x.2∈out then out else out++[without W s x.1 x.2])
   rw[hm];refine List.mem_append.2 (.inl ?_);split
   ·assumption
   ·simp
  ·exact Ct l _ x hx
def Done(W:S->Nat->Nat->Bool)(out:List S)(i:Nat):Prop:=∀j (h:j<out.length),j<i->∀x∈kept out[j],without W out[j] x.1 x.2∈out
theorem Cu{W:S->Nat->Nat->Bool}{out:List S}{i:Nat}(h:Done W out i)(hi:i<out.length):Done W (gV W out[i] (kept out[i]) out) (i+1):=by
 obtain⟨m,hm⟩:=jU (W:=W) (s:=out[i]) (kept out[i]) out;intro j hj hji x hx;have hjo:j<out.length:=by omega
 have e:(gV W out[i] (kept out[i]) out)[j]=out[j]:=by
  simp only[hm];rw[zAl hjo]
 rw[e] at hx ⊢;by_cases g:j=i
 ·subst g
  exact Ct _ _ x hx
 ·rw[hm]
  exact List.mem_append.2 (.inl (h j hjo (by omega) x hx))
theorem EX{W:S->Nat->Nat->Bool}(hW:Ld W){sh:List Nat}{g:S}{out:List S}(h:Good W sh g out)(hg:∀t,Fit sh t->Sub.valid W t=true->le t g)(hd:Done W out out.length):
  ∀t,Fit sh t->Sub.valid W t=true->t∈out:=by
 intro t ht hv
 have key:∀n,∀s∈out,le t s->size s<=n->t∈out:=by
  intro n;induction n with
  |zero=>
   intro s hs hl hn
   have:t=s:=le_antisymm ht (h.fit s hs) hl (fun k i hk=>by rw[Cq (by omega)] at hk;cases hk)
   rw[this];exact hs
  |succ n ih=>
   intro s hs hl hn
   by_cases e:t=s
   ·rw[e];exact hs
   ·obtain⟨k,i,h1,h2⟩:=ou ht (h.fit s hs) hl e
    obtain⟨j,hj,hjs⟩:=zMg.1 hs;have hm:=hd j hj hj (k,i) (by rw[hjs];exact cO.2 h1);rw[hjs] at hm;refine ih _ hm (Cr hW hv fun k' i' hk=>?_) ?_
    ·rw[fK,hl k' i' hk]
     by_cases e2:k'=k/\i'=i
     ·rw[e2.1,e2.2,h2] at hk;cases hk
     ·simp only[Bool.true_and,Bool.not_eq_true',Bool.and_eq_false_iff,decide_eq_false_iff_not]
      omega
    ·have h3:size (without W s k i)<size s:=tK ((tM _ _).trans (yG _ _ _)) h1 (by
      cases e3:keeps (great W (drop s k i)) k i
      ·exact e3
      ·have:=tM W (drop s k i) k i e3
       rw[fK] at this;simp at this)
     show size (without W s k i)<=n
     omega
 exact key (size g) g h.has (hg t ht hv) aB
theorem Cv{W:S->Nat->Nat->Bool}{sh:List Nat}{g:S}{most:Nat}:∀(n i:Nat) {out:List S},Good W sh g out->Good W sh g (DE W most n i out)
 |0,_,_,h=>h
 |n+1,i,out,h=>by
  unfold DE;split
  ·rename_i hh
   exact Cv n (i+1) (ow (h.fit _ (zGm hh.1)) _ h)
  ·exact h
theorem Cw{W:S->Nat->Nat->Bool}{sh:List Nat}{g:S}{most N:Nat}(hN:∀out,Good W sh g out->out.length<=N):∀(n i:Nat) {out:List S},Good W sh g out->Done W out i->i<=out.length->N<=n+i->
  most<(DE W most n i out).length\/Done W (DE W most n i out) (DE W most n i out).length
 |0,i,out,h,hd,hi,hn=>by
  unfold DE;have:=hN out h;have:i=out.length:=by omega
  subst this;exact .inr hd
 |n+1,i,out,h,hd,hi,hn=>by
  unfold DE;split
  ·rename_i hh
   obtain⟨m,hm⟩:=jU (W:=W) (s:=out[i]) (kept out[i]) out;exact Cw hN n (i+1) (ow (h.fit _ (zGm hh.1)) _ h) (Cu hd hh.1) (by rw[hm,zLa];omega) (by omega)
  ·rename_i hh
   by_cases g1:i<out.length
   ·exact .inl (by omega)
   ·have:i=out.length:=by omega
    subst this;exact .inr hd
def places(sh:List Nat):List (Nat×Nat):=(List.range sh.length).flatMap fun k=>(List.range (sh.getD k 0)).map fun i=>(k,i)
theorem He{sh:List Nat}{k i:Nat}:(k,i)∈places sh↔k<sh.length/\i<sh.getD k 0:=by
 unfold places;simp only[List.mem_flatMap,List.mem_range,List.mem_map];constructor
 ·rintro ⟨k',h1,i',h2,h3⟩
  injection h3 with e1 e2;subst e1;subst e2;exact⟨h1,h2⟩
 ·rintro ⟨h1,h2⟩
  exact⟨k,h1,i,h2,rfl⟩
def iB(s t:S):List (Nat×Nat)->Bool
 |[]=>false
 |x::l=>if keeps s x.1 x.2=keeps t x.1 x.2 then iB s t l else keeps s x.1 x.2
theorem rJ(s:S):∀l,iB s s l=false
 |[]=>rfl
 |x::l=>by unfold iB;rw[if_pos rfl];exact rJ s l
theorem tN{s t u:S}:∀l,iB s t l=true->iB t u l=true->iB s u l=true
 |[],h,_=>by cases h
 |x::l,h,g=>by
  unfold iB at h g ⊢;cases a:keeps s x.1 x.2<;>cases b:keeps t x.1 x.2<;>cases c:keeps u x.1 x.2<;>simp[a,b,c] at h g ⊢;all_goals exact tN l h g
theorem tO(s t:S):∀l,(∀x∈l,keeps s x.1 x.2=keeps t x.1 x.2)\/iB s t l=true\/iB t s l=true
 |[]=>.inl (by simp)
 |x::l=>by
  unfold iB;by_cases h:keeps s x.1 x.2=keeps t x.1 x.2
  ·rw[if_pos h,if_pos h.symm]
   rcases tO s t l with g|g|g
   ·exact .inl fun y hy=>by
     rcases zMc.1 hy with rfl|hy
     ·exact h
     ·exact g y hy
   ·exact .inr (.inl g)
   ·exact .inr (.inr g)
  ·rw[if_neg h,if_neg (fun e=>h e.symm)]
   cases a:keeps s x.1 x.2<;>cases b:keeps t x.1 x.2<;>simp_all
def less(sh:List Nat)(s t:S):Bool:=decide (size s<size t)||(decide (size s=size t)&&iB s t (places sh))
theorem nE{sh:List Nat}{s t:S}:less sh s t=true↔size s<size t\/(size s=size t/\iB s t (places sh)=true):=by simp[less]
theorem kG(sh:List Nat)(s:S):less sh s s=false:=by
 cases h:less sh s s
 ·rfl
 ·rw[nE,rJ] at h
  rcases h with h|h
  ·omega
  ·cases h.2
theorem ox{sh:List Nat}{s t u:S}(h:less sh s t=true)(g:less sh t u=true):less sh s u=true:=by
 rw[nE] at h g ⊢;rcases h with h|⟨h,h2⟩<;>rcases g with g|⟨g,g2⟩
 ·exact .inl (by omega)
 ·exact .inl (by omega)
 ·exact .inl (by omega)
 ·exact .inr ⟨by omega,tN _ h2 g2⟩
theorem zx{sh:List Nat}{s t:S}(h:less sh s t=true):less sh t s=false:=by
 cases g:less sh t s
 ·rfl
 ·have:=ox h g
  rw[kG] at this;cases this
theorem oy{sh:List Nat}{s t:S}(hs:Fit sh s)(ht:Fit sh t):s=t\/less sh s t=true\/less sh t s=true:=by
 rw[nE,nE];rcases tO s t (places sh) with h|h|h
 ·refine .inl (ext hs ht fun k i=>?_)
  by_cases g:k<sh.length/\i<sh.getD k 0
  ·exact h (k,i) (He.2 g)
  ·have e1:∀u:S,Fit sh u->keeps u k i=false:=fun u hu=>by
    cases e:keeps u k i
    ·rfl
    ·have:=lQ e
     rw[hu.2,hu.1] at this;exact absurd this g
   rw[e1 s hs,e1 t ht]
 ·rcases Nat.lt_trichotomy (size s) (size t) with g|g|g
  ·exact .inr (.inl (.inl g))
  ·exact .inr (.inl (.inr ⟨g,h⟩))
  ·exact .inr (.inr (.inl g))
 ·rcases Nat.lt_trichotomy (size s) (size t) with g|g|g
  ·exact .inr (.inl (.inl g))
  ·exact .inr (.inr (.inr ⟨g.symm,h⟩))
  ·exact .inr (.inr (.inl g))
def Sorted(sh:List Nat)(l:List S):Prop:=l.Pairwise fun s t=>less sh s t=true
theorem DF{sh:List Nat}{l:List S}(h:Sorted sh l):l.Nodup:=h.imp (fun {a b} hab e=>by rw[e,kG] at hab;cases hab)
theorem Cx{sh:List Nat}:∀(l m:List S),Sorted sh l->Sorted sh m->(∀s,s∈l↔s∈m)->l=m
 |[],[],_,_,_=>rfl
 |[],y::m,_,_,h=>by have:=(h y).2 (by simp);simp at this
 |x::l,[],_,_,h=>by have:=(h x).1 (by simp);simp at this
 |x::l,y::m,hl,hm,h=>by
  have hl':=List.pairwise_cons.1 hl;have hm':=List.pairwise_cons.1 hm
  have e:x=y:=by
   rcases zMc.1 ((h x).1 (by simp)) with e|e
   ·exact e
   ·rcases zMc.1 ((h y).2 (by simp)) with e'|e'
    ·exact e'.symm
    ·have h1:=hm'.1 x e
     have h2:=hl'.1 y e';rw[zx h1] at h2;cases h2
  subst e;congr 1;refine Cx l m hl'.2 hm'.2 fun s=>⟨fun hs=>?_,fun hs=>?_⟩
  ·rcases zMc.1 ((h s).1 (by simp[hs])) with e|e
   ·subst e
    have:=hl'.1 s hs;rw[kG] at this;cases this
   ·exact e
  ·rcases zMc.1 ((h s).2 (by simp[hs])) with e|e
   ·subst e
    have:=hm'.1 s hs;rw[kG] at this;cases this
   ·exact e
end Sub
end Go.Proofs.YtobgljfnfpolkaaGreatDoor
namespace Go.Proofs.YtobgljfnfpolkaaGreatDoor
open Go.RowKit
abbrev iN(S:Nat->Prop):=eX (fun _ u (x:Bool)=>u=.bool x) S
abbrev aP(S:Nat->Prop):=eX (iN S) S
theorem iN.keep{S w w' v xs}(h:iN S w v xs)(hk:aA S w w'):iN S w' v xs:=eX.keep h hk fun _ _ h=>h
theorem iN.mono{S S' w v xs}(h:iN S w v xs)(hS:∀b,b<w.heap.size->S b->S' b):iN S' w v xs:=eX.mono h hS fun _ _ h=>h
theorem aP.keep{S w w' v xs}(h:aP S w v xs)(hk:aA S w w'):aP S w' v xs:=eX.keep h hk fun _ _ h=>iN.keep h hk
theorem aP.mono{S S' w v xs}(h:aP S w v xs)(hS:∀b,b<w.heap.size->S b->S' b):aP S' w v xs:=eX.mono h hS fun _ _ h=>iN.mono h hS
theorem yH{α:Type}{l:List α}{k:Nat}{d:α}(h:k<l.length):l.getD k d=l[k]:=by
 rw[zGd,zEg h,zOg]
theorem nF{α:Type}{l:List α}{k:Nat}{d:α}(h:¬k<l.length):l.getD k d=d:=by
 rw[zGd,List.getElem?_eq_none (by omega),Option.getD_none]
theorem O4{s:Sub.S}{k i:Nat}(hk:k<s.length)(hi:i<s[k].length):Sub.keeps s k i=s[k][i]:=by
 unfold Sub.keeps;rw[yH hk,yH hi]
theorem lQ{s:Sub.S}{k i:Nat}(h:Sub.keeps s k i=true):∃hk:k<s.length,i<s[k].length:=by
 unfold Sub.keeps at h;by_cases hk:k<s.length
 ·rw[yH hk] at h
  refine⟨hk,?_⟩;by_cases hi:i<s[k].length
  ·exact hi
  ·rw[nF hi] at h
   exact absurd h (by simp)
 ·rw[nF (l:=s) hk,nF (by simp)] at h
  exact absurd h (by simp)
theorem adT(sh:List Nat)(s t:Sub.S)(hs:Sub.Fit sh s)(ht:Sub.Fit sh t)(v u:Value)(S T:Nat->Prop)(w:World)(hv:aP S w v s)(hu:aP T w u t):
  Calls Tryz.prog 37 #[v,u] w fun e w'=>∃z:Bool,e=.returned (.bool z)/\(z=true↔Sub.le s t)/\w=w':=by
 obtain⟨a,cap,rfl,ha,hc,hm⟩:=hv.form;obtain⟨b,cb,rfl,hb,hcb,hmb⟩:=hu.form;have HS:=hid hs;have HT:=hid ht;have hst:s.length=t.length:=by rw[hs.1,ht.1]
 obtain⟨n,hn⟩:=nmE s.length;have hnt:n=t.length:=hn.trans hst;rw[<-hn] at hv ha hc ⊢;rw[<-hnt] at hu hb hcb ⊢;have HV:=hid hv;have HU:=hid hu;have HN:=hid hn;have U0:=hid hnt;clear hv hu hs ht hst hn hnt;go_enter Tryz.func37,Tryz.ntmps37;go_upto_region 2 with fail;go_loopw [5] (fun kk wr=>∃k:Nat,k<=n/\kk=.int .i64 (k:Int)/\Hid (∀k' i,k'<k->Sub.keeps s k' i=true->Sub.keeps t k' i=true)/\w=wr) (fun kk _=>n-(intOf kk).toNat);case atStart=>exact⟨0,by omega,rfl,hid fun k' i h=>absurd h (by omega),rfl⟩
 case round=>
  obtain⟨k,hk,rfl,HK,rfl⟩:=hrel;by_cases hlt:k<n
  ·have hk0:(0:Int)<=k:=by omega
   have hk1:(k:Int)<n:=by omega
   have hks:k<s.length:=by rw[<-HN.out];exact hlt
   have hkt:k<t.length:=by rw[<-U0.out];exact hlt
   obtain⟨u1,hu1, -,hr1⟩:=HV.out.at hks;obtain⟨u2,kL, -,xR⟩:=HU.out.at hkt;obtain⟨a1,c1,rfl,ha1,hc1,hm1⟩:=hr1.form;obtain⟨a2,c2,rfl,ha2,hc2,hm2⟩:=xR.form
   have hl:s[k].length=t[k].length:=by
    have e1:=HS.out.2 k;have e2:=HT.out.2 k;rw[zGd,zEg hks,zOg] at e1;rw[zGd,zEg hkt,zOg] at e2;rw[e1,e2]
   obtain⟨m,hm0⟩:=nmE (s[k].length);have Xb:=hm0.trans hl;rw[<-hm0] at hr1 hu1 ha1 hc1;rw[<-Xb] at xR kL ha2 hc2;have Ks:=hid hr1;have Cy:=hid xR;have HM:=hid hm0;have tF:=hid Xb;clear hr1 xR hm0 Xb hl;go_wp2;go_loopw [6] (fun ii w3=>∃i:Nat,i<=m/\ii=.int .i64 (i:Int)/\Hid (∀i',i'<i->Sub.keeps s k i'=true->Sub.keeps t k i'=true)/\w=w3) (fun ii _=>m-(intOf ii).toNat);case atStart=>exact⟨0,by omega,rfl,hid fun i' h=>absurd h (by omega),rfl⟩
   case round=>
    obtain⟨i,hi,rfl,HI,rfl⟩:=hrel;by_cases hin:i<m
    ·have hi0:(0:Int)<=i:=by omega
     have hi1:(i:Int)<m:=by omega
     have his:i<s[k].length:=by rw[<-HM.out];exact hin
     have hit:i<t[k].length:=by rw[<-tF.out];exact hin
     obtain⟨x1,hx1, -,e1⟩:=Ks.out.at his;obtain⟨x2,hx2, -,e2⟩:=Cy.out.at hit;rw[<-O4 hks his] at e1;rw[<-O4 hkt hit] at e2;generalize hp:Sub.keeps s k i=p at*;generalize hq:Sub.keeps t k i=q at*;subst e1;subst e2;have HP:=hid hp;have HQ:=hid hq;clear hp hq;cases p<;>cases q
     case true.false=>
      go_wp2;go_ret;exact⟨false,rfl,⟨fun h=>absurd h (by simp),fun h=>by have:=h k i HP.out;rw[HQ.out] at this;exact this⟩,rfl⟩
     all_goals
      have HI2:Hid (∀i',i'<i+1->Sub.keeps s k i'=true->Sub.keeps t k i'=true):=hid fun i' h h2=>by
       by_cases e:i'=i
       ·subst e
        first
         |exact HQ.out
         |exact absurd (HP.out.symm.trans h2) (by simp)
       ·exact HI.out i' (by omega) h2
      go_wp2
      go_roundw
      case rel=>exact⟨i+1,by omega,by go_num,HI2,by trivial⟩
      simp[intOf];omega
    ·have O2:i=m:=by omega
     have rG:Hid (∀k' i,k'<k+1->Sub.keeps s k' i=true->Sub.keeps t k' i=true):=hid fun k' j h h2=>by
      by_cases e:k'=k
      ·subst e
       obtain⟨_,h3⟩:=lQ h2;exact HI.out j (by rw[O2,HM.out];exact h3) h2
      ·exact HK.out k' j (by omega) h2
     clear O2;go_wp2;go_roundw;case rel=>exact⟨k+1,by omega,by go_num,rG,by trivial⟩
     simp[intOf];omega
  ·have hkk:k=n:=by omega
   have HL:Sub.le s t:=fun k' i h=>by
    obtain⟨h3,_⟩:=lQ h;exact HK.out k' i (by rw[hkk,HN.out];exact h3) h
   have cU:=hid HL;clear HL;go_wp2;go_ret;exact⟨true,rfl,⟨fun _=>cU.out,fun _=>rfl⟩,rfl⟩
def O5(w W:World):Prop:=∃n,W=w.drewN n
theorem O5.below{w W:World}(h:O5 w W):BL w W:=by
 obtain⟨n,rfl⟩:=h;exact af5 aj n
theorem O5.next{w W:World}(h:O5 w W)(m:Nat):O5 w (W.drewN m):=by
 obtain⟨n,rfl⟩:=h;exact⟨_,World.drewN_drewN ..⟩
theorem tP(s t:Sub.S)(v u:Value)(S T:Nat->Prop)(w:World)(hv:aP S w v s)(hu:aP T w u t):
  Calls Tryz.prog 16 #[v,u] w fun e w'=>∃z:Bool,e=.returned (.bool z)/\(z=true↔s=t)/\O5 w w':=by
 obtain⟨a,cap,rfl,ha,hc,hm⟩:=hv.form;obtain⟨b,cb,rfl,hb,hcb,hmb⟩:=hu.form;have h0:O5 w w:=⟨0,rfl⟩;by_cases hst:s.length=t.length
 ·obtain⟨n,hn⟩:=nmE s.length
  have hnt:n=t.length:=hn.trans hst;rw[<-hn] at hv ha hc ⊢;rw[<-hnt] at hu hb hcb ⊢;have HV:=hid hv;have HU:=hid hu;have HN:=hid hn;have U0:=hid hnt;clear hst hn hnt hv hu;go_enter Tryz.func16,Tryz.ntmps16;go_upto_region 4 with fail;go_loopw [5] (fun kk wr=>∃k:Nat,k<=n/\kk=.int .i64 (k:Int)/\Hid (∀k' (h1:k'<s.length) (h2:k'<t.length),k'<k->s[k']=t[k'])/\Hid (O5 w wr)) (fun kk _=>n-(intOf kk).toNat);case atStart=>exact⟨0,by omega,rfl,hid fun k' _ _ h=>absurd h (by omega),hid h0⟩
  case round=>
   obtain⟨k,hk,rfl,HK,HB⟩:=hrel;obtain⟨wo,rfl⟩:=nmE (wr:World);by_cases hlt:k<n
   ·have hk0:(0:Int)<=k:=by omega
    have hk1:(k:Int)<n:=by omega
    have hks:k<s.length:=by rw[<-HN.out];exact hlt
    have hkt:k<t.length:=by rw[<-U0.out];exact hlt
    obtain⟨u1,hu1,hz1,hr1⟩:=HV.out.at hks;obtain⟨u2,kL,hz2,xR⟩:=HU.out.at hkt;obtain⟨a1,c1,rfl,ha1,hc1,hm1⟩:=hr1.form;obtain⟨a2,c2,rfl,ha2,hc2,hm2⟩:=xR.form;have Ss:Hid (∀W,O5 w W->W.cell? ⟨aY a,bC a+k,none⟩=some (.slice a1 s[k].length c1)):=hid fun W h=>(h.below.cell (p:=⟨aY a,bC a+k,none⟩) hz1).trans hu1;have A6:Hid (∀W,O5 w W->W.cell? ⟨aY b,bC b+k,none⟩=some (.slice a2 t[k].length c2)):=hid fun W h=>(h.below.cell (p:=⟨aY b,bC b+k,none⟩) hz2).trans kL;clear hu1 kL;by_cases hl:s[k].length=t[k].length
    ·obtain⟨m,hm0⟩:=nmE (s[k].length)
     have Xb:=hm0.trans hl;rw[<-hm0] at hr1 Ss ha1 hc1;rw[<-Xb] at xR A6 ha2 hc2;have Ks:=hid hr1;have Cy:=hid xR;have HM:=hid hm0;have tF:=hid Xb;clear hr1 xR hm0 Xb hl;have y1:=Ss.out wo HB.out;have y2:=A6.out wo HB.out;go_wp2;go_quiet (fail);have bB:=hid (HB.out.next nq);generalize wo.drewN nq=wp at*;clear y1 y2;go_wp2;go_loopw [6] (fun ii w3=>∃i:Nat,i<=m/\ii=.int .i64 (i:Int)/\Hid (∀i' (h1:i'<s[k].length) (h2:i'<t[k].length),i'<i->s[k][i']=t[k][i'])/\Hid (O5 w w3)) (fun ii _=>m-(intOf ii).toNat);case atStart=>exact⟨0,by omega,rfl,hid fun i' _ _ h=>absurd h (by omega),bB⟩
     case round=>
      obtain⟨i,hi,rfl,HI,bG⟩:=hrel;obtain⟨wi,rfl⟩:=nmE (wr:World);have y1:=Ss.out wi bG.out;have y2:=A6.out wi bG.out;by_cases hin:i<m
      ·have hi0:(0:Int)<=i:=by omega
       have hi1:(i:Int)<m:=by omega
       have his:i<s[k].length:=by rw[<-HM.out];exact hin
       have hit:i<t[k].length:=by rw[<-tF.out];exact hin
       obtain⟨x1,hx1,hq1,e1⟩:=Ks.out.at his;obtain⟨x2,hx2,xY,e2⟩:=Cy.out.at hit;have hx1:=(bG.out.below.cell (p:=⟨aY a1,bC a1+i,none⟩) hq1).trans hx1;have hx2:=(bG.out.below.cell (p:=⟨aY a2,bC a2+i,none⟩) xY).trans hx2;generalize hp:s[k][i]=p at*;generalize hq:t[k][i]=q at*;subst e1;subst e2;have HP:=hid hp;have HQ:=hid hq;clear hp hq;by_cases hpq:p=q
       ·have HI2:Hid (∀i' (h1:i'<s[k].length) (h2:i'<t[k].length),i'<i+1->s[k][i']=t[k][i']):=hid fun i' h1 h2 h=>by
         by_cases e:i'=i
         ·subst e;rw[HP.out,HQ.out];exact hpq
         ·exact HI.out i' h1 h2 (by omega)
        subst hpq;clear HP HQ;go_wp2;go_quiet (fail);have dO:=hid (bG.out.next nq);go_wp2;go_roundw;case rel=>exact⟨i+1,by omega,by go_num,HI2,dO⟩
        simp[intOf];omega
       ·have Oz:Hid (¬s=t):=hid fun e=>by
         subst e
         exact hpq (HP.out.symm.trans HQ.out)
        have hpq2:(p==q)=false:=by simpa using hpq
        clear HP HQ;go_wp2;go_quiet (fail);have dO:=hid (bG.out.next nq);go_wp2;go_ret;exact⟨false,rfl,⟨fun h=>absurd h (by simp),fun h=>absurd h Oz.out⟩,dO.out⟩
      ·have rG:Hid (∀k' (h1:k'<s.length) (h2:k'<t.length),k'<k+1->s[k']=t[k']):=hid fun k' h1 h2 h=>by
        by_cases e:k'=k
        ·subst e
         refine List.ext_getElem (by rw[<-HM.out,<-tF.out]) fun j j1 j2=>HI.out j j1 j2 (by have:=HM.out;omega)
        ·exact HK.out k' h1 h2 (by omega)
       go_wp2;go_roundw;case rel=>exact⟨k+1,by omega,by go_num,rG,bG⟩
       simp[intOf];omega
    ·have Oz:Hid (¬s=t):=hid fun e=>by subst e;exact hl rfl
     have y1:=Ss.out wo HB.out;have y2:=A6.out wo HB.out;generalize s[k].length=m1 at*;generalize t[k].length=m2 at*;have hl2:¬(m1:Int)=m2:=by omega
     clear hr1 xR;go_wp2;go_quiet (fail);have dO:=hid (HB.out.next nq);go_wp2;go_ret;exact⟨false,rfl,⟨fun h=>absurd h (by simp),fun h=>absurd h Oz.out⟩,dO.out⟩
   ·have HE:Hid (s=t):=hid (List.ext_getElem (by rw[<-HN.out,<-U0.out]) fun j j1 j2=>HK.out j j1 j2 (by have:=HN.out;omega))
    go_wp2;go_ret;exact⟨true,rfl,⟨fun _=>HE.out,fun _=>rfl⟩,HB.out⟩
 ·have Oz:Hid (¬s=t):=hid fun e=>by subst e;exact hst rfl
  generalize s.length=n1 at*;generalize t.length=n2 at*;have hl2:¬(n1:Int)=n2:=by omega
  clear hv hu;have H0:=hid h0;clear h0;go_enter Tryz.func16,Tryz.ntmps16;go_wp2;go_ret;exact⟨false,rfl,⟨fun h=>absurd h (by simp),fun h=>absurd h Oz.out⟩,H0.out⟩
theorem Hf{s:Sub.S}{k i:Nat}(h:¬k<s.length):Sub.keeps s k i=false:=by
 unfold Sub.keeps;rw[nF (l:=s) h,nF (by simp)]
theorem Hg{s:Sub.S}{k i:Nat}(hk:k<s.length)(h:¬i<s[k].length):Sub.keeps s k i=false:=by
 unfold Sub.keeps;rw[yH hk,nF h]
theorem Cz(s:Sub.S)(k i:Nat)(v:Value)(S:Nat->Prop)(w:World)(hv:aP S w v s):
  Calls Tryz.prog 40 #[v,.agg #[.int .i64 (k:Int),.int .i64 (i:Int)]] w fun e w'=>e=.returned (.bool (Sub.keeps s k i))/\BL w w':=by
 obtain⟨a,cap,rfl,ha,hc,hm⟩:=hv.form;have HV:=hid hv;obtain⟨n,hn⟩:=nmE s.length;rw[<-hn] at HV ha hc ⊢;have HN:=hid hn;have h0:¬(k:Int)<0:=by omega
 have h1:¬(i:Int)<0:=by omega
 have h2:(0:Int)<=k:=by omega
 have h3:(0:Int)<=i:=by omega
 clear hv hn;obtain⟨w1,hw1⟩:=nmE (w.alloc (.cells #[.int .i64 (k:Int),.int .i64 (i:Int)] 87));have aW:Hid (Below w.heap.size w w1):=hid (by rw[hw1];exact aj.alloc aB _)
 have Vn:Hid (w1.cell? ⟨w.heap.size,0,none⟩=some (.int .i64 (k:Int))/\w1.cell? ⟨w.heap.size,1,none⟩=some (.int .i64 (i:Int))):=hid (by
  have:=heap_alloc_new w (.cells #[.int .i64 (k:Int),.int .i64 (i:Int)] 87)
  rw[<-hw1] at this
  exact⟨(aI this 0).trans rfl,(aI this 1).trans rfl⟩)
 have HW:=hid hw1;clear hw1;obtain⟨c0,c1⟩:=Vn.out;by_cases hk:k<n
 ·have hk1:(k:Int)<n:=by omega
  have hks:k<s.length:=by rw[<-HN.out];exact hk
  obtain⟨u1,hu1,hz1,hr1⟩:=HV.out.at hks;obtain⟨a1,d1,rfl,ha1,hc1,hm1⟩:=hr1.form;have hy1:=(aW.out.cell (p:=⟨aY a,bC a+k,none⟩) hz1).trans hu1;clear hu1;by_cases hi:i<s[k].length
  ·obtain⟨x1,hx1,hq1,e1⟩:=hr1.at hi
   have hx2:=(aW.out.cell (p:=⟨aY a1,bC a1+i,none⟩) hq1).trans hx1;have HK:Hid (Sub.keeps s k i=s[k][i]):=hid (O4 hks hi);clear hx1 hr1;generalize s[k][i]=p at*;subst e1;generalize s[k].length=m at*;have hi1:(i:Int)<m:=by omega
   go_enter Tryz.func40,Tryz.ntmps40;go_upto_region 1 with fail;rw[<-HW.out]
   iterate 2
    go_wp2
    go_quiet (fail)
   go_wp2;go_ret;exact⟨by rw[HK.out];rfl,by first|exact af5 aW.out _|exact af5 (af5 aW.out _) _⟩
  ·have HK:Hid (Sub.keeps s k i=false):=hid (Hg hks hi)
   clear hr1;generalize s[k].length=m at*;have hi1:¬(i:Int)<m:=by omega
   go_enter Tryz.func40,Tryz.ntmps40;go_upto_region 1 with fail;rw[<-HW.out];go_wp2;go_quiet (fail);go_wp2;go_ret;exact⟨by rw[HK.out];rfl,by first|exact af5 aW.out _|exact af5 (af5 aW.out _) _⟩
 ·have HK:Hid (Sub.keeps s k i=false):=hid (Hf (by rw[<-HN.out];exact hk))
  have hk1:¬(k:Int)<n:=by omega
  go_enter Tryz.func40,Tryz.ntmps40;go_upto_region 1 with fail;rw[<-HW.out];go_wp2;go_ret;exact⟨by rw[HK.out];rfl,aW.out⟩
def fZ(S:Nat->Prop)(w:World)(v:Value)(xs:List Bool):Prop:=
 w.ownsRow 0 4 1 v xs.length (xs.map (Value.bool))/\∀b,v.ownBlock=some b->S b
theorem cV:dH (α:=List Bool) fZ:=
 ⟨fun h k=>⟨cC h.1 h.2 k,h.2⟩,fun h k=>⟨h.1,fun b hb=>k b (h.1.lt b hb).2 (h.2 b hb)⟩⟩
theorem fZ.sl{S:Nat->Prop}{w:World}{v:Value}{xs:List Bool}(h:fZ S w v xs):iN S w v xs:=
 jP h.1 h.2 (by simp) (fun j h1 h2=>by simp)
theorem fZ.nil(S:Nat->Prop)(w:World):fZ S w (.slice none 0 0) []:=⟨World.ownsRow_nil _ _ _ _,fun b hb=>by simp[Value.ownBlock] at hb⟩
abbrev gN:=gD fZ 94
theorem bN:dH (α:=List (List Bool)) gN:=py cV _
theorem gN.sl{S:Nat->Prop}{w:World}{v:Value}{xs:List (List Bool)}(h:gN S w v xs):aP S w v xs:=gD.sl (R:=fun S=>iN S) cV (fun h=>fZ.sl h) h
theorem Tryz.aa5:jt Tryz.prog 94 4 1 1:=gA (z:=.bool false) (by kernel_rfl) (by kernel_rfl) rfl (by omega) (by omega)
theorem Tryz.appS:jt Tryz.prog 44 94 1 24:=gA (z:=.slice none 0 0) (by kernel_rfl) (by kernel_rfl) rfl (by omega) (by omega)
section
variable {P:Program} {t e:TypeId} {bytes:Nat} {α:Type} {RR:(Nat->Prop)->World->Value->α->Prop} {w:World} {ops:Array Oper} {rest:List Oper} {o:Oper} {a:Act} {Q:Exit->Act->World->Prop}
theorem wS(hgd:o.guard=none)(s x:Operand)
  (ho:o.op=.call {callee:=.builtin .append,args:=#[s,x],argTypes:=#[t,t]})(hT:jt P t 4 1 bytes)
  {S:Nat->Prop}{w1:World}{v:Value}{xs:List Bool}(hs:a.eval s=v)(hown:fZ S w1 v xs)(hb:BL w1 w)
  {ao:Option Addr}{m c:Nat}(hx:a.eval x=.slice ao m c){T:Nat->Prop}{ys:List Bool}(hy:iN T w (.slice ao m c) ys)
  (hsmall:xs.length+m<=1000000000)
  (h:∀v' w',fZ (Grow S w1.heap.size) w' v' (xs++ys)->Turns (fun b=>some b=v.ownBlock) w w'->wpList P ops Q rest (a.put o.dst v') w'):
  wpList P ops Q (o::rest) a w:=by
 obtain⟨rfl,hok,us,l1,l2,l3⟩:=eX.news hy
 have pE:us=ys.map (Value.bool):=by
  refine List.ext_getElem (by simp[l1]) (fun i g1 g2=>?_);simpa using l3 i g1 (by simpa using g2)
 have hsz:=hb.size;have f2':w.ownsRow 0 4 1 v xs.length (xs.map (Value.bool)):=cC (S:=fun _=>True) hown.1 (fun _ _=>trivial) (aA.below hb);refine gB hgd s x ho hT hs f2' ao ys.length c hx hok us (by simpa using l1) l2 ?_ hsmall (Nat.zero_le _) (fun v' w' g1 g2 g3=>h v' w' ⟨?_,fun b hb'=>?_⟩ (Turns.eT g2 fun b hb'=>hb'.symm))
 ·rw[pE];intro u hu;obtain⟨y,_,rfl⟩:=List.mem_map.1 hu;rfl
 ·rw[zLa,List.map_append,<-pE];exact g1
 ·rcases g3 with g3|g3
  ·rw[g3] at hb';exact .inl ⟨hown.2 b hb',(hown.1.lt b hb').2⟩
  ·rw[g3] at hb';exact .inr (by have:=zSi hb';omega)
end
def iC(W:ah.bK):Sub.S:=W.map fun rows=>List.replicate rows.length true
theorem yc(n:Nat):madeCells (Value.bool false).cells (n*1)=(List.replicate n (Value.bool false)).toArray:=by
 apply Array.ext
 ·simp[madeCells,Value.cells]
 ·intro i h1 h2
  simp[madeCells,Value.cells,Nat.mod_one]
theorem Hh{P:Program}{t e:TypeId}{b:Nat}(ht:P.underlying t=some (.slice e))(hi:(P.info? e).map (fun i=>(i.zero,i.size,i.bytes))=some (some (.bool false),1,b))(hb:b<=1000)
  (n:Nat)(hn:n<=1000000)(w:World):
  (Instr.makeSlice t (.int .i64 (n:Int)) (.int .i64 (n:Int))).run P w=.ok (.slice (some ⟨w.heap.size,0,none⟩) n n) (w.alloc (.cells (List.replicate n (Value.bool false)).toArray e)):=by
 obtain⟨i,h1,h2,h3,h4⟩:=info_parts hi
 have hy:(i.bytes:Int)*(n:Int)<=281474976710656:=by
  have h:i.bytes*n<=1000*1000000:=Nat.mul_le_mul (by omega) hn;have:((i.bytes*n:Nat):Int)<=281474976710656:=by omega
  rwa [Int.natCast_mul] at this
 have hr:=run_make (P:=P) w t e i (.bool false) ht h1 h2 .i64 .i64 (n:Int) (n:Int) (by omega) (by omega) hy (by omega);rw[h3,Int.toNat_natCast,yc] at hr;exact hr
theorem aeh(w:World)(n:Nat)(hn:n<=1000000):fZ (w.heap.size<=·) (w.alloc (.cells (List.replicate n (Value.bool false)).toArray 4)) (.slice (some ⟨w.heap.size,0,none⟩) n n) (List.replicate n false):=by
 refine⟨?_,fun b hb=>by simp[Value.ownBlock] at hb;omega⟩;rw[List.length_replicate,List.map_replicate];refine⟨by simp,.inr ⟨w.heap.size,n,(List.replicate n (Value.bool false)).toArray,rfl,Nat.zero_le _,heap_alloc_new w _,aB,by unfold maxLen;omega,by simp,?_⟩⟩;simp
theorem fZ.set{S:Nat->Prop}{w:World}{g n cap:Nat}{xs:List Bool}(h:fZ S w (.slice (some ⟨g,0,none⟩) n cap) xs)(hn:n=xs.length)(j:Nat)(x:Bool):
  fZ S (w.setCell ⟨g,j,none⟩ (.bool x)) (.slice (some ⟨g,0,none⟩) n cap) (xs.set j x):=by
 subst hn;refine⟨?_,h.2⟩;rw[List.length_set,List.map_set];exact rA h.1 j _
theorem fZ.sW{S:Nat->Prop}{w:World}{v:Value}{xs:List Bool}(h:fZ S w v xs)(h0:0<xs.length):
  ∃g cap,v=.slice (some ⟨g,0,none⟩) xs.length cap/\S g/\g<w.heap.size/\∀j (_:j<xs.length),(∃x,w.cell? ⟨g,j,none⟩=some (.bool x))/\w.frozen? ⟨g,j,none⟩=false:=by
 obtain⟨g,cap,rfl,h1,h2,h3,h4⟩:=iF h.1 h0;refine⟨g,cap,rfl,h.2 g rfl,(h.1.lt g rfl).2,fun j hj=>?_⟩;obtain⟨h5,h6⟩:=h4 j (by simpa using hj);exact⟨⟨xs[j],by simpa using h5⟩,h6⟩
theorem aeG(W:ah.bK)(hl:W.length<=1000)(hw:∀r∈W,r.length<=100000)(v:Value)(T:Nat->Prop)(w:World)(hv:dc T w v W):
  Calls Tryz.prog 43 #[v] w fun e w'=>∃u,e=.returned u/\gN (w.heap.size<=·) w' u (iC W)/\BL w w':=by
 obtain⟨a,cap,rfl,ha,hc,hm⟩:=hv.form;have HV:=hid hv;have HW:=hid hw;clear hv hw;go_enter Tryz.func43,Tryz.ntmps43;go_upto_region 3 with fail;go_loopw [3,4] (fun x i w2=>∃(k:Nat) (fs:Sub.S) (av:Option Addr) (cv:Nat),k<=W.length/\i=.int .i64 (k:Int)/\x=.slice av fs.length cv/\Hid (fs=iC (W.take k))/\Hid (gN (w.heap.size<=·) w2 (.slice av fs.length cv) fs)/\Hid (BL w w2)) (fun _ i _=>W.length-(intOf i).toNat);case atStart=>exact⟨0,[],none,0,by omega,rfl,rfl,hid rfl,hid (gD.nil _ _ _ _),hid aj⟩
 case round=>
  obtain⟨k,fs,av,cv,hk,rfl,rfl,HF,HO,HB⟩:=hrel;obtain⟨wo,rfl⟩:=nmE (wr:World);by_cases hlt:k<W.length
  ·have hk0:(0:Int)<=k:=by omega
   have hk1:(k:Int)<W.length:=by omega
   have hfl:fs.length<=1000:=by rw[HF.out];simp[iC];omega
   obtain⟨u,hu,hz,hr⟩:=(HV.out.keep (aA.below HB.out)).at hlt;obtain⟨b,cb,rfl,hbs,hbc,hbm⟩:=hr.form;have hn:=HW.out _ (zGm hlt)
   have HWk:Hid (iC (W.take (k+1))=iC (W.take k)++[List.replicate W[k].length true]):=hid (by
    rw[zTs hlt];simp only[iC,List.map_append,List.map_cons,List.map_nil])
   clear hr;generalize W[k].length=n at*;have hmk:=fun W=>Hh (P:=Tryz.prog) (t:=94) (e:=4) (b:=1) (by kernel_rfl) (by kernel_rfl) (by omega) n (by omega) W;go_wp2;clear hmk;obtain⟨g,hg⟩:=nmE wo.heap.size;have HI0:Hid (fZ (wo.heap.size<=·) (wo.alloc (.cells (List.replicate n (Value.bool false)).toArray 4)) (.slice (some ⟨g,0,none⟩) n n) (List.replicate n false)):=hid (by rw[hg];exact aeh wo n (by omega));rw[<-hg];have HG:=hid hg;clear hg hu;go_loopw [6] (fun ii w3=>∃(i:Nat) (bs:List Bool),i<=n/\ii=.int .i64 (i:Int)/\Hid (bs.length=n)/\Hid (∀j (h:j<bs.length),j<i->bs[j]=true)/\Hid (fZ (wo.heap.size<=·) w3 (.slice (some ⟨g,0,none⟩) n n) bs)/\Hid (BL wo w3)) (fun ii _=>n-(intOf ii).toNat);case atStart=>exact⟨0,List.replicate n false,by omega,rfl,hid (by simp),hid fun j _ h=>absurd h (by omega),HI0,hid (aj.alloc aB _)⟩
   case round=>
    obtain⟨i,bs,hi,rfl,HL,HT,HI,bB⟩:=hrel;obtain⟨wi,rfl⟩:=nmE (wr:World);by_cases hin:i<n
    ·have hi0:(0:Int)<=i:=by omega
     have hi1:(i:Int)<n:=by omega
     have h1:=HI.out;rw[<-HL.out] at h1;obtain⟨g',c',e1,Gg,hgz,hcf⟩:=fZ.sW h1 (by have:=HL.out;omega);obtain⟨⟨x,hx⟩,hf⟩:=hcf i (by have:=HL.out;omega)
     have hgg:g=g':=by
      simp only[Value.slice.injEq,Option.some.injEq,Addr.mk.injEq] at e1;exact e1.1.1
     subst hgg;clear hcf e1 h1;have HI2:=hid (fZ.set HI.out HL.out.symm i true);have bG:Hid (BL wo (wi.setCell ⟨g,i,none⟩ (.bool true))):=hid ((Turns.below (S:=(·=g)) ((Turns.aM aj).setCell ⟨g,i,none⟩ (.bool true) rfl) bB.out.size (fun b hb=>by rw[hb];exact Gg))|>bB.out.trans)
     have mV:Hid (∀j (h:j<(bs.set i true).length),j<i+1->(bs.set i true)[j]=true):=hid fun j h hj=>by
      rw[List.getElem_set];split
      ·rfl
      ·exact HT.out j (by simpa using h) (by omega)
     have cU:Hid ((bs.set i true).length=n):=hid (by rw[List.length_set];exact HL.out);go_wp2;go_roundw;case rel=>exact⟨i+1,bs.set i true,by omega,by go_num,cU,mV,HI2,bG⟩
     simp[intOf];omega
    ·have O2:¬(i:Int)<n:=by omega
     have HBS:Hid (bs=List.replicate n true):=hid (List.ext_getElem (by rw[HL.out];simp) fun j j1 j2=>by rw[List.getElem_replicate];exact HT.out j j1 (by have:=HL.out;omega));have HI3:Hid (fZ (wo.heap.size<=·) wi (.slice (some ⟨g,0,none⟩) n n) (List.replicate n true)):=hid (by rw[<-HBS.out];exact HI.out);have hb2:=bB.out;go_wp2_with (at_builtin;go_must (refine nV cV rfl _ _ rfl Tryz.appS rfl HO.out hb2 rfl (List.replicate n true) HI3.out rfl (by omega) ?_));intro v2 w3 rK ht3;obtain⟨f2,hf2⟩:=nmE (fs++[List.replicate n true]);rw[<-hf2] at rK;have uU:Hid (f2=iC (W.take (k+1))):=hid (by rw[HWk.out,hf2,HF.out]);have HO4:Hid (gN (w.heap.size<=·) w3 v2 f2):=hid (bN.mono rK (fun b _ hb=>eO HB.out.size b hb));have dO:Hid (BL w w3):=hid ((tnB HB.out hb2).trans (ht3.below (by have:=hb2.size;have:=HB.out.size;omega) (fun b hb=>HO.out.1 b hb.symm)));obtain⟨a2,c2,rfl, -, -, -⟩:=(gN.sl HO4.out).form;clear rK ht3 hf2;go_wp2;go_roundw;case rel=>exact⟨k+1,f2,a2,c2,by omega,by go_num,rfl,uU,HO4,dO⟩
     simp[intOf];omega
  ·have hkk:k=W.length:=by omega
   have HE:Hid (fs=iC W):=hid (by rw[HF.out,hkk,List.take_length]);go_wp2;go_ret;exact⟨_,rfl,by rw[<-HE.out];exact HO.out,HB.out⟩
end Go.Proofs.YtobgljfnfpolkaaGreatDoor
namespace Go.Proofs.YtobgljfnfpolkaaGreatDoor.Vm
open ah (bK bD)
open Go.RowKit (wrap64)
structure Ins where
 op:Int
 a:Int
 b:Int
 c:Int
def CA:Ins:=⟨0,0,0,0⟩
def O6:List (List Int):=[[1,0,0],[2,3,0],[2,2,2],[2,2,2],[2,4,0],[2,4,5],[6,0,0],[2,2,6],[2,2,6]]
def dN(op:Int)(k:Nat):Int:=(O6.getD op.toNat []).getD k 0
def vA(s:Int):Int:=if s=3 then -1048576 else 0
def zy(s n:Int):Int:=if s=1 then 250 else if s=2 then 7 else if s=3 then 1048576 else if s=4 then 5 else if s=5 then 9 else if s=6 then n else 0
def dF(s v n:Int):Bool:=decide (vA s<=v)&&decide (v<=zy s n)
def O7(i:Ins)(k:Nat):Int:=if k=0 then i.a else if k=1 then i.b else i.c
def Xo(i:Ins):Bool:=decide (0<=i.op)&&decide (i.op<9)
def pY(n:Int)(i:Ins):Bool:=Xo i&&dF (dN i.op 0) i.a n&&dF (dN i.op 1) i.b n&&dF (dN i.op 2) i.c n
def dr(p:List Ins):Int:=if 128<p.length then 4 else if p.all (pY p.length)=true then 0 else 1
def gG(x:bD)(i:Ins):Bool:=
 if i.op=4 then decide (i.b<x.af3.length)
 else if i.op=5 then decide (i.b<x.af3.length)&&decide (i.c<(ah.kd x i.b).af4.length)
 else true
def pZ(x:bD)(p:List Ins):Bool:=p.all (gG x)
def kO(W:bK)(k:Int):Nat:=(W.getD k.toNat []).length
def E2(W:bK)(k i f:Int):Int:=((W.getD k.toNat []).getD i.toNat []).getD f.toNat 0
def je(r:List Int)(k:Int):Int:=r.getD k.toNat 0
def iR(r:List Int)(k v:Int):List Int:=r.set k.toNat v
def step(W:bK)(i:Ins)(r:List Int)(n:Nat):Option Int×List Int×Nat:=
 if i.op=0 then (some i.a,r,n)
 else if i.op=1 then (none,iR r i.a i.b,n)
 else if i.op=2 then (none,iR r i.a (wrap64 (je r i.b+je r i.c)),n)
 else if i.op=3 then (none,iR r i.a (wrap64 (je r i.b-je r i.c)),n)
 else if i.op=4 then (none,iR r i.a (kO W i.b),n)
 else if i.op=5 then (if je r i.a<0\/(kO W i.b:Int)<=je r i.a then (some 251,r,n) else (none,iR r i.a (E2 W i.b (je r i.a) i.c),n))
 else if i.op=6 then (none,r,i.a.toNat)
 else if i.op=7 then (none,r,if je r i.a<je r i.b then i.c.toNat else n)
 else (none,r,if je r i.a=je r i.b then i.c.toNat else n)
def oW(W:bK)(p:List Ins):Nat->Nat->List Int->Nat->Int×Int×Int
 |0,at',_,n=>if at'=p.length then (0,(n:Int),0) else (0,0,23)
 |f+1,at',r,n=>
  if at'=p.length then (0,(n:Int),0) else
  match step W (p.getD at' CA) r (at'+1) with
  |(some c,_,_)=>(c,((n+1:Nat):Int),0)
  |(none,r',Le)=>oW W p f Le r' (n+1)
def zA:List Int:=List.replicate 8 0
def jK(x:bD)(W:bK)(p:List Ins)(most:Int):Int×Int×Int:=
 if dr p≠0 then (0,0,dr p) else if most<0\/1000000<most then (0,0,4) else if pZ x p=false then (0,0,12) else oW W p most.toNat 0 zA 0
theorem E3{p:List Ins}(h:dr p=0):p.length<=128/\∀i∈p,pY p.length i=true:=by
 unfold dr at h;split at h
 ·omega
 ·split at h
  ·rename_i h1 h2
   exact⟨by omega,List.all_eq_true.1 h2⟩
  ·omega
structure aa9(n:Nat)(i:Ins):Prop where
 op0:0<=i.op
 op9:i.op<9
 a:∀s,s=dN i.op 0->vA s<=i.a/\i.a<=zy s n
 b:∀s,s=dN i.op 1->vA s<=i.b/\i.b<=zy s n
 c:∀s,s=dN i.op 2->vA s<=i.c/\i.c<=zy s n
theorem abb{n:Nat}{i:Ins}(h:pY n i=true):aa9 n i:=by
 simp only[pY,Xo,dF,zBa,zDt] at h;obtain⟨⟨⟨⟨h1,h2⟩,h3⟩,h4⟩,h5⟩:=h;exact⟨h1,h2,fun s e=>by subst e;exact h3,fun s e=>by subst e;exact h4,fun s e=>by subst e;exact h5⟩
theorem af0{n:Nat}{i:Ins}(h:pY n i=true):
  (i.op=0/\0<=i.a/\i.a<=250)\/(i.op=1/\0<=i.a/\i.a<=7/\ -1048576<=i.b/\i.b<=1048576)\/
  (i.op=2/\0<=i.a/\i.a<=7/\0<=i.b/\i.b<=7/\0<=i.c/\i.c<=7)\/(i.op=3/\0<=i.a/\i.a<=7/\0<=i.b/\i.b<=7/\0<=i.c/\i.c<=7)\/
  (i.op=4/\0<=i.a/\i.a<=7/\0<=i.b/\i.b<=5)\/(i.op=5/\0<=i.a/\i.a<=7/\0<=i.b/\i.b<=5/\0<=i.c/\i.c<=9)\/
  (i.op=6/\0<=i.a/\i.a<=n)\/(i.op=7/\0<=i.a/\i.a<=7/\0<=i.b/\i.b<=7/\0<=i.c/\i.c<=n)\/
  (i.op=8/\0<=i.a/\i.a<=7/\0<=i.b/\i.b<=7/\0<=i.c/\i.c<=n):=by
 have H:=abb h;obtain⟨o0,o9,ha,hb,hc⟩:=H;have:i.op=0\/i.op=1\/i.op=2\/i.op=3\/i.op=4\/i.op=5\/i.op=6\/i.op=7\/i.op=8:=by omega
 rcases this with e|e|e|e|e|e|e|e|e<;>(
  have h1:=ha _ rfl
  have h2:=hb _ rfl
  have h3:=hc _ rfl
  rw[e] at h1 h2 h3
  simp[dN,O6,vA,zy] at h1 h2 h3
  omega)
end Go.Proofs.YtobgljfnfpolkaaGreatDoor.Vm
namespace Go.Proofs.YtobgljfnfpolkaaGreatDoor.aF
open ah (bK bD)
structure Ref where
 kind:Nat
 field:Nat
 up:Int
 least:Int
def p8(x:bD)(k j:Nat):List Ref:=if (ah.fd x k j).kind=1 then [⟨k,j,ah.dB x k j,(ah.fd x k j).lo⟩] else []
def jN(x:bD)(k n:Nat):List Ref:=(List.range n).flatMap (p8 x k)
def oN(x:bD)(n:Nat):List Ref:=(List.range n).flatMap fun k=>jN x k (ah.kd x k).af4.length
def bT(x:bD):List Ref:=oN x x.af3.length
theorem Hl(x:bD)(k:Nat):jN x k 0=[]:=rfl
theorem r8(x:bD)(k n:Nat):jN x k (n+1)=jN x k n++p8 x k n:=by simp[jN,List.range_succ]
theorem zB(x:bD)(n:Nat):oN x (n+1)=oN x n++jN x n (ah.kd x n).af4.length:=by simp[oN,List.range_succ]
theorem CD{x:bD}{k j:Nat}(h:(ah.fd x k j).kind=1):p8 x k j=[⟨k,j,ah.dB x k j,(ah.fd x k j).lo⟩]:=if_pos h
theorem O8{x:bD}{k j:Nat}(h:¬(ah.fd x k j).kind=1):p8 x k j=[]:=if_neg h
def mq(W:bK)(k i j:Nat):Int:=((W.getD k []).getD i []).getD j 0
def p9(W:bK)(s:Sub.S)(r:Ref)(i:Int)(n:Nat):Nat:=((List.range n).filter fun a=>Sub.keeps s r.kind a&&decide (mq W r.kind a r.field=i)).length
def CF(W:bK)(s:Sub.S)(r:Ref)(i:Int):Nat:=p9 W s r i (W.getD r.kind []).length
def vC(W:bK)(s:Sub.S)(k i:Nat)(r:Ref):Bool:=
 (decide (r.kind=k)&& !Sub.keeps s r.up.toNat (mq W k i r.field).toNat)||(decide (r.up=k)&&decide ((CF W s r i:Int)<r.least))
def wrong(rs:List Ref)(W:bK)(s:Sub.S)(k i:Nat):Bool:=rs.any (vC W s k i)
theorem rL{α:Type}{p q:α->Bool}(h:∀a,p a=true->q a=true):∀l:List α,(l.filter p).length<=(l.filter q).length
 |[]=>aB
 |a::l=>by
  have ih:=rL h l;by_cases hp:p a=true
  ·rw[List.filter_cons_of_pos hp,List.filter_cons_of_pos (h a hp)]
   simpa using ih
  ·rw[List.filter_cons_of_neg hp]
   by_cases hq:q a=true
   ·rw[List.filter_cons_of_pos hq];simp;omega
   ·rw[List.filter_cons_of_neg hq];exact ih
theorem O9{W:bK}{s t:Sub.S}(h:Sub.le s t)(r:Ref)(i:Int):CF W s r i<=CF W t r i:=by
 refine rL (fun a ha=>?_) _;rw[zBa] at ha ⊢;exact⟨h _ _ ha.1,ha.2⟩
theorem r9(rs:List Ref)(W:bK):Sub.Ld (wrong rs W):=by
 intro s t h k i hw;unfold wrong at hw ⊢;rw[List.any_eq_true] at hw ⊢;obtain⟨r,hr,hb⟩:=hw;refine⟨r,hr,?_⟩;unfold vC at hb ⊢;rw[Bool.or_eq_true,zBa,zBa,zDt,zDt,zDt] at hb ⊢;rcases hb with⟨h1,h2⟩|⟨h1,h2⟩
 ·refine .inl ⟨h1,?_⟩
  cases e:Sub.keeps s r.up.toNat (mq W k i r.field).toNat
  ·rfl
  ·rw[h _ _ e] at h2;cases h2
 ·refine .inr ⟨h1,?_⟩
  have:=O9 (W:=W) h r i;omega
def dF(x:bD)(W:bK):Bool:=
 decide (W.length=x.af3.length)&&(List.range W.length).all (fun k=>(W.getD k []).all fun r=>decide (r.length=(ah.kd x k).af4.length))&&
 (bT x).all (fun r=>(W.getD r.kind []).all fun l=>decide (0<=l.getD r.field 0)&&decide (l.getD r.field 0<ah.eV W r.up))&&decide (ah.total W<=512)
def oz(W:bK)(s:Sub.S):Bool:=decide (W.map List.length=s.map List.length)
def shape(W:bK):List Nat:=W.map List.length
theorem Ho{W:bK}{s:Sub.S}(h:oz W s=true):Sub.Fit (shape W) s:=by
 have h:=of_decide_eq_true h;refine⟨by simpa [shape] using (congrArg List.length h).symm,fun k=>?_⟩;have hk:=congrArg (fun l=>l.getD k 0) h;simp only[zGd,List.getElem?_map,shape] at hk ⊢;rw[hk];cases s[k]?<;>rfl
theorem zC{W:bK}{s:Sub.S}(h:Sub.Fit (shape W) s):oz W s=true:=by
 refine decide_eq_true (List.ext_getElem (by simpa [shape] using h.1.symm) fun k h1 h2=>?_);have hk:=h.2 k;simp only[zLm] at h1 h2;simp only[zGd,List.getElem?_map,shape,zEg h1,zEg h2,zOg,Option.map_some] at hk;rw[List.getElem_map,List.getElem_map];exact hk.symm
def jD(x:bD)(W:bK)(s:Sub.S):Int:=if ah.okB x=true then (if dF x W=true then (if oz W s=true then 0 else 1) else 2) else 1
structure xo(x:bD)(W:bK):Prop where
 af3:x.af3.length<=6
 af4:∀k:Nat,(ah.kd x k).af4.length<=10
 refs:∀r∈bT x,r.kind<x.af3.length/\r.field<(ah.kd x r.kind).af4.length/\0<=r.up/\r.up<r.kind/\0<=r.least/\r.least<=65536/\(ah.fd x r.kind r.field).kind=1/\r.up=ah.dB x r.kind r.field
 len:W.length=x.af3.length
 jc:∀k (h:k<W.length),∀r∈W[k],r.length=(ah.kd x k).af4.length
 lead:∀r∈bT x,∀i (h:r.kind<W.length) (_hi:i<W[r.kind].length),0<=mq W r.kind i r.field/\mq W r.kind i r.field<ah.eV W r.up
 tot:ah.total W<=512
theorem vD{x:bD}{r:Ref}(h:r∈bT x):r.kind<x.af3.length/\r.field<(ah.kd x r.kind).af4.length/\(ah.fd x r.kind r.field).kind=1/\r.up=ah.dB x r.kind r.field/\r.least=(ah.fd x r.kind r.field).lo:=by
 unfold bT oN at h;rw[List.mem_flatMap] at h;obtain⟨k,hk,h⟩:=h;unfold jN at h;rw[List.mem_flatMap] at h;obtain⟨j,hj,h⟩:=h;rw[List.mem_range] at hk hj;unfold p8 at h;split at h
 ·rename_i h1
  rw[zMs] at h;subst h;exact⟨hk,hj,h1,rfl,rfl⟩
 ·simp at h
theorem zD{x:bD}{k j:Nat}(hk:k<x.af3.length)(hj:j<(ah.kd x k).af4.length)(h1:(ah.fd x k j).kind=1):(⟨k,j,ah.dB x k j,(ah.fd x k j).lo⟩:Ref)∈bT x:=by
 unfold bT oN;refine List.mem_flatMap.2 ⟨k,List.mem_range.2 hk,?_⟩;unfold jN;refine List.mem_flatMap.2 ⟨j,List.mem_range.2 hj,?_⟩;rw[CD h1];simp
theorem qL{x:bD}(h:ah.okB x=true):ah.dr x=0/\(∀i,i<x.af3.length->ah.yV x i=0/\∀j,j<(ah.kd x i).af4.length->ah.mH x i j=0):=by
 unfold ah.okB at h;simp only[zBa,zDt,List.all_eq_true,List.mem_range] at h;exact⟨h.1.1.1,fun i hi=>⟨(h.1.2 i hi).1,fun j hj=>(h.1.2 i hi).2 j hj⟩⟩
theorem qd{x:bD}(h:ah.dr x=0):x.af3.length<=6/\x.af7.length<=6/\x.af8.length<=16/\∀k∈x.af3,ah.oK k=true:=by
 unfold ah.dr at h;split at h
 ·rename_i hv
  unfold ah.pG at hv;simp only[zBa,zDt,List.all_eq_true] at hv;exact⟨hv.1.1.1.1.1.2,hv.1.1.1.1.2,hv.1.1.1.2,hv.1.1.2⟩
 ·omega
theorem Pa{x:bD}{k:Nat}(h:k<x.af3.length):ah.kd x k∈x.af3:=by
 unfold ah.kd;rw[Int.toNat_natCast,zGd,zEg h];exact zGm h
theorem Xp{x:bD}{k:Nat}(h:¬k<x.af3.length):ah.kd x k=ah.Er:=by
 unfold ah.kd;rw[Int.toNat_natCast,zGd,List.getElem?_eq_none (by omega)];rfl
theorem Xq{x:bD}{k j:Nat}(h:j<(ah.kd x k).af4.length):ah.fd x k j∈(ah.kd x k).af4:=by
 unfold ah.fd;rw[Int.toNat_natCast,zGd,zEg h];exact zGm h
theorem lS{k:ah.dZ}(h:ah.oK k=true):k.af4.length<=10/\∀f∈k.af4,ah.cN f=true:=by
 unfold ah.oK at h;simp only[zBa,zDt,List.all_eq_true] at h;exact⟨h.1.2,h.2⟩
theorem Pb{f:ah.cA}(h:ah.cN f=true)(hk:f.kind=1):0<=f.lo/\f.lo<=65536:=by
 unfold ah.cN ah.lM at h;rw[hk] at h;simp[ah.fG] at h;omega
theorem Pc{x:bD}{W:bK}(h:ah.okB x=true)(hf:dF x W=true):xo x W:=by
 obtain⟨hv,hE⟩:=qL h;obtain⟨h6, -, -,hK⟩:=qd hv;unfold dF at hf;simp only[zBa,zDt,List.all_eq_true,List.mem_range] at hf;obtain⟨⟨⟨f1,f2⟩,f3⟩,f4⟩:=hf;have Lg:∀{k:Nat} (hk:k<W.length),W.getD k []=W[k]:=fun {k} hk=>by rw[zGd,zEg hk];rfl
 refine⟨h6,fun k=>?_,fun r hr=>?_,f1,fun k hk r hr=>f2 k hk r (by rw[Lg hk];exact hr),fun r hr i hk hi=>?_,f4⟩
 ·by_cases hk:k<x.af3.length
  ·exact(lS (hK _ (Pa hk))).1
  ·rw[Xp hk];exact Nat.zero_le _
 ·obtain⟨r1,r2,r3,r4,r5⟩:=vD hr
  have E4:=(hE _ r1).2 _ r2
  have hup:0<=ah.dB x r.kind r.field:=by
   unfold ah.mH at E4;split at E4
   ·omega
   ·unfold ah.wD at E4
    simp only[r3] at E4;by_cases hu:ah.dB x r.kind r.field<0
    ·simp[hu] at E4
    ·omega
  have hsp:=Pb ((lS (hK _ (Pa r1))).2 _ (Xq r2)) r3;have hlt:=ah.vo x r.kind r.field (by omega);exact⟨r1,r2,by omega,by omega,by omega,by omega,r3,r4⟩
 ·have:=f3 r hr W[r.kind][i] (by rw[Lg hk];exact zGm hi)
  have e:mq W r.kind i r.field=W[r.kind][i].getD r.field 0:=by
   unfold mq;rw[Lg hk,zGd (l:=W[r.kind]),zEg hi];rfl
  rw[e];exact this
theorem Hp{x:bD}{W:bK}(h:ah.yE x W):dF x W=true:=by
 unfold dF;simp only[zBa,zDt,List.all_eq_true,List.mem_range];have Lg:∀{k:Nat} (hk:k<W.length),W.getD k []=W[k]:=fun {k} hk=>by rw[zGd,zEg hk];rfl
 refine⟨⟨⟨h.len,fun k hk r hr=>?_⟩,fun r hr l hl=>?_⟩,by have:=h.tot;omega⟩
 ·rw[Lg hk] at hr
  exact(h.jc k hk r hr).1
 ·obtain⟨r1,r2,r3,r4,r5⟩:=vD hr
  have hk:r.kind<W.length:=by rw[h.len];exact r1
  rw[Lg hk] at hl;obtain⟨l1,l2⟩:=h.jc r.kind hk l hl;have hj:r.field<l.length:=by rw[l1];exact r2
  have:=(l2 r.field hj).1 r3;rw[zGd,zEg hj,r4];exact this
theorem CG{x:bD}(h6:x.af3.length<=6)(hf:∀k:Nat,(ah.kd x k).af4.length<=10):∀n,n<=x.af3.length->(oN x n).length<=10*n
 |0,_=>aB
 |n+1,hn=>by
  have ih:=CG h6 hf n (by omega)
  have h2:∀(k m:Nat),(jN x k m).length<=m:=fun k m=>by
   induction m with
   |zero=>exact aB
   |succ m ihm=>
    rw[r8,zLa]
    have:(p8 x k m).length<=1:=by unfold p8;split<;>simp
    omega
  rw[zB,zLa];have:=h2 n (ah.kd x n).af4.length;have:=hf n;omega
theorem xo.many{x:bD}{W:bK}(h:xo x W):(bT x).length<=60:=by
 have:=CG h.af3 h.af4 x.af3.length aB;unfold bT;have:=h.af3;omega
end Go.Proofs.YtobgljfnfpolkaaGreatDoor.aF
