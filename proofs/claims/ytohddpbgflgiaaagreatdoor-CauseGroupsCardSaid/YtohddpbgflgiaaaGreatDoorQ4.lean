/- Part 4 of the walks and plain laws that the proof needs (packed). -/
import Derived.Test.YtohddpbgflgiaaaGreatDoorQ1
import Derived.Test.YtohddpbgflgiaaaGreatDoorQ3
set_option linter.all false
set_option maxRecDepth 100000
set_option maxHeartbeats 8000000
namespace Go.Proofs.YtohddpbgflgiaaaGreatDoor.aC
abbrev Nm:=ByteArray
structure dA where
 name:Nm
 of:Nm
 up:Nm
 kind:Int
 lo:Int
 hi:Int
 cV:List Nm
 bY:List Int
structure fT where
 name:Nm
 lo:Int
 hi:Int
 aF:List dA
structure Iu where
 name:Nm
 dR:List Nm
 jd:List (Int×Int)
structure Rul where
 name:Nm
 kind:Nm
 a:Nm
 b:Nm
 n:Int
structure cE where
 aQ:Int
 ah:List fT
 aV:List Iu
 aX:List Rul
def nil:Nm:=⟨#[]⟩
def AP:dA:=⟨nil,nil,nil,0,0,0,[],[]⟩
def kG(c:UInt8):Bool:=decide (97<=c.toNat)&&decide (c.toNat<=122)
def nQ(c:UInt8):Bool:=decide (48<=c.toNat)&&decide (c.toNat<=57)
def bE(s:Nm):Bool:=decide (1<=s.size)&&decide (s.size<=12)&&kG (s.data.getD 0 0)&&s.data.toList.all fun c=>kG c||nQ c
def tE(n least a:Int):Bool:=decide (least<=n)&&decide (n<=a)
def ig(b c least a:Int):Bool:=decide (least<=b)&&decide (b<=c)&&decide (c<=a)
def tL(l:List Int):Int:=l.foldl (·+·) 0
def kR(a:List Nm)(b:List Int):Bool:=b.all (fun n=>tE n 0 1048576)&&tE a.length 1 12&&decide (a.length=b.length)&&decide (0<tL b)&&a.all bE
def lT(f:dA):Bool:=
 (decide (f.of=nil)||decide (f.kind=1)||decide (f.kind=4)||decide (f.kind=5)||decide (f.kind=6)||decide (f.kind=7)||decide (f.kind=8))&&
 (decide (f.up=nil)||decide (f.kind=7)||decide (f.kind=8))&&
 (decide (f.lo=0)||decide (f.kind=0)||decide (f.kind=1)||decide (f.kind=2)||decide (f.kind=4)||decide (f.kind=5)||decide (f.kind=7))&&
 (decide (f.hi=0)||decide (f.kind=1)||decide (f.kind=2)||decide (f.kind=4)||decide (f.kind=5)||decide (f.kind=7))&&
 (decide (f.cV=[])||decide (f.kind=3))&&(decide (f.bY=[])||decide (f.kind=3))
def kZ(f:dA):Bool:=
 if f.kind=0 then tE f.lo (-1048576) 1048576
 else if f.kind=1 then bE f.of&&ig f.lo f.hi 0 65536
 else if f.kind=2 then ig f.lo f.hi (-1048576) 1048576
 else if f.kind=3 then kR f.cV f.bY
 else if f.kind=4 then (decide (f.of=nil)||bE f.of)&&ig f.lo f.hi (-1048576) 1048576
 else if f.kind=5 then bE f.of&&ig f.lo f.hi 0 32
 else if f.kind=6 then bE f.of
 else if f.kind=7 then bE f.of&&bE f.up&&ig f.lo f.hi 0 1048576
 else if f.kind=8 then bE f.of&&bE f.up
 else false
def dD(f:dA):Bool:=bE f.name&&lT f&&kZ f
def qF(k:fT):Bool:=bE k.name&&ig k.lo k.hi 0 65536&&decide (k.aF.length<=10)&&k.aF.all dD
def CG(n:Int)(m:Int×Int):Bool:=tE m.1 0 (n-1)&&tE m.2 0 (n-1)
def wD(x:Iu):Bool:=bE x.name&&tE x.dR.length 1 12&&x.dR.all bE&&decide (x.jd.length<=32)&&x.jd.all (CG x.dR.length)
def wE(r:Rul):Bool:=
 bE r.name&&bE r.kind&&(decide (r.a=nil)||bE r.a)&&(decide (r.b=nil)||bE r.b)&& !(decide (r.a=nil)&&decide (r.b=nil))&&tE r.n (-1048576) 1048576
def ql(x:cE):Bool:=
 tE x.aQ 0 1048576&&decide (x.ah.length<=6)&&decide (x.aV.length<=6)&&decide (x.aX.length<=16)&&x.ah.all qF&&x.aV.all wD&&x.aX.all wE
def xB:Nat->Nat->Nat
 |0,_=>1
 |f+1,n=>if n<10 then 1 else 1+xB f (n / 10)
def dN(n:Int):Nat:=(if n<0 then 1 else 0)+xB 40 n.natAbs
def eF(s:Nm):Nat:=if s=nil then 1 else s.size
def mU(k:Int):Nat:=if k=3\/k=5\/k=8 then 4 else if k=7 then 5 else 3
def je:List Nm->List Int->Nat
 |w::ws,g::gs=>1+w.size+(1+dN g)+je ws gs
 |_,_=>0
def cL(f:dA):Nat:=mU f.kind+1+f.name.size+1+
 (if f.kind=0 then 1+dN f.lo
  else if f.kind=2 then 1+dN f.lo+(1+dN f.hi)
  else if f.kind=3 then 1+dN f.cV.length+je f.cV f.bY
  else if f.kind=6 then 1+f.of.size
  else if f.kind=7 then 1+f.up.size+(1+f.of.size)+(1+dN f.lo)+(1+dN f.hi)
  else if f.kind=8 then 1+f.up.size+(1+f.of.size)
  else 1+eF f.of+(1+dN f.lo)+(1+dN f.hi))
def bP{α:Type}(g:α->Nat)(l:List α):Nat:=l.foldl (fun n x=>n+g x) 0
def iB(k:fT):Nat:=4+(1+k.name.size)+(1+dN k.lo)+(1+dN k.hi)+1+bP cL k.aF
def jf(x:Iu):Nat:=4+(1+x.name.size)+(1+dN x.dR.length)+bP (fun s:Nm=>1+s.size) x.dR+1+bP (fun m:Int×Int=>4+(1+dN m.1)+(1+dN m.2)+1) x.jd
def jI(r:Rul):Nat:=4+(1+r.name.size)+(1+r.kind.size)+(1+eF r.a)+(1+eF r.b)+(1+dN r.n)+1
def xC(x:cE):Nat:=6+(1+dN x.aQ)+1+bP iB x.ah+bP jf x.aV+bP jI x.aX
def mH(x:cE):Int:=if ql x=true then (if 8192<xC x then 4 else 0) else 1
def iN{α:Type}(p:α->Bool):List α->Nat->Int
 |[],_=> -1
 |x::l,i=>if p x=true then i else iN p l (i+1)
def dc(x:cE)(s:Nm):Int:=iN (fun k:fT=>decide (k.name=s)) x.ah 0
def bV(k:fT)(s:Nm):Int:=iN (fun f:dA=>decide (f.name=s)) k.aF 0
def QC:fT:=⟨nil,0,0,[]⟩
def kd(x:cE)(i:Int):fT:=x.ah.getD i.toNat QC
def fd(x:cE)(i j:Int):dA:=(kd x i).aF.getD j.toNat AP
def hasB(x:cE)(i j:Int):Bool:=decide (0<=i)&&decide (i<x.ah.length)&&decide (0<=j)&&decide (j<(kd x i).aF.length)
def tM(x:cE)(i:Int)(f:dA):Int:=if dc x f.of<i then dc x f.of else -1
def eD(x:cE)(i j:Int):Int:=
 if hasB x i j=true then
  (let f:=fd x i j
   if f.kind=7\/f.kind=8 then
    (let u:=bV (kd x i) f.up
     if hasB x i u=true/\u<j/\(fd x i u).kind=1 then tM x i (fd x i u) else -1)
   else if f.kind=1 then tM x i f else -1)
 else -1
def mP(x:cE)(i o:Int)(s:Nm):List Int:=
 ((List.range (kd x o).aF.length).map fun j:Nat=>(j:Int)).filter fun j=>decide ((fd x o j).kind=7)&&decide ((fd x o j).of=s)&&decide (eD x o j=i)
def jQ(x:cE)(i:Int)(f:dA):Int:=if f.kind=6/\i<dc x f.of then dc x f.of else -1
def jR(x:cE)(i:Int)(f:dA):List Int:=if jQ x i f<0 then [] else mP x i (jQ x i f) f.name
def zW(x:cE)(i j:Int)(f:dA):Option dA:=
 if eD x i j<0 then none
 else if hasB x (eD x i j) (bV (kd x (eD x i j)) f.of)=true then some (fd x (eD x i j) (bV (kd x (eD x i j)) f.of)) else none
def pS(x:cE)(i j:Int)(f:dA):dA:=(zW x i j f).getD AP
def FZ(x:cE)(s:Nm):Bool:=x.aV.any fun l=>decide (l.name=s)
def mC(x:cE)(i j:Int):Int:=
 let f:=fd x i j
 if f.kind=0 then (if 0<j then 13 else 0)
 else if f.kind=1 then (if eD x i j<0 then 12 else 0)
 else if f.kind=4 then (let u:=bV (kd x i) f.of
  if f.of≠nil/\(u<0\/j<=u\/(fd x i u).kind≠4) then 12 else 0)
 else if f.kind=5 then (if FZ x f.of=true then 0 else 12)
 else if f.kind=6 then (if jQ x i f<0 then 12 else if (jR x i f).length≠1 then 11 else 0)
 else if f.kind=7 then (if eD x i j<0 then 12 else if zW x i j f=none\/(pS x i j f).kind≠6\/dc x (pS x i j f).of≠i then 13 else 0)
 else if f.kind=8 then (if eD x i j<0 then 12 else if zW x i j f=none\/¬((pS x i j f).kind=2\/(pS x i j f).kind=3\/(pS x i j f).kind=4\/(pS x i j f).kind=5\/(pS x i j f).kind=8) then 13 else 0)
 else 0
def nR(x:cE)(i j:Int):Int:=if bV (kd x i) (fd x i j).name<j then 7 else mC x i j
def wF(x:cE)(i:Int):Int:=if dc x (kd x i).name<i then 7 else if (kd x i).aF.length=0\/(fd x i 0).kind≠0 then 11 else 0
def AQ(x:cE)(i:Nat):Int:=if (x.aV.take i).any (fun l=>decide (some l.name=(x.aV[i]?).map Iu.name))=true then 7 else 0
def sO(x:cE)(k:Int)(s:Nm):Bool×Bool:=
 if s=nil\/k<0 then (false,false)
 else (let u:=bV (kd x k) s
  (!hasB x k u,decide ((if hasB x k u=true then fd x k u else AP).kind≠2)&&decide ((if hasB x k u=true then fd x k u else AP).kind≠4)))
def aia:Rul:=⟨nil,nil,nil,nil,0⟩
def rl(x:cE)(i:Nat):Rul:=x.aX.getD i aia
def tN(x:cE)(i:Nat):Int:=
 let r:=rl x i
 let k:=dc x r.kind
 if (x.aX.take i).any (fun s=>decide (s.name=r.name))=true then 7
 else if k<0\/(sO x k r.a).1=true\/(sO x k r.b).1=true then 12
 else if (sO x k r.a).2=true\/(sO x k r.b).2=true then 13
 else if r.a=r.b then 1 else 0
def okB(x:cE):Bool:=
 decide (mH x=0)&&(List.range x.aV.length).all (fun i=>decide (AQ x i=0))&&
 (List.range x.ah.length).all (fun i:Nat=>decide (wF x i=0)&&(List.range (kd x i).aF.length).all fun j:Nat=>decide (nR x i j=0))&&
 (List.range x.aX.length).all (fun i=>decide (tN x i=0))
end Go.Proofs.YtohddpbgflgiaaaGreatDoor.aC
namespace Go.Proofs.YtohddpbgflgiaaaGreatDoor.aC
def nId:Nm:=⟨#[105,100]⟩
def yB:Nm:=⟨#[111,102]⟩
def CH:Nm:=⟨#[115,97,109,101]⟩
def AU:Nm:=⟨#[112,97,114,116]⟩
def gH:Nm:=⟨#[116,111,116,97,108]⟩
def nBy:Nm:=⟨#[98,121]⟩
def jJ:Nm:=⟨#[115,105,122,101]⟩
def BO:Nm:=⟨#[116,97,103]⟩
def qG:Nm:=⟨#[98,111,114,110]⟩
def AV:Nm:=⟨#[108,101,102,116]⟩
def rL:Nm:=⟨#[115,116,97,116,101]⟩
def sP:Nm:=⟨#[108,105,102,101]⟩
def nT:Nm:=⟨#[108,111,119]⟩
def mY:Nm:=⟨#[104,105,103,104]⟩
def nRed:Nm:=⟨#[114,101,100]⟩
def afy:Nm:=⟨#[103,114,101,101,110]⟩
def aib:Nm:=⟨#[98,108,117,101]⟩
def F5(a b:Int):dA:=⟨jJ,nil,nil,2,a,b,[],[]⟩
def Ff(a:List Nm)(b:List Int):dA:=⟨BO,nil,nil,3,0,0,a,b⟩
def tO(a b:Int):dA:=⟨qG,nil,nil,4,a,b,[],[]⟩
def wG(a b:Int):dA:=⟨AV,qG,nil,4,a,b,[],[]⟩
def qm(a b:Int):dA:=⟨rL,sP,nil,5,a,b,[],[]⟩
def Fg(a b:Int):dA:=⟨nT,nil,nil,2,a,b,[],[]⟩
def tP(a b:Int):dA:=⟨mY,nil,nil,2,a,b,[],[]⟩
def ja:List Nm:=[nRed,afy,aib]
def Ord(a b:Int):Prop:= -200<=a/\a<=b/\b<=300
inductive fN:List dA->Prop
 |none:fN []
 |size (lo hi:Int):Ord lo hi->fN [F5 lo hi]
 |tag (n:Nat) (gs:List Int):1<=n->n<=3->gs.length=n->(∀g∈gs,0<=g/\g<=5)->0<tL gs->fN [Ff (ja.take n) gs]
 |born (lo hi lo' hi':Int):Ord lo hi->Ord lo' hi'->fN [tO lo hi,wG lo' hi']
 |state (lo hi:Int):0<=lo->lo<=hi->hi<=10->fN [qm lo hi]
 |low (lo hi lo' hi':Int):Ord lo hi->Ord lo' hi'->fN [Fg lo hi,tP lo' hi']
theorem foldl_add(l:List Int)(a:Int):l.foldl (·+·) a=a+tL l:=by
 unfold tL;induction l generalizing a with
 |nil=>simp
 |cons x l ih=>simp only[List.foldl_cons];rw[ih,ih (0+x)];omega
theorem F6(x:Int)(l:List Int):tL (x::l)=x+tL l:=by
 show List.foldl _ (0+x) l=_
 rw[foldl_add];omega
theorem AX:∀(l:List Int),(∀g∈l,0<=g)->0<=tL l
 |[],_=>Int.le_refl 0
 |x::l,h=>by
  rw[F6];have b:=h x bH;have c:=AX l (fun g a=>h g (by simp[a]));omega
theorem Kr:∀(l:List Int),(∀g∈l,0<=g)->(∃g∈l,0<g)->0<tL l
 |[],_,⟨_,h,_⟩=>absurd h bH
 |x::l,h,⟨g,a,hp⟩=>by
  rw[F6];have b:=h x bH;have c:=AX l (fun g a=>h g (by simp[a]));rcases mr.1 a with rfl|a
  ·omega
  ·have:=Kr l (fun g a=>h g (by simp[a])) ⟨g,a,hp⟩
   omega
def tQ(a:Int):dA:=⟨nId,nil,nil,0,a,0,[],[]⟩
def AY(s:Nm)(a b:Int):dA:=⟨yB,s,nil,1,a,b,[],[]⟩
def sQ(s:Nm):dA:=⟨CH,s,yB,8,0,0,[],[]⟩
def oZ(a b:Int):dA:=⟨AU,gH,yB,7,a,b,[],[]⟩
def iV(s:Nm):dA:=⟨gH,s,nil,6,0,0,[],[]⟩
def Xj(s:Nm):dA:=⟨nBy,s,nil,1,0,8,[],[]⟩
def abE:Nm:=⟨#[112,101,114,115,111,110]⟩
def afz:Nm:=⟨#[111,114,100,101,114]⟩
def aic:Nm:=⟨#[105,116,101,109]⟩
def afA:List Nm:=[abE,afz,aic]
def cZ(i:Nat):Nm:=afA.getD i nil
def yC(f:dA):Prop:=f.kind≠0/\f.kind≠1/\f.kind≠6/\f.kind≠7
def kL(ks:List fT)(i:Nat):fT:=ks.getD i QC
def rM(k:fT)(l:List dA):Prop:=l=[]\/∃c,∃h:c<k.aF.length,yC k.aF[c]/\l=[sQ k.aF[c].name]
def fV(k:fT)(a:Nm):fT:={k with aF:=k.aF++[iV a]}
def zX(ks:List fT)(to:Nat)(d:Nm)(a:List fT)(l:List dA):Prop:=
 (l=[]/\a=ks)\/∃b c,0<=b/\b<=c/\c<=20/\l=[oZ b c]/\(∀f∈(kL ks to).aF,f.name≠gH)/\a=ks.set to (fV (kL ks to) d)
def rP(ks:List fT)(e:Nm)(b:List fT)(fs:List dA):Prop:=
 ∃a, -3<=a/\a<=100/\((ks=[]/\b=ks/\fs=[tQ a])\/
  ∃to,to<ks.length/\∃c d s p,0<=c/\c<=1/\2<=d/\d<=8/\rM (kL ks to) s/\zX ks to e b p/\fs=tQ a::AY (kL ks to).name c d::(s++p))
def Xk(ks:List fT)(l:List dA):Prop:=l=[]\/(1<ks.length/\l=[Xj (kL ks 0).name])
def qH(fs l:List dA):Prop:=l=[]\/(fN l/\∀f,l.head?=some f->∀g∈fs,g.name≠f.name)
def tR(ks a:List fT)(k:fT):Prop:=
 ks.length<=2/\k.name=cZ ks.length/\0<=k.lo/\k.lo<=k.hi/\k.hi<=20/\
  ∃h y p q,rP ks k.name a h/\Xk a y/\fN p/\qH (h++y++p) q/\k.aF=h++y++p++q
theorem pZ{α:Type}{p:α->Bool}:∀{l:List α} {i k:Nat} (h:k<l.length),(∀j (h:j<l.length),j<k->p l[j]=false)->p l[k]=true->iN p l i=((i+k:Nat):Int)
 |[],_,_,h,_,_=>absurd h bH
 |x::l,i,0,_,_,hp=>by
  have:p x=true:=hp;unfold iN;rw[if_pos this];simp
 |x::l,i,k+1,h,hn,hp=>by
  have a:p x=false:=hn 0 bH aD;unfold iN;rw[if_neg (by simp[a]),pZ Fa (fun j hj b=>hn (j+1) BI aD) hp];omega
theorem oP{α:Type}{p:α->Bool}:∀{l:List α} {i:Nat},(∀j (h:j<l.length),p l[j]=false)->iN p l i= -1
 |[],_,_=>rfl
 |x::l,i,hn=>by
  have a:p x=false:=hn 0 bH;unfold iN;rw[if_neg (by simp[a]),oP (fun j hj=>hn (j+1) BI)]
theorem AZ{α:Type}(p:α->Bool):∀(l:List α) (i:Nat),(iN p l i= -1/\∀j (h:j<l.length),p l[j]=false)\/∃k,∃h:k<l.length,iN p l i=((i+k:Nat):Int)/\p l[k]=true/\∀j (h:j<l.length),j<k->p l[j]=false
 |[],_=>.inl ⟨rfl,fun j h=>absurd h bH⟩
 |x::l,i=>by
  cases e:p x
  ·rcases AZ p l (i+1) with⟨a,b⟩|⟨k,hk,a,b,c⟩
   ·refine .inl ⟨?_,fun j hj=>?_⟩
    ·unfold iN;rw[if_neg (by simp[e]),a]
    ·cases j with
     |zero=>exact e
     |succ j=>exact b j BI
   ·refine .inr ⟨k+1,abo,?_,b,fun j hj d=>?_⟩
    ·unfold iN;rw[if_neg (by simp[e]),a];omega
    ·cases j with
     |zero=>exact e
     |succ j=>exact c j BI aD
  ·refine .inr ⟨0,bH,?_,e,fun j _ hj=>absurd hj aD⟩
   unfold iN;rw[if_pos e];simp
theorem jS{α:Type}(p:α->Bool)(l:List α):(iN p l 0= -1/\∀j (h:j<l.length),p l[j]=false)\/∃k,∃h:k<l.length,iN p l 0=(k:Int)/\p l[k]=true/\∀j (h:j<l.length),j<k->p l[j]=false:=by
 have:=AZ p l 0;simpa using this
def wH(f:dA):Bool:=decide (f.kind≠0)&&decide (f.kind≠1)&&decide (f.kind≠6)&&decide (f.kind≠7)
def Fh(fs:List dA)(s:Nm):Int:=iN (fun f=>decide (f.name=s)) fs 0
def QD(fs:List dA):Int:=iN wH fs 0
def QE:Nm:=⟨#[111,114,100,101,114]⟩
def QF:Nm:=⟨#[109,111,115,116]⟩
def Iw:Nm:=⟨#[108,101,97,115,116]⟩
def iI(f:dA):Prop:= -100000<=f.lo/\f.lo<=100000/\ -100000<=f.hi/\f.hi<=100000
def CJ(k:fT)(r:Rul):Prop:=
 (∃n, -100<=n/\n<=100/\0<=Fh k.aF nT/\r=⟨QE++k.name.extract 0 1,k.name,nT,mY,n⟩)\/
 (∃n, -200000<=n/\n<=200000/\0<=Fh k.aF jJ/\(r=⟨QF++k.name.extract 0 1,k.name,jJ,nil,n⟩\/r=⟨Iw++k.name.extract 0 1,k.name,nil,jJ,n⟩))
end Go.Proofs.YtohddpbgflgiaaaGreatDoor.aC
namespace Go.Proofs.YtohddpbgflgiaaaGreatDoor.aC
inductive Ck:List fT->Prop
 |nil:Ck []
 |snoc (ks ks':List fT) (k:fT):Ck ks->tR ks ks' k->Ck (ks'++[k])
theorem fN.le{l:List dA}(h:fN l):l.length<=2:=by cases h<;>simp
theorem fN.small{l:List dA}(h:fN l):∀f∈l,iI f:=by
 intro f a;cases h with
 |none=>simp at a
 |size lo hi h=>simp at a;subst a;simp only[iI,F5,Ord] at*;omega
 |tag n gs=>simp at a;subst a;simp only[iI,Ff];omega
 |born lo hi lo' hi' h h'=>
  simp only[Ord] at h h'
  rcases (by simpa using a:f=tO lo hi\/f=wG lo' hi') with rfl|rfl<;>simp only[iI,tO,wG]<;>omega
 |state lo hi=>simp at a;subst a;simp only[iI,qm];omega
 |low lo hi lo' hi' h h'=>
  simp only[Ord] at h h'
  rcases (by simpa using a:f=Fg lo hi\/f=tP lo' hi') with rfl|rfl<;>simp only[iI,Fg,tP]<;>omega
theorem qH.plain{fs l:List dA}(h:qH fs l):fN l:=by
 rcases h with rfl|h
 ·exact .none
 ·exact h.1
theorem rM.le{k:fT}{l:List dA}(h:rM k l):l.length<=1/\∀f∈l,iI f:=by
 rcases h with rfl|⟨c,h,_,rfl⟩
 ·simp
 ·refine⟨bH,fun f a=>?_⟩
  rw[nL.1 a];simp only[iI,sQ];omega
theorem zX.le{ks:List fT}{to:Nat}{b:Nm}{a:List fT}{l:List dA}(h:zX ks to b a l):l.length<=1/\(∀f∈l,iI f)/\a.length=ks.length:=by
 rcases h with⟨rfl,rfl⟩|⟨d,e,g,i,j,rfl,_,rfl⟩
 ·simp
 ·refine⟨bH,fun f c=>?_,bH⟩
  rw[nL.1 c];simp only[iI,oZ];omega
theorem rP.le{ks:List fT}{e:Nm}{c:List fT}{l:List dA}(h:rP ks e c l):l.length<=4/\(∀f∈l,iI f)/\c.length=ks.length:=by
 obtain⟨a,k,m,⟨_,rfl,rfl⟩|⟨t,_,n,o,s,p,q,r,u,v,g,i,rfl⟩⟩:=h
 ·refine⟨bH,fun f b=>?_,rfl⟩
  rw[nL.1 b];simp only[iI,tQ];omega
 ·have j:=g.le
  have d:=i.le;refine⟨jo,fun f b=>?_,d.2.2⟩;simp only[mr,zxx] at b;rcases b with rfl|rfl|b|b
  ·simp only[iI,tQ];omega
  ·simp only[iI,AY];omega
  ·exact j.2 f b
  ·exact d.2.1 f b
theorem Xk.le{ks:List fT}{l:List dA}(h:Xk ks l):l.length<=1/\∀f∈l,iI f:=by
 rcases h with rfl|⟨_,rfl⟩
 ·simp
 ·refine⟨bH,fun f a=>?_⟩
  rw[nL.1 a];simp only[iI,Xj];omega
theorem tR.le{ks c:List fT}{k:fT}(h:tR ks c k):k.aF.length<=9/\(∀f∈k.aF,iI f)/\c.length=ks.length:=by
 obtain⟨_,_,_,_,_,a,y,p,q,i,j,d,e,b⟩:=h;have g:=i.le;have l:=j.le;have m:=d.le;have n:=e.plain.le;rw[b];refine⟨jo,fun f b=>?_,g.2.2⟩;simp only[zxx] at b;rcases b with((b|b)|b)|b
 ·exact g.2.1 f b
 ·exact l.2 f b
 ·exact d.small f b
 ·exact e.plain.small f b
theorem tR.old{ks b:List fT}{k:fT}(h:tR ks b k):b=ks\/∃to,∃h:to<ks.length,(∀f∈ks[to].aF,f.name≠gH)/\b=ks.set to (fV ks[to] k.name):=by
 obtain⟨_,_,_,_,_,a,y,p,q,j,l,c,m,n⟩:=h;obtain⟨_,_,_,⟨_,rfl,_⟩|⟨t,d,o,r,s,p,u,v,w,x,z,c,rfl⟩⟩:=j
 ·exact .inl rfl
 ·rcases c with⟨_,rfl⟩|⟨_,_,_,_,_,_,g,i⟩
  ·exact .inl rfl
  ·have e:kL ks t=ks[t]:=by rw[kL,iY,lN d];rfl
   rw[e] at g i;exact .inr ⟨t,d,g,i⟩
structure Xl(k:fT):Prop where
 len:k.aF.length<=10
 tot:(∀f∈k.aF,f.name≠gH)->k.aF.length<=9
 small:∀f∈k.aF,iI f
theorem Ks{k:fT}{b:Nm}(h:Xl k)(c:∀f∈k.aF,f.name≠gH):Xl (fV k b):=by
 have e:=h.tot c;refine⟨by simp[fV];omega,fun d=>?_,fun f a=>?_⟩
 ·exact absurd rfl (d (iV b) (by simp[fV]))
 ·simp only[fV,zxx,nL] at a
  rcases a with a|rfl
  ·exact h.small f a
  ·simp only[iI,iV];omega
theorem Ck.good{ks:List fT}(h:Ck ks):ks.length<=3/\(∀k∈ks,Xl k)/\∀i (h:i<ks.length),ks[i].name=cZ i:=by
 induction h with
 |nil=>exact⟨bH,fun _ h=>absurd h bH,fun i h=>absurd h bH⟩
 |snoc ks ks' k hg hk ih=>
  obtain⟨m,i2,b⟩:=ih
  have e:=hk.le
  have g:=e.2.2
  have c:=hk.2.1
  refine⟨by have:=hk.1;simp;omega,fun x hx=>?_,fun i j=>?_⟩
  ·rcases zxx.1 hx with hx|hx
   ·rcases hk.old with rfl|⟨t,d,f,rfl⟩
    ·exact i2 x hx
    ·rcases List.mem_or_eq_of_mem_set hx with hx|rfl
     ·exact i2 x hx
     ·exact Ks (i2 _ (eV _)) f
   ·rw[nL.1 hx]
    exact⟨aD,fun _=>e.1,e.2.1⟩
  ·by_cases a:i<ks'.length
   ·rw[Xi a]
    rcases hk.old with rfl|⟨t,d,f,rfl⟩
    ·exact b i a
    ·rw[List.getElem_set]
     split
     ·rename_i l;subst l;exact b _ d
     ·exact b i (by simpa using a)
   ·rw[zAr aD]
    have:i=ks'.length:=by simp at j;omega
    subst this;simp[c,g]
def nNew:Nm:=⟨#[110,101,119]⟩
def aid:Nm:=⟨#[111,112,101,110]⟩
def aie:Nm:=⟨#[100,111,110,101]⟩
def aif:Nm:=⟨#[115,104,117,116]⟩
def rQ:List Nm:=[nNew,aid,aie,aif]
def Xm(x:Iu):Prop:=x.name=sP/\∃n,2<=n/\n<=4/\x.dR=rQ.take n/\x.jd.length<=6/\∀m∈x.jd,0<=m.1/\m.1<n/\0<=m.2/\m.2<n
inductive p8 (ks:List fT):Nat->List Rul->Prop
 |nil:p8 ks 0 []
 |skip (i:Nat) (rs:List Rul):p8 ks i rs->p8 ks (i+1) rs
 |take (i:Nat) (rs:List Rul) (r:Rul) (h:i<ks.length):p8 ks i rs->CJ ks[i] r->p8 ks (i+1) (rs++[r])
structure F7(x:cE):Prop where
 aQ:0<=x.aQ/\x.aQ<=3
 ah:Ck x.ah
 some:1<=x.ah.length
 aV:∃l,x.aV=[l]/\Xm l
 aX:∃n,n<=x.ah.length/\p8 x.ah n x.aX/\x.aX.length<=2
end Go.Proofs.YtohddpbgflgiaaaGreatDoor.aC
namespace Go.Proofs.YtohddpbgflgiaaaGreatDoor
open Go.RowKit
abbrev gE(S:Nat->Prop):=eA (fun _ u (x:ByteArray)=>u=.string x) S
theorem gE.keep{S w w' v xs}(h:gE S w v xs)(a:aH S w w'):gE S w' v xs:=eA.keep h a fun _ _ h=>h
theorem gE.mono{S S' w v xs}(h:gE S w v xs)(a:∀b,b<w.heap.size->S b->S' b):gE S' w v xs:=eA.mono h a fun _ _ h=>h
theorem NE:fA (fun _ _ u (x:ByteArray)=>u=.string x):=⟨fun h _=>h,fun h _=>h⟩
def dh(f:aC.dA)(a b:Value):List Value:=[.string f.name,.string f.of,.string f.up,.int .i64 f.kind,.int .i64 f.lo,.int .i64 f.hi,a,b]
def lI(S:Nat->Prop)(w:World)(us:List Value)(f:aC.dA):Prop:=∃a b,us=dh f a b/\gE S w a f.cV/\bB S w b f.bY
theorem bQ:dM lI:=⟨fun⟨a,b,c,d,e⟩ f=>⟨a,b,c,d.keep f,e.keep f⟩,fun⟨a,b,c,d,e⟩ g=>⟨a,b,c,d.mono g,e.mono g⟩⟩
abbrev dx(S:Nat->Prop):=fC 8 (lI S) S
theorem dx.keep{S w w' v xs}(h:dx S w v xs)(a:aH S w w'):dx S w' v xs:=fC.keep bQ h a
theorem dx.mono{S S' w v xs}(h:dx S w v xs)(a:∀b,b<w.heap.size->S b->S' b):dx S' w v xs:=fC.mono aD bQ h a
def kH(k:aC.fT)(a:Value):List Value:=[.string k.name,.int .i64 k.lo,.int .i64 k.hi,a]
def Fj(S:Nat->Prop)(w:World)(us:List Value)(k:aC.fT):Prop:=∃a,us=kH k a/\dx S w a k.aF
theorem dF:dM Fj:=⟨fun⟨a,b,c⟩ d=>⟨a,b,dx.keep c d⟩,fun⟨a,b,c⟩ e=>⟨a,b,dx.mono c e⟩⟩
abbrev iC(S:Nat->Prop):=fC 4 (Fj S) S
theorem iC.keep{S w w' v xs}(h:iC S w v xs)(a:aH S w w'):iC S w' v xs:=fC.keep dF h a
theorem iC.mono{S S' w v xs}(h:iC S w v xs)(a:∀b,b<w.heap.size->S b->S' b):iC S' w v xs:=fC.mono aD dF h a
def abF(_:Nat->Prop)(_:World)(us:List Value)(m:Int×Int):Prop:=us=[.int .i64 m.1,.int .i64 m.2]
theorem fW:dM abF:=⟨fun h _=>h,fun h _=>h⟩
abbrev yD(S:Nat->Prop):=fC 2 (abF S) S
def afB(S:Nat->Prop)(w:World)(us:List Value)(x:aC.Iu):Prop:=∃u1 u2,us=[.string x.name,u1,u2]/\gE S w u1 x.dR/\yD S w u2 x.jd
theorem dG:dM afB:=⟨fun⟨u1,u2,a,b,c⟩ d=>⟨u1,u2,a,b.keep d,fC.keep fW c d⟩,fun⟨u1,u2,a,b,c⟩ e=>⟨u1,u2,a,b.mono e,fC.mono aD fW c e⟩⟩
abbrev o6(S:Nat->Prop):=fC 3 (afB S) S
def abG(_:Nat->Prop)(_:World)(us:List Value)(r:aC.Rul):Prop:=us=[.string r.name,.string r.kind,.string r.a,.string r.b,.int .i64 r.n]
theorem fO:dM abG:=⟨fun h _=>h,fun h _=>h⟩
abbrev qI(S:Nat->Prop):=fC 5 (abG S) S
def dO(S:Nat->Prop)(w:World)(v:Value)(x:aC.cE):Prop:=
 ∃a b c,v=.agg #[.int .i64 x.aQ,a,b,c]/\iC S w a x.ah/\o6 S w b x.aV/\qI S w c x.aX
theorem dO.keep{S w w' v x}(h:dO S w v x)(a:aH S w w'):dO S w' v x:=by
 obtain⟨b,c,d,e,f,g,i⟩:=h;exact⟨b,c,d,e,f.keep a,fC.keep dG g a,fC.keep fO i a⟩
theorem dO.mono{S S' w v x}(h:dO S w v x)(a:∀b,b<w.heap.size->S b->S' b):dO S' w v x:=by
 obtain⟨c,d,e,f,g,i,j⟩:=h;exact⟨c,d,e,f,g.mono a,fC.mono aD dG i a,fC.mono aD fO j a⟩
theorem dx.at{S:Nat->Prop}{w:World}{a:Option Addr}{n cap:Nat}{fs:List aC.dA}(h:dx S w (.slice a n cap) fs){j:Nat}(e:j<fs.length):
  bM a<w.heap.size/\S (bM a)/\w.cell? ⟨bM a,bT a+j*8,none⟩=some (.string fs[j].name)/\w.cell? ⟨bM a,bT a+j*8+1,none⟩=some (.string fs[j].of)/\w.cell? ⟨bM a,bT a+j*8+2,none⟩=some (.string fs[j].up)/\
   w.cell? ⟨bM a,bT a+j*8+3,none⟩=some (.int .i64 fs[j].kind)/\w.cell? ⟨bM a,bT a+j*8+4,none⟩=some (.int .i64 fs[j].lo)/\w.cell? ⟨bM a,bT a+j*8+5,none⟩=some (.int .i64 fs[j].hi)/\
   ∃c d,w.cell? ⟨bM a,bT a+j*8+6,none⟩=some c/\w.cell? ⟨bM a,bT a+j*8+7,none⟩=some d/\gE S w c fs[j].cV/\bB S w d fs[j].bY:=by
 obtain⟨f,k,l,b,c,d,rfl,g,i⟩:=fC.at h e;exact⟨kK w ⟨bM a,bT a+j*8+0,none⟩ (b 0 _ rfl),f,b 0 _ rfl,b 1 _ rfl,b 2 _ rfl,b 3 _ rfl,b 4 _ rfl,b 5 _ rfl,c,d,b 6 _ rfl,b 7 _ rfl,g,i⟩
theorem iC.at{S:Nat->Prop}{w:World}{a:Option Addr}{n cap:Nat}{ks:List aC.fT}(h:iC S w (.slice a n cap) ks){j:Nat}(d:j<ks.length):
  bM a<w.heap.size/\S (bM a)/\w.cell? ⟨bM a,bT a+j*4,none⟩=some (.string ks[j].name)/\w.cell? ⟨bM a,bT a+j*4+1,none⟩=some (.int .i64 ks[j].lo)/\w.cell? ⟨bM a,bT a+j*4+2,none⟩=some (.int .i64 ks[j].hi)/\
   ∃c,w.cell? ⟨bM a,bT a+j*4+3,none⟩=some c/\dx S w c ks[j].aF:=by
 obtain⟨e,g,i,b,c,rfl,f⟩:=fC.at h d;exact⟨kK w ⟨bM a,bT a+j*4+0,none⟩ (b 0 _ rfl),e,b 0 _ rfl,b 1 _ rfl,b 2 _ rfl,c,b 3 _ rfl,f⟩
theorem o6.at{S:Nat->Prop}{w:World}{a:Option Addr}{n cap:Nat}{ks:List aC.Iu}(h:o6 S w (.slice a n cap) ks){j:Nat}(c:j<ks.length):
  bM a<w.heap.size/\S (bM a)/\w.cell? ⟨bM a,bT a+j*3,none⟩=some (.string ks[j].name)/\
   ∃u1 u2,w.cell? ⟨bM a,bT a+j*3+1,none⟩=some u1/\w.cell? ⟨bM a,bT a+j*3+2,none⟩=some u2/\gE S w u1 ks[j].dR/\yD S w u2 ks[j].jd:=by
 obtain⟨d,g,i,b,u1,u2,rfl,e,f⟩:=fC.at h c;exact⟨kK w ⟨bM a,bT a+j*3+0,none⟩ (b 0 _ rfl),d,b 0 _ rfl,u1,u2,b 1 _ rfl,b 2 _ rfl,e,f⟩
theorem qI.at{S:Nat->Prop}{w:World}{a:Option Addr}{n cap:Nat}{ks:List aC.Rul}(h:qI S w (.slice a n cap) ks){j:Nat}(d:j<ks.length):
  bM a<w.heap.size/\S (bM a)/\w.cell? ⟨bM a,bT a+j*5,none⟩=some (.string ks[j].name)/\w.cell? ⟨bM a,bT a+j*5+1,none⟩=some (.string ks[j].kind)/\w.cell? ⟨bM a,bT a+j*5+2,none⟩=some (.string ks[j].a)/\w.cell? ⟨bM a,bT a+j*5+3,none⟩=some (.string ks[j].b)/\w.cell? ⟨bM a,bT a+j*5+4,none⟩=some (.int .i64 ks[j].n):=by
 obtain⟨e,f,g,c,rfl⟩:=fC.at h d;exact⟨kK w ⟨bM a,bT a+j*5+0,none⟩ (c 0 _ rfl),e,c 0 _ rfl,c 1 _ rfl,c 2 _ rfl,c 3 _ rfl,c 4 _ rfl⟩
theorem yD.at{S:Nat->Prop}{w:World}{a:Option Addr}{n cap:Nat}{ks:List (Int×Int)}(h:yD S w (.slice a n cap) ks){j:Nat}(c:j<ks.length):
  bM a<w.heap.size/\S (bM a)/\w.cell? ⟨bM a,bT a+j*2,none⟩=some (.int .i64 ks[j].1)/\w.cell? ⟨bM a,bT a+j*2+1,none⟩=some (.int .i64 ks[j].2):=by
 obtain⟨d,e,f,b,rfl⟩:=fC.at h c;exact⟨kK w ⟨bM a,bT a+j*2+0,none⟩ (b 0 _ rfl),d,b 0 _ rfl,b 1 _ rfl⟩
theorem str_inj{a b:ByteArray}(h:a.toList=b.toList):a=b:=by
 rw[ByteArray.toList_eq,ByteArray.toList_eq] at h;exact ByteArray.ext (Array.toList_inj.1 h)
theorem Sy{a b:ByteArray}(h:a=b):(a.toList==b.toList)=true:=by rw[h];simp
theorem CK{a b:ByteArray}(h:a≠b):(a.toList==b.toList)=false:=by
 simp only[beq_eq_false_iff_ne,ne_eq];exact fun e=>h (str_inj e)
theorem NF{a b:ByteArray}:(a.toList==b.toList)=decide (a=b):=by
 by_cases h:a=b
 ·rw[Sy h,decide_eq_true h]
 ·rw[CK h,decide_eq_false h]
def jl(w:World)(b N:Nat):Prop:=
 ∃a L,∃i:Int,w.heap[b]?=some (.cells #[a,.int .i64 i] 49 (0,0))/\bB (·<b) w a L/\Fit L/\0<=i/\i<=N
theorem jl.keep{w w':World}{b N:Nat}(h:jl w b N)(c:aH (·<=b) w w'):jl w' b N:=by
 obtain⟨e,L,i,d,f,g⟩:=h;exact⟨e,L,i,(c b aL (zxd.1 d).1).trans d,f.keep (fun x hx a=>c x aD a),g⟩
theorem jl.mono{w:World}{b N N':Nat}(h:jl w b N)(g:N<=N'):jl w b N':=by
 obtain⟨a,L,i,c,d,e,f,j⟩:=h;exact⟨a,L,i,c,d,e,f,aD⟩
theorem jl.lt{w:World}{b N:Nat}(h:jl w b N):b<w.heap.size:=by
 obtain⟨c,L,i,a,_⟩:=h;exact(zxd.1 a).1
theorem uZ{P:Program}{f:FuncId}{args:Array Value}{w:World}{v:Value}(h:Calls P f args w fun e a=>e=.returned v/\w=a):Calls P f args w fun e a=>e=.returned v/\∃n,a=w.drewN n:=
 h.mono fun _ _ ⟨b,c⟩=>⟨b,0,c▸rfl⟩
def aii(n:Int)(b N:Nat)(w:World)(e:Ending)(w':World):Prop:=
 ∃t:Int,e=.returned (.int .i64 t)/\0<=t/\t<n/\jl w' b (N+1)/\Turns (·=b) w w'/\w'.heap.size=w.heap.size
theorem bX(n:Int)(h1:1<=n)(h2:n<=1000000)(b N:Nat)(C:N<=100000)(w:World)(q:jl w b N):
  CP 16 #[.pointer (some ⟨b,0,none⟩),.int .i64 n] w (aii n b N w):=by
 obtain⟨d,L,i,j,m,o,D,E⟩:=q;obtain⟨w1,a⟩:=bJ (w.setCell ⟨b,1,none⟩ (.int .i64 (i+1)))
 have c:w1.heap[b]?=some (.cells #[d,.int .i64 (i+1)] 49 (0,0)):=by
  rw[a];have:=heap_setCell_same w b 1 #[d,.int .i64 i] 49 (.int .i64 (i+1)) j;simpa using this
 have f:Turns (·=b) w w1:=by rw[a];exact(Turns.refl _ _).setCell _ _ rfl
 have hsz:w1.heap.size=w.heap.size:=by rw[a];simp[World.setCell]
 have g:bB (·<b) w1 d L:=m.keep (f.keep (fun x hx e=>by omega));have c0:w.cell? ⟨b,0,none⟩=some d:=by simp[World.cell?,j]
 have c1:w.cell? ⟨b,1,none⟩=some (.int .i64 i):=by simp[World.cell?,j]
 have f1:w.frozen? ⟨b,1,none⟩=false:=by simp[World.frozen?,j]
 have F:w1.cell? ⟨b,0,none⟩=some d:=by simp[World.cell?,c]
 have G:w1.cell? ⟨b,1,none⟩=some (.int .i64 (i+1)):=by simp[World.cell?,c]
 have r:=NC L (i+1-1).toNat n h1;have s:Hid (jl (w1.drewN 1) b (N+1)):=hid ⟨d,L,i+1,c,g,o,aD,aD⟩;have p:=fun(W:World) (h:bB (·<b) W d L)=>Xc L o d (i+1-1) n (·<b) W h h1 (Int.le_trans h2 aD) aD;have u:=hid f;have v:=hid hsz;have y:=hid g;have k:=hid p;clear c f hsz g p m j;have z:(i+1-1)=i:=aD
 generalize atI L (i+1-1).toNat n=t at*;obtain⟨l,A⟩:=r;rw[z] at k;go_enter Tryz.func16,Tryz.ntmps16;go_wp2;rw[<-a];clear a;have B:=hid (fun nq=>Calls.quiet_of (uZ (k.out (w1.drewN nq) (y.out.keep (aH.below (aJ aG _))))));go_quiet ((exact B.out _));go_wp2;go_ret;exact⟨t,rfl,l,A,s.out,u.out.trans (Turns.bg (aJ aG _)),v.out⟩
theorem fC.lit{α:Type}{n:Nat}{c:(Nat->Prop)->World->List Value->α->Prop}(h:dM c){S:Nat->Prop}{W:World}{t:TypeId}(a:List (List Value))(xs:List α)(v:a.length=xs.length)(d:∀k∈a,k.length=n)
  (l:∀j (w:j<a.length) (x:j<xs.length),c S W a[j] xs[j]){N m cap:Nat}(o:N=W.heap.size)(p:S N){cs:Array Value}(e:cs.toList=a.flatten)(q:m=xs.length)(b:cap=xs.length)(h0:xs.length<=1000000):
  fC n (c S) S (W.alloc (.cells cs t)) (.slice (some ⟨N,0,none⟩) m cap) xs:=by
 subst o q b;refine⟨_,_,rfl,fun _=>⟨_,_,rfl⟩,aL,Wy,fun _=>p,fun j r=>⟨a[j]' aD,d _ (eV _),fun i u g=>?_,h.keep (l j aD r) (aH.below (aG.alloc aL _))⟩⟩
 have f:i<n:=by
  have s:=(zxu.1 g).1;rwa [d _ (eV _)] at s
 rw[fK,fL,zxn];have:=iR W cs t (j*n+i) u (by rw[e,uY a j aD i d f];exact g);rwa [zxn] at this
theorem tS{S T:Nat->Prop}{W:World}{g:Nat}{t:TypeId}{f:aC.dA}(h:W.heap[g]?=some (.cells (dh f (.slice none 0 0) (.slice none 0 0)).toArray t (0,0)))(h1:f.cV=[])(h2:f.bY=[])(a:T g):
  fC 8 (lI S) T W (.slice (some ⟨g,0,none⟩) 1 1) [f]:=by
 refine⟨_,_,rfl,fun _=>⟨_,_,rfl⟩,aL,Qu,fun _=>a,fun j hj=>?_⟩;obtain rfl:j=0:=BI
 refine⟨dh f (.slice none 0 0) (.slice none 0 0),rfl,fun i u hi=>?_,⟨_,_,rfl,by simp only[List.getElem_cons_zero];rw[h1];exact eA.nil _ _ _,by simp only[List.getElem_cons_zero];rw[h2];exact eA.nil _ _ _⟩⟩;rw[fK,fL,Nat.zero_mul];simp only[zxn,Nat.add_zero];exact(aP h i).trans afn
theorem aeK{p:Prop}(h:p:=by
  intro u hu
  simp only[dh,mr,Na,or_false] at hu
  rcases hu with rfl|rfl|rfl|rfl|rfl|rfl|rfl|rfl<;>rfl):p:=h
theorem mZ{S:Nat->Prop}{w:World}{us:List Value}{f:aC.dA}(h:lI S w us f):∀u∈us,u.oneCell'=true:=by
 obtain⟨c,d,rfl,a,b⟩:=h;obtain⟨a1,c1,rfl, -⟩:=a.form;obtain⟨e,c2,rfl, -⟩:=b.form;exact aeK
inductive iq where
 |done
 |quiet (i:Nat) (p:iq)
 |one (i:Nat) (p:iq)
 |two (i j:Nat) (p q:iq)
 |three (i j k:Nat) (p q r:iq)
 deriving DecidableEq
section
variable {P:Program} {ops:Array Oper} {md:Region.Mode}
def yE:Op->Bool
 | .move _| .assign _| .pick .. | .load .. | .binOp .. | .unOp .. | .build .. | .fieldAddr .. | .field .. | .indexAddr .. | .index .. | .slice .. | .extract .. | .convert .. | .makeFunc .. | .makeInterface .. | .nilCheck .. | .lookup .. =>true
 | .call {callee:=.builtin .len, .. }| .call {callee:=.builtin .cap, .. }| .call {callee:=.builtin .min, .. }| .call {callee:=.builtin .max, .. }=>true
 |_=>false
theorem IA{o:Oper}{x:Operand}(d:o.op=.nilCheck x){ρ:Operand->Value}{w w':World}{nx:Next}(c:∀v,nx≠ .value v):(execOp ρ o).run P w≠ .ok nx w':=by
 unfold execOp;rw[d];dsimp only;split
 ·simp[go_sem]
 ·simp[go_sem]
 ·simp[go_sem]
 ·split
  ·simp[go_sem]
  ·rename_i t v _
   intro e;simp only[Sem.run_bind] at e;cases h1:Sem.run P program w with
   |halt a b=>rw[h1] at e;cases e
   |ok p w1=>
    rw[h1] at e
    simp only[Result.andThen] at e
    generalize Sem.run P (nilAhead (p.types.size+Made.depth) t v _) w1=r at e
    cases r with
    |halt a b=>cases e
    |ok q w2=>
     simp only at e
     split at e
     ·simp[go_sem] at e
     ·cases e;exact c _ rfl
  ·intro e;cases e;exact c _ rfl
 ·intro e;cases e;exact c _ rfl
theorem zY{o:Oper}(h:yE o.op=true){ρ:Operand->Value}{w w':World}{nx:Next}(a:∀v,nx≠ .value v):(execOp ρ o).run P w≠ .ok nx w':=by
 by_cases b:∃x,o.op=.nilCheck x
 ·obtain⟨x,c⟩:=b
  exact IA c a
 unfold execOp;generalize o.op=op at*;unfold yE at h;split at h
 all_goals first
  |exact absurd ⟨_,rfl⟩ b
  |exact uW a
  |exact CD a
  |(intro e;cases e;exact a _ rfl)
  |(simp only[resolve,invoke,builtin];exact uW a)
  |(exact absurd h bH)
def tU(P:Program)(c:Array Oper)(e:World->Prop)(K:(World->Prop)->Act->World->Prop)(l:List Oper)(i:Nat)(a:Act)(w:World):Prop:=
 match l[i]? with
 |some o=>wpList P c (QN fun f d=>∃b:World->Prop,(∀W,b W->e W)/\b d/\K b f d) [o] a w
 |none=>False
def dS(P:Program)(b:Array Oper)(R:Act->World->Prop)(l:List Oper):iq->(World->Prop)->Act->World->Prop
 | .done,_,a,w=>R a w
 | .quiet i s,φ,a,w=>match l[i]? with
  |some o=>Nonempty (Held φ)->wpQuiet P b (fun W=>∃x:Held φ,W=x.1) (fun d=>dS P b R l s φ d w) [o] a
  |none=>False
 | .one i s,φ,a,w=>tU P b φ (fun c d e=>dS P b R l s c d e) l i a w
 | .two i j s t,φ,a,w=>tU P b φ (fun c d e=>dS P b R l s c d e) l i a w/\tU P b φ (fun c d e=>dS P b R l t c d e) l j a w
 | .three i j k s t u,φ,a,w=>tU P b φ (fun c d e=>dS P b R l s c d e) l i a w/\tU P b φ (fun c d e=>dS P b R l t c d e) l j a w/\
   tU P b φ (fun c d e=>dS P b R l u c d e) l k a w
def Region.lU(md:Region.Mode)(a:Array Oper)(n:Nat):Nat->iq->Array Bool->Bool
 |0,.done,listed=>Region.seqB md a (a.size-n) n listed
 |f+1,.one c s,listed=>decide (Region.ready md a listed=[c])&&decide (c<n)&&Region.lU md a n f s (listed.setIfInBounds c true)
 |f+1,.two c d s t,listed=>decide (Region.ready md a listed=[c,d])&&decide (c<n)&&decide (d<n)&&Region.lU md a n f s (listed.setIfInBounds c true)&&Region.lU md a n f t (listed.setIfInBounds d true)
 |f+1,.three c d e s t u,listed=>decide (Region.ready md a listed=[c,d,e])&&decide (c<n)&&decide (d<n)&&decide (e<n)&&Region.lU md a n f s (listed.setIfInBounds c true)&&Region.lU md a n f t (listed.setIfInBounds d true)&&Region.lU md a n f u (listed.setIfInBounds e true)
 |f+1,.quiet q s,listed=>(Region.ready md a listed).contains q&&Region.free md a listed q&&decide (q<n)&&((a[q]?).map (fun o=>yE o.op)).getD false&&Region.lU md a n f s (listed.setIfInBounds q true)
 |_,_,_=>false
def Region.qJ(md:Region.Mode)(a:Array Oper)(n:Nat)(s:iq):Bool:=
 Region.noSelect a&&decide (n<a.size)&&Region.sinkB md a n&&Region.chainB md a n&&Region.lU md a n n s (Array.replicate a.size false)
theorem SB{C C':World->Prop}(d:∀W,C' W->C W){i:Nat}{a:Act}{w:World}{K c:Act->World->Prop}(h:∀a w,C' w->K a w->c a w)(e:Xf P ops C' i K a w):Xf P ops C i c a w:=
 wpOp_mono (fun a w b=>⟨d _ b.1,h a w b.1 b.2⟩) e
theorem yF{C C':World->Prop}(b:∀W,C' W->C W){n:Nat}{L:Array Bool->Act->World->Prop}:∀(f:Nat) (listed:Array Bool) (a:Act) (w:World),mF P md ops C' n L f listed a w->mF P md ops C n L f listed a w
 |0,_,_,_,h=>h
 |f+1,_,_,_,h=>⟨h.1,fun i c=>⟨(h.2 i c).1,SB b (fun d e _ g=>yF b f _ d e g) (h.2 i c).2⟩⟩
theorem CM{k:Nat}{o:Oper}{a:Act}{w:World}{K c:Act->World->Prop}(e:ops[k]?=some o)(d:∀a w,K a w->c a w)(h:wpList P ops (QN K) [o] a w):wpOp P ops (QN fun _ _=>False) k c a w:=by
 unfold wpOp;simp only[e];unfold wpList at h;split
 ·rename_i b
  rw[if_pos b] at h;rcases h with h|⟨_,f⟩
  ·refine .inl (wp_exit (Q:=QN K) (fun _ _ _ g=>g) (fun i=>absurd i jw) ?_)
   exact Oper.wp_mono (fun j l m=>d j l m) h
  ·exact absurd f jw
 ·rename_i b
  rw[if_neg b] at h;exact d _ _ h
theorem qK{n f:Nat}{g:World->Prop}{L:Array Bool->Act->World->Prop}{K:(World->Prop)->Act->World->Prop}{k:Nat}{listed:Array Bool}{a:Act}{w:World}
  (h:tU P ops g K ops.toList k a w)(l:∀b e c,b c->K b e c->mF P md ops (iT b) n L f (listed.setIfInBounds k true) e c):
  Xf P ops (iT g) k (mF P md ops (iT g) n L f (listed.setIfInBounds k true)) a w:=by
 unfold tU at h;split at h
 ·rename_i o h0
  have i:ops[k]?=some o:=WO
  refine CM i (fun e c m=>?_) h;obtain⟨b,j,d,p⟩:=m;exact⟨⟨⟨c,j c d⟩,rfl⟩,yF (C':=iT b) (fun W q=>by obtain⟨x,rfl⟩:=q;exact⟨⟨x.1,j _ x.2⟩,rfl⟩) _ _ _ _ (l b e c d p)⟩
 ·exact h.elim
theorem V7{n:Nat}{Lq:Act->World->Prop}(b:Region.noSelect ops=true)(C:Region.sinkB md ops n=true)(D:Region.chainB md ops n=true)(E:n<ops.size):
  ∀(f:Nat) (s:iq) (z:World->Prop) (listed:Array Bool) (a:Act) (w:World),z w->HeadInv md ops n listed->Region.lU md ops n f s listed=true->dS P ops Lq ops.toList s z a w->
  mF P md ops (iT z) n (fun d q y=>Region.seqB md ops (ops.size-n) n d=true/\Lq q y) f listed a w
 |0,.done,z,listed,a,w,hC,inv,hB,h=>by
  simp only[Region.lU] at hB;exact⟨hB,h⟩
 |f+1,.quiet k s,z,listed,a,w,hC,inv,hB,h=>by
  simp only[Region.lU,pR,oW] at hB;obtain⟨⟨⟨⟨hr,S⟩,c⟩,T⟩,hB⟩:=hB;have I:k<ops.size:=aD
  obtain⟨o,h0⟩:∃o,ops[k]?=some o:=⟨ops[k],by simp[I]⟩;have J:ops.toList[k]?=some o:=WO
  simp only[dS,J] at h;have h:=h ⟨⟨w,hC⟩⟩;have G:iT z w:=⟨⟨w,hC⟩,rfl⟩;have K:yE o.op=true:=by rw[h0] at T;simpa using T
  unfold wpQuiet at h;split at h
  ·rename_i L
   obtain⟨v,V,W⟩:=h
   have X:jx P ops (iT z) o v a:=.inl ⟨L,fun w1 M=>by
    have g:=V w1 M;unfold Oper.quietAt at g;generalize N:(execOp a.eval o).run P w1=r at g ⊢;cases r with
    |ok nx w2=>
     cases nx with
     |value u=>obtain⟨Y,Z⟩:=g;rw[Y,Z]
     |_=>exact absurd N (zY K (by intro v;simp))
    |halt x w2=>exact g.elim⟩
   exact pY h0 b C D E c (fun d q y O=>Cj O.1 aL) G inv S hr X
    (V7 b C D E f s z _ _ w hC (inv.set (by simpa using hr) c) hB W)
  ·rename_i L
   exact pY h0 b C D E c (fun d q y O=>Cj O.1 aL) G inv S hr (.inr ⟨by simpa using L,rfl⟩)
    (V7 b C D E f s z _ _ w hC (inv.set (by simpa using hr) c) hB h)
 |f+1,.one k s,z,listed,a,w,hC,inv,hB,h=>by
  simp only[Region.lU,pR,oW] at hB;obtain⟨⟨hr,c⟩,hB⟩:=hB;simp only[dS] at h;refine⟨afu,fun i hi=>?_⟩;rw[hr] at hi;obtain rfl:i=k:=afn
  exact⟨c,qK h fun l q y p A=>V7 b C D E f s l _ q y p (inv.set afu c) hB A⟩
 |f+1,.two k j s t,z,listed,a,w,hC,inv,hB,h=>by
  simp only[Region.lU,pR,oW] at hB;obtain⟨⟨⟨⟨hr,c⟩,B⟩,F⟩,Q⟩:=hB;simp only[dS] at h;refine⟨afu,fun i hi=>?_⟩;rw[hr] at hi;by_cases e:i=k
  ·subst e
   exact⟨c,qK h.1 fun l q y p A=>V7 b C D E f s l _ q y p (inv.set afu c) F A⟩
  ·obtain rfl:i=j:=by simpa [e] using hi
   exact⟨B,qK h.2 fun l q y p A=>V7 b C D E f t l _ q y p (inv.set afu B) Q A⟩
 |f+1,.three k j m s t u,z,listed,a,w,hC,inv,hB,h=>by
  simp only[Region.lU,pR,oW] at hB;obtain⟨⟨⟨⟨⟨⟨hr,c⟩,B⟩,H⟩,F⟩,Q⟩,R⟩:=hB;simp only[dS] at h;refine⟨afu,fun i hi=>?_⟩;rw[hr] at hi;by_cases e:i=k
  ·subst e
   exact⟨c,qK h.1 fun l q y p A=>V7 b C D E f s l _ q y p (inv.set afu c) F A⟩
  ·by_cases U:i=j
   ·subst U
    exact⟨B,qK h.2.1 fun l q y p A=>V7 b C D E f t l _ q y p (inv.set afu B) Q A⟩
   ·obtain rfl:i=m:=by simpa [e,U] using hi
    exact⟨H,qK h.2.2 fun l q y p A=>V7 b C D E f u l _ q y p (inv.set afu H) R A⟩
 |0,.quiet ..,_,_,_,_,_,_,hB,_=>by simp[Region.lU] at hB
 |0,.one ..,_,_,_,_,_,_,hB,_=>by simp[Region.lU] at hB
 |0,.two ..,_,_,_,_,_,_,hB,_=>by simp[Region.lU] at hB
 |0,.three ..,_,_,_,_,_,_,hB,_=>by simp[Region.lU] at hB
 |_+1,.done,_,_,_,_,_,_,hB,_=>by simp[Region.lU] at hB
theorem amu{p:Prop}(h:p:=by
  rw[show n+(l.toArray.size-n)=l.toArray.size by omega] at this
  exact this):p:=h
theorem bq{id:Nat}{Q:Exit->Act->World->Prop}{a:Act}{w:World}{l:List Oper}(n:Nat)(s:iq)(k:World->Prop)(p:P.follows .mixedOrders=true)(hB:Region.qJ .any l.toArray n s=true)(q:k (w.drewN 1))
  (h:dS P l.toArray (fun b c=>wpList P l.toArray Q (l.drop n) b c) l s k a (w.drewN 1)):(Code.region id l.toArray true).wp P Q a w:=by
 simp only[Region.qJ,pR,oW] at hB;obtain⟨⟨⟨⟨d,r⟩,u⟩,v⟩,e⟩:=hB
 have f:HeadInv .any l.toArray n (Array.replicate l.toArray.size false):=
  ⟨bH,fun j y _ m=>(by rw[getD_replicate_false] at m;cases m),fun t _ x=>getD_in (by simpa using x) (getD_replicate_false _ _)⟩
 have H:=V7 (md:=.any) (Lq:=fun b c=>wpList P l.toArray Q (l.drop n) b c) d u v r n s k _ a _ q f e Fa;refine wp_region_any p ?_;have i:(l.drop n).length=l.toArray.size-n:=bH
 have:=lQ (Q':=Q) (g:=l.toArray.size-n) (fun listed b c o=>by
  have:=wpAny_of_seq (md:=.any) (Q':=Q) (l.drop n) n listed b c (fun j=>by simp[List.getElem?_drop]) (by rw[i];exact o.1) o.2;rwa [i] at this) _ _ _ _ H
 exact amu
theorem bC{b:World->Prop}{R:Act->World->Prop}{l:List Oper}{i:Nat}{s:iq}{a:Act}{w:World}{o:Oper}(c:l[i]?=some o)
  (h:Nonempty (Held b)->wpQuiet P ops (fun W=>∃x:Held b,W=x.1) (fun d=>dS P ops R l s b d w) [o] a):dS P ops R l (.quiet i s) b a w:=by
 simp only[dS,c];exact h
theorem aZ{c:World->Prop}{R:Act->World->Prop}{l:List Oper}{i:Nat}{s:iq}{a:Act}{w:World}{o:Oper}(e:l[i]?=some o)
  (h:wpList P ops (QN fun f d=>∃b:World->Prop,(∀W,b W->c W)/\b d/\dS P ops R l s b f d) [o] a w):dS P ops R l (.one i s) c a w:=by
 simp only[dS,tU,e];exact h
theorem fP{d:World->Prop}{R:Act->World->Prop}{l:List Oper}{i j:Nat}{s t:iq}{a:Act}{w:World}{o g:Oper}(h:l[i]?=some o)(e:l[j]?=some g)
  (h1:wpList P ops (QN fun f c=>∃b:World->Prop,(∀W,b W->d W)/\b c/\dS P ops R l s b f c) [o] a w)
  (h2:wpList P ops (QN fun f c=>∃b:World->Prop,(∀W,b W->d W)/\b c/\dS P ops R l t b f c) [g] a w):dS P ops R l (.two i j s t) d a w:=by
 simp only[dS,tU,h,e];exact⟨h1,h2⟩
theorem A4{g:World->Prop}{R:Act->World->Prop}{l:List Oper}{i j k:Nat}{s t u:iq}{a:Act}{w:World}{o m d:Oper}(n:l[i]?=some o)(h:l[j]?=some m)(e:l[k]?=some d)
  (h1:wpList P ops (QN fun f c=>∃b:World->Prop,(∀W,b W->g W)/\b c/\dS P ops R l s b f c) [o] a w)
  (h2:wpList P ops (QN fun f c=>∃b:World->Prop,(∀W,b W->g W)/\b c/\dS P ops R l t b f c) [m] a w)
  (p:wpList P ops (QN fun f c=>∃b:World->Prop,(∀W,b W->g W)/\b c/\dS P ops R l u b f c) [d] a w):dS P ops R l (.three i j k s t u) g a w:=by
 simp only[dS,tU,n,h,e];exact⟨h1,h2,p⟩
theorem bG{b:World->Prop}{R:Act->World->Prop}{l:List Oper}{a:Act}{w:World}(h:R a w):dS P ops R l .done b a w:=h
theorem aN{c:World->Prop}{K:(World->Prop)->Act->World->Prop}{a:Act}{w:World}(b:World->Prop)(h1:∀W,b W->c W)(h2:b w)(e:K b a w):
  QN (fun f d=>∃b:World->Prop,(∀W,b W->c W)/\b d/\K b f d) .normal a w:=⟨b,h1,h2,e⟩
def iq.lV:List Nat->iq->iq
 |[],p=>p
 |i::l,p=>.quiet i (iq.lV l p)
end
def From(S:Nat->Prop)(W:World):World->Prop:=fun a=>Turns S W a
theorem From.cell{S:Nat->Prop}{W:World}(x:Held (From S W)){b i:Nat}{v:Value}(c:¬S b)(h:W.cell? ⟨b,i,none⟩=some v):x.1.cell? ⟨b,i,none⟩=some v:=by
 rw[al1 (w:=W) (a:=⟨b,i,none⟩) (x.2.block b c (kK W ⟨b,i,none⟩ h))];exact h
structure RG(b:Nat)(W1:World)(L:List (Nat×Array Value×TypeId))(W:World):Prop where
 turn:Turns (·=b) W1 W
 blocks:∀x∈L,W1.heap.size<=x.1/\W.heap[x.1]?=some (.cells x.2.1 x.2.2 (0,0))
theorem RG.start(b:Nat)(a:World):RG b a [] (a.drewN 1):=⟨(Turns.refl _ _).drewN 1,fun _ h=>absurd h bH⟩
theorem RG.alloc{b:Nat}{a W:World}{L:List (Nat×Array Value×TypeId)}(h:RG b a L W)(cs:Array Value)(t:TypeId):RG b a ((W.heap.size,cs,t)::L) (W.alloc (.cells cs t)):=
 ⟨h.turn.alloc _,fun x hx=>by
  rcases mr.1 hx with rfl|hx
  ·exact⟨h.turn.size,bD W _ rfl⟩
  ·exact⟨(h.blocks x hx).1,cC _ (h.blocks x hx).2⟩⟩
theorem RG.take{b:Nat}{a W W':World}{L:List (Nat×Array Value×TypeId)}(h:RG b a L W)(d:b<a.heap.size)(c:Turns (·=b) W W'):RG b a L W':=
 ⟨h.turn.trans c,fun x hx=>⟨(h.blocks x hx).1,(c.block x.1 (by have:=(h.blocks x hx).1;show ¬x.1=b;omega) (aI (h.blocks x hx).2)).trans (h.blocks x hx).2⟩⟩
theorem RG.tail{b:Nat}{a W:World}{x:Nat×Array Value×TypeId}{L:List (Nat×Array Value×TypeId)}(h:RG b a (x::L) W):RG b a L W:=⟨h.turn,fun y c=>h.blocks y (List.mem_cons_of_mem _ c)⟩
theorem RG.cell{b:Nat}{a:World}{L:List (Nat×Array Value×TypeId)}(x:Held (RG b a L))(l:Nat)(cs:Array Value)(t:TypeId)(c:(l,cs,t)∈L){i:Nat}{v:Value}(d:cs[i]?=some v):x.1.cell? ⟨l,i,none⟩=some v:=
 (aP (x.2.blocks _ c).2 i).trans d
theorem RG.old{b:Nat}{c:World}{L:List (Nat×Array Value×TypeId)}(x:Held (RG b c L)){k i:Nat}{v:Value}(d:k≠b)(h:c.cell? ⟨k,i,none⟩=some v):x.1.cell? ⟨k,i,none⟩=some v:=by
 rw[al1 (w:=c) (a:=⟨k,i,none⟩) (x.2.turn.block k d (kK c ⟨k,i,none⟩ h))];exact h
theorem RG.block{b:Nat}{a W:World}{L:List (Nat×Array Value×TypeId)}(h:RG b a L W){k:Nat}{o:Obj}(d:k≠b)(c:a.heap[k]?=some o):W.heap[k]?=some o:=(h.turn.block k d (aI c)).trans c
theorem RG.store{b:Nat}{a V:World}{F:Nat}{cs:Array Value}{t:TypeId}(h:RG b a [(F,cs,t)] V)(i:Nat)(v:Value):RG b a [(F,cs.setIfInBounds i v,t)] (V.setCell ⟨F,i,none⟩ v):=
 ⟨h.turn.setCell_new _ _ (h.blocks (F,cs,t) bH).1,fun x hx=>by
  obtain rfl:=nL.1 hx;exact⟨(h.blocks (F,cs,t) bH).1,heap_setCell_same V F i cs t v (h.blocks (F,cs,t) bH).2⟩⟩
theorem RG.sub{b:Nat}{a W:World}{L L':List (Nat×Array Value×TypeId)}(h:RG b a L W)(c:∀x∈L',x∈L):RG b a L' W:=⟨h.turn,fun y d=>h.blocks y (c y d)⟩
theorem RG.refl(b:Nat)(a:World):RG b a [] a:=⟨Turns.refl _ _,fun _ h=>absurd h bH⟩
theorem RG.zZ{b:Nat}{c V:World}{F:Nat}{s r p n l j g e:Value}{t:TypeId}(h:RG b c [(F,#[s,r,p,n,l,j,g,e],t)] V)(a d f i k m o q:Value):
  RG b c [(F,#[a,d,f,i,k,m,o,q],t)] ((((((((V.setCell ⟨F,0,none⟩ a).setCell ⟨F,1,none⟩ d).setCell ⟨F,2,none⟩ f).setCell ⟨F,3,none⟩ i).setCell ⟨F,4,none⟩ k).setCell ⟨F,5,none⟩ m).setCell ⟨F,6,none⟩ o).setCell ⟨F,7,none⟩ q):=by
 have u:RG b c [(F,#[a,r,p,n,l,j,g,e],t)] _:=h.store 0 a;have v:RG b c [(F,#[a,d,p,n,l,j,g,e],t)] _:=u.store 1 d;have w:RG b c [(F,#[a,d,f,n,l,j,g,e],t)] _:=v.store 2 f;have x:RG b c [(F,#[a,d,f,i,l,j,g,e],t)] _:=w.store 3 i;have y:RG b c [(F,#[a,d,f,i,k,j,g,e],t)] _:=x.store 4 k;have z:RG b c [(F,#[a,d,f,i,k,m,g,e],t)] _:=y.store 5 m;have A:RG b c [(F,#[a,d,f,i,k,m,o,e],t)] _:=z.store 6 o;exact A.store 7 q
theorem zzR{P:Program}{ops:Array Oper}{R:Act->World->Prop}{l:List Oper}{s:iq}{φ:World->Prop}{a:Act}{w:World}{H:Prop}(p:Addr)(v:Value)(hq:∀xh:Held φ,xh.1.cell? p=some v)(k:H)(h:(∀xh:Held φ,xh.1.cell? p=some v)->H->dS P ops R l s φ a w:=by
  intro hq zk;refine bC rfl ?_;intro hne;go_big_quiet_step (fail);refine wpQuiet_nil ?_;clear hne hq;exact zk):dS P ops R l s φ a w:=h hq k
theorem alR{P:Program}{id:Nat}{Q:Exit->Act->World->Prop}{a:Act}{l:List Oper}(w:World)(n:Nat)(s:iq)(c:P.follows .mixedOrders=true)(hB:Region.qJ .any l.toArray n s=true)(h:∀b,Hid (Below w.heap.size w b)->dS P l.toArray (fun d e=>wpList P l.toArray Q (l.drop n) d e) l s (BL w) a b):(Code.region id l.toArray true).wp P Q a w:=bq n s _ c hB (aJ (Below.refl _ _) 1) (h _ (aJ (Below.refl _ _) 1))
theorem gF{G H:Prop}(k:H)(h:H->G:=by
  intro zk;refine bC rfl ?_;intro hne;go_big_quiet_step (fail);refine wpQuiet_nil ?_;clear hne;exact zk):G:=h k
theorem Tryz.afC:kF Tryz.prog 22 3 1 8:=jV (z:=.int .i64 0) zK zK rfl aD aD
def Xn(b N:Nat)(w:World)(e:Ending)(w':World):Prop:=
 ∃v l,e=.returned v/\aC.fN l/\dx (w.heap.size<=·) w' v l/\jl w' b (N+20)/\Turns (·=b) w w'
theorem jY{S:Nat->Prop}{w:World}{f:aC.dA}(h1:f.cV=[])(h2:f.bY=[]):lI S w (dh f (.slice none 0 0) (.slice none 0 0)) f:=
 ⟨_,_,rfl,by rw[h1];exact eA.nil _ _ _,by rw[h2];exact eA.nil _ _ _⟩
theorem F8{S:Nat->Prop}{W:World}{t:TypeId}{f:aC.dA}(h1:f.cV=[])(h2:f.bY=[]){N:Nat}(a:N=W.heap.size)(b:S N):
  dx S (W.alloc (.cells (dh f (.slice none 0 0) (.slice none 0 0)).toArray t)) (.slice (some ⟨N,0,none⟩) 1 1) [f]:=
 fC.lit bQ [dh f (.slice none 0 0) (.slice none 0 0)] [f] rfl (by simp[dh]) (fun j h _=>by
  match j,h with
  |0,_=>exact jY h1 h2) a b bH rfl rfl bH
theorem F9{S:Nat->Prop}{W:World}{t:TypeId}{f g:aC.dA}(h1:f.cV=[])(h2:f.bY=[])(g1:g.cV=[])(g2:g.bY=[]){N:Nat}(a:N=W.heap.size)(b:S N):
  dx S (W.alloc (.cells (dh f (.slice none 0 0) (.slice none 0 0)++dh g (.slice none 0 0) (.slice none 0 0)).toArray t)) (.slice (some ⟨N,0,none⟩) 2 2) [f,g]:=
 fC.lit bQ [dh f (.slice none 0 0) (.slice none 0 0),dh g (.slice none 0 0) (.slice none 0 0)] [f,g] rfl (by simp[dh]) (fun j h _=>by
  match j,h with
  |0,_=>exact jY h1 h2
  |1,_=>exact jY g1 g2) a b bH rfl rfl bH
def aij(b N n c F:Nat)(w:World)(k:Nat)(wr:World):Prop:=
 ∃d e a,wr.heap[F]?=some (.cells #[.string aC.BO,.string aC.nil,.string aC.nil,.int .i64 3,.int .i64 0,.int .i64 0,.slice (some ⟨c,0,none⟩) n 3,.slice d k e] 85 (0,0))/\
  wr.heap[c]?=some (.cells (aC.ja.map Value.string).toArray 9 (0,0))/\bp (fun x=>F<x) wr (.slice d k e) a/\a.length=k/\(∀g∈a,0<=g/\g<=5)/\jl wr b (N+2+k)/\Turns (·=b) w wr
theorem Ga{S:Nat->Prop}{W:World}{n:Nat}{l:List ByteArray}{t:TypeId}(h:W.heap[n]?=some (.cells (l.map Value.string).toArray t (0,0)))(b:S n){c m:Nat}(d:c<=l.length)(e:m=l.length)(f:l.length<=1000):
  gE S W (.slice (some ⟨n,0,none⟩) c m) (l.take c):=by
 subst e;have a:(l.take c).length=c:=Qt
 refine⟨some ⟨n,0,none⟩,l.length,by rw[a],fun _=>⟨_,_,rfl⟩,by rw[a];exact d,Wy,fun _=>b,fun j g=>⟨.string (l.take c)[j],?_,rfl⟩⟩;rw[fK,fL,zxn];refine(aP h j).trans ?_;rw[List.getElem?_toArray,alY,lN aD];simp
theorem lg(S:Nat->Prop)(W:World)(t:TypeId)(x:Int){N:Nat}(a:N=W.heap.size)(b:S N):bB S (W.alloc (.cells #[.int .i64 x] t)) (.slice (some ⟨N,0,none⟩) 1 1) [x]:=by
 subst a;refine⟨_,_,rfl,fun _=>⟨_,_,rfl⟩,aL,Qu,fun _=>b,fun j hj=>?_⟩;obtain rfl:j=0:=BI
 exact⟨_,by simpa using iR W #[.int .i64 x] t 0 _ rfl,rfl⟩
theorem Xo(b N:Nat)(hN:N<=90000)(w:World)(hm:jl w b N):
  CP 37 #[.pointer (some ⟨b,0,none⟩)] w (Xn b N w):=by
 have HM:=hid hm;clear hm;go_enter Tryz.func37,Tryz.ntmps37;go_wp2_with fail;refine(bX 6 aD aD b N aD w HM.out).mono ?_;rintro e w1 ⟨t,rfl,h0,h6,ak,al,am⟩;have M:=hid ak;have wI:=hid al;have T:=hid am;clear ak al am HM;rcases (show t=0\/t=1\/t=2\/t=3\/t=4\/t=5 by omega) with rfl|rfl|rfl|rfl|rfl|rfl
 ·go_wp2_with fail
  refine(bX 11 aD aD b (N+1) aD w1 M.out).mono ?_;rintro e w2 ⟨t,rfl,g0,g6,l,o,q⟩;have F:=hid l;have O:=hid (wI.out.trans o);have d:=hid (q.trans T.out);clear l o q M wI T h0 h6;go_wp2_with fail;refine(bX 20 aD aD b (N+2) aD w2 F.out).mono ?_;rintro e w3 ⟨y,rfl,f0,f6,EM,A,B⟩;have H:=hid EM;have Iy:=hid (O.out.trans A);have I:=hid (B.trans d.out);clear EM A B F O d;go_wp2;go_ret
  exact⟨_,[aC.F5 (t-5) (t-5+y)],rfl,.size _ _ ⟨aD,aD,aD⟩,F8 (f:=aC.F5 (t-5) (t-5+y)) rfl rfl rfl (by have:=I.out;show _<=_;omega),
   (H.out.mono aD).keep (aH.below (aG.alloc aL _)),Iy.out.trans (Turns.bg (aG.alloc aL _))⟩
 ·go_wp2_with fail
  refine(bX 3 aD aD b (N+1) aD _ (M.out.keep (aH.below (aG.alloc aL _)))).mono ?_;rintro e w2 ⟨t,rfl,g0,g6,l,o,q⟩;obtain⟨n,rfl⟩:∃n:Nat,t=(n:Int):=⟨t.toNat,aD⟩
  have aF:Hid (w2.heap[w1.heap.size]?=some (.cells (aC.ja.map Value.string).toArray 9 (0,0))):=hid (by
   rw[o.block _ (by have:=M.out.lt;omega) bH]
   exact zAn w1 _)
  have O:Hid (Turns (·=b) w w2):=hid (wI.out.trans ((Turns.bg (aG.alloc aL _)).trans o));have d:Hid (w2.heap.size=w.heap.size+1):=hid (by rw[q,World.size_alloc,T.out]);have F:=hid l;clear l o q;go_wp2;have aK:1<=1+n:=aD
  have an:1+n<=3:=aD
  generalize 1+n=c at*;clear g0 g6;have aM:b<w2.heap.size:=F.out.lt;have Iz:b<w1.heap.size:=M.out.lt;have hsz:w1.heap.size<w2.heap.size:=by have:=T.out;have:=d.out;omega
  go_loopw [6] (fun i wr=>∃k:Nat,k<=c/\i=.int .i64 k/\Hid (aij b N c w1.heap.size w2.heap.size w k wr)) (fun i _=>c-(intOf i).toNat)
  case atStart=>
   refine⟨0,aD,rfl,hid ⟨none,0,[],zAn w2 _,cC _ aF.out,bp.nil _ _,rfl,bH,(F.out.mono aD).keep (aH.below (aG.alloc aL _)),O.out.trans (Turns.bg (aG.alloc aL _))⟩⟩
  case round=>
   obtain⟨k,hk,rfl,hR⟩:=hrel;obtain⟨ag,cg,gs,r1,r2,r3,r4,r5,r6,r7⟩:=hR.out;by_cases aO:k<c
   ·obtain⟨p,u⟩:=bJ (#[.string aC.BO,.string aC.nil,.string aC.nil,.int .i64 3,.int .i64 0,.int .i64 0,.slice (some ⟨w1.heap.size,0,none⟩) c 3,.slice ag k cg]:Array Value)
    rw[<-u] at r1;have r:jX w2.heap.size p 85 (wr.drewN 1):=r1;have HR:=hid (And.intro r1 (And.intro r2 (And.intro r3 (And.intro r4 (And.intro r5 (And.intro r6 r7))))));clear r1 r2 r3 r4 r5 r6 r7;have HFC:=hid u;go_wp2;refine bq 5 (.quiet 0 (.quiet 1 (.quiet 2 (.one 3 (.one 4 .done))))) (jX w2.heap.size p 85) nK zK r ?_;have v:∀x:Held (jX w2.heap.size p 85),x.1.cell? ⟨w2.heap.size,7,none⟩=some (.slice ag k cg):=fun x=>(aP x.2 7).trans R8;clear u
    iterate 3 refine gF ?_
    clear v;refine aZ rfl ?_;go_wp2_with fail;refine(bX 5 aD aD b (N+2+k) aD _ (HR.out.2.2.2.2.2.1.keep (aH.below (aJ aG _)))).mono ?_;rintro e w5 ⟨t,rfl,q0,q5,U,P,C⟩;have z:w5.heap[w2.heap.size]?=some (.cells p 85 (0,0)):=(P.block w2.heap.size (show ¬w2.heap.size=b by omega) (aI HR.out.1)).trans HR.out.1;have J:=(P.block w1.heap.size (show ¬w1.heap.size=b by omega) (aI HR.out.2.1)).trans HR.out.2.1;have K:bp (fun x=>w2.heap.size<x) w5 (.slice ag k cg) gs:=aW.keep HR.out.2.2.1 ((Turns.bg (S:=(·=b)) (aJ aG 1)).trans P|>.keep (fun x hx e=>by omega));have V:=HR.out.2.2.2.2.2.2.trans ((Turns.bg (aJ aG 1)).trans P);have L:=hid (And.intro z (And.intro J (And.intro K (And.intro U V))));obtain⟨hl,W⟩:=And.intro HR.out.2.2.2.1 HR.out.2.2.2.2.1;have HG:=hid (And.intro hl W);clear U P C z J K V HR hl W hR r;go_wp2;refine aN (jX w2.heap.size p 85) (fun _ h=>h) L.out.1 ?_;refine aZ rfl ?_;go_wp2;refine aN (jX w2.heap.size p 85) (fun _ h=>h) (cC _ L.out.1) ?_;refine bG ?_;try simp only[jW,jH]
    go_wp2_with (at_builtin;go_must (refine dI rfl _ _ rfl Tryz.afC rfl L.out.2.2.1 (aG.alloc aL _) rfl (lg dr w5 _ t rfl trivial) (by have:=HG.out.1;omega) ?_));intro v' w6 ae Q;have e:(gs++[t]).length=k+1:=by simp[HG.out.1]
    obtain⟨Xq,VU,ao, -, -, -⟩:=(bp.sl ae).form;rw[e] at ao;subst ao;obtain⟨z,J,K,U,V⟩:=L.out;have hne:∀x,x<=w2.heap.size->¬some x=(Value.slice ag k cg).ownBlock:=fun x hx e=>by have:=K.2 x e.symm;omega
    have G:w6.heap[w2.heap.size]?=some (.cells p 85 (0,0)):=(Q.block _ (hne _ aL) (aI (cC _ z))).trans (cC _ z);have X:=(Q.block _ (hne w1.heap.size aD) (aI (cC _ J))).trans (cC _ J);have ap:jl w6 b (N+2+k+1):=(U.keep (aH.below (aG.alloc aL _))).keep (Q.keep (fun x hx e=>hne x aD e))
    have R:Turns (·=b) w w6:=(V.alloc _).into Q (fun x hx e=>by
     have h9:=K.2 x e.symm;have:=d.out;omega)
    have a5:=fM G 7;have a6:=(aP G 7).trans (show p[7]?=some (.slice ag k cg) by rw[HFC.out];rfl);have Y:(w6.setCell ⟨w2.heap.size,7,none⟩ (.slice Xq (k+1) VU)).heap[w2.heap.size]?=some (.cells (p.setIfInBounds 7 (.slice Xq (k+1) VU)) 85 (0,0)):=heap_setCell_same _ _ _ _ _ _ G;have Sz:∀x,x≠w2.heap.size->(w6.setCell ⟨w2.heap.size,7,none⟩ (.slice Xq (k+1) VU)).heap[x]?=w6.heap[x]?:=fun x hx=>mO _ _ _ _ hx
    have H7:Hid (aij b N c w1.heap.size w2.heap.size w (k+1) (w6.setCell ⟨w2.heap.size,7,none⟩ (.slice Xq (k+1) VU))):=hid (by
     refine⟨Xq,VU,gs++[t],Y.trans R8,(Sz _ aD).trans X,?_,e,?_,?_,?_⟩
     ·refine aW.keep (aW.mono ae (S':=fun x=>w2.heap.size<x) (fun x _ hx=>?_)) (fun x hx _=>Sz x aD)
      rcases hx with hx|hx
      ·exact hx.1
      ·have:=aI z;show _<_;omega
     ·intro g W
      rcases zxx.1 W with W|W
      ·exact HG.out.2 g W
      ·rw[nL.1 W];omega
     ·exact ap.keep (fun x hx _=>Sz x aD)
     ·exact R.setCell_new _ _ (by have:=d.out;show _<=w2.heap.size;omega))
    clear Y Sz R ap X G hne z J K U V ae Q L e;go_wp2;go_roundw;case rel=>exact⟨k+1,aD,zG,H7⟩
    exact zI
   ·have aQ:c=k:=by omega
    subst aQ;clear aO hk;obtain⟨g,VU,aR,a7,aS,aq⟩:=r3.sN aD;injection aR with hag1 abH hag3;subst hag1 hag3;obtain⟨p,u⟩:=bJ (#[.string aC.BO,.string aC.nil,.string aC.nil,.int .i64 3,.int .i64 0,.int .i64 0,.slice (some ⟨w1.heap.size,0,none⟩) c 3,.slice (some ⟨g,0,none⟩) c cg]:Array Value);rw[<-u] at r1;have r:jX w2.heap.size p 85 (wr.drewN 1):=r1;have HR:=hid (And.intro r1 (And.intro r2 (And.intro r3 (And.intro r4 (And.intro r5 (And.intro r6 r7))))));have vV:=hid aq;clear r1 r2 r3 r4 r5 r6 r7 abH aq;have HFC:=hid u;go_wp2;refine bq 9 (.quiet 0 (.quiet 1 (.quiet 2 (.quiet 3 (.quiet 6 (.one 4 (.one 5 (.one 7 (.one 8 .done))))))))) (jX w2.heap.size p 85) nK zK r ?_;have v:∀x:Held (jX w2.heap.size p 85),x.1.cell? ⟨w2.heap.size,7,none⟩=some (.slice (some ⟨g,0,none⟩) c cg):=fun x=>(aP x.2 7).trans R8;clear u
    iterate 4 refine gF ?_
    refine gF ?_;clear v;refine aZ rfl ?_;go_wp2;refine aN (jX w2.heap.size p 85) (fun _ h=>h) r ?_;refine aZ rfl ?_;go_wp2_with fail;refine(bX _ aD aD b (N+2+c) aD _ (HR.out.2.2.2.2.2.1.keep (aH.below (aJ aG _)))).mono ?_;rintro e w5 ⟨t,rfl,q0,q5,U,P,C⟩;obtain⟨m,rfl⟩:∃m:Nat,t=(m:Int):=⟨t.toNat,aD⟩;have ar:m<c:=aD
    have z:w5.heap[w2.heap.size]?=some (.cells p 85 (0,0)):=(P.block w2.heap.size (show ¬w2.heap.size=b by omega) (aI HR.out.1)).trans HR.out.1;have L:=hid (And.intro z (And.intro U (And.intro P C)));clear U P C z r;go_wp2;refine aN (jX w2.heap.size p 85) (fun _ h=>h) L.out.1 ?_;refine aZ rfl ?_;go_wp2_with fail;refine(bX 3 aD aD b (N+2+c+1) aD _ L.out.2.1).mono ?_;rintro e w6 ⟨t,rfl,p0,p5,Gb,Q,af⟩;have R:=((Turns.bg (S:=(·=b)) (aJ (Below.refl _ wr) 1)).trans L.out.2.2.1).trans Q;have G:w6.heap[w2.heap.size]?=some (.cells p 85 (0,0)):=(R.block w2.heap.size (show ¬w2.heap.size=b by omega) (aI HR.out.1)).trans HR.out.1;have X:=(R.block w1.heap.size (show ¬w1.heap.size=b by omega) (aI HR.out.2.1)).trans HR.out.2.1;have ah:=R.block g (show ¬g=b by omega) aS;have au:bp (fun x=>w2.heap.size<x) w6 (.slice (some ⟨g,0,none⟩) c cg) gs:=aW.keep HR.out.2.2.1 (R.keep (fun x hx e=>by omega));obtain⟨⟨x0,v⟩,av⟩:=vV.out m (by rw[HR.out.2.2.2.1];exact ar);have aw:w6.cell? ⟨g,m,none⟩=some (.int .i64 x0):=by rw[al1 (w:=wr) (a:=⟨g,m,none⟩) ah];exact v
    have a8:w6.frozen? ⟨g,m,none⟩=false:=by
     have:w6.frozen? ⟨g,m,none⟩=wr.frozen? ⟨g,m,none⟩:=by simp only[World.frozen?,ah]
     rw[this];exact av
    have aT:=hid (HR.out.2.2.2.2.2.2.trans R);have Z:=hid (And.intro G (And.intro X (And.intro au Gb)));obtain⟨hl,W⟩:=And.intro HR.out.2.2.2.1 HR.out.2.2.2.2.1;have HG:=hid (And.intro hl W);clear Gb Q af R G X ah au hl W hR HR L vV v av;go_wp2;refine aN (jX w2.heap.size p 85) (fun _ h=>h) Z.out.1 ?_;refine aZ rfl ?_;go_wp2;refine aN (jX w2.heap.size p 85) (fun _ h=>h) Z.out.1 ?_;refine bG ?_;try simp only[jW,jH]
    have a9:(0:Int)<=m:=aD
    have l:(m:Int)<c:=aD
    have ba:dV (some ⟨g,0,none⟩) c:=fun _=>⟨_,_,rfl⟩;have G:=Z.out.1;rw[HFC.out] at G;obtain⟨⟨y0,y1,y2,y3,y4,y5,y6,y7⟩, -⟩:=ez G;clear G;have bb:¬g=w2.heap.size:=aD
    have a4:¬w2.heap.size=g:=aD
    have HK:∀x,x≠g->(w6.setCell ⟨g,m,none⟩ (.int .i64 (1+t))).heap[x]?=w6.heap[x]?:=fun x hx=>mO _ _ _ _ hx
    have HP:Hid (Xn b N w (.returned (.slice (some ⟨w6.heap.size,0,none⟩) 1 1)) ((w6.setCell ⟨g,m,none⟩ (.int .i64 (1+t))).alloc (.cells (dh (aC.Ff (aC.ja.take c) (gs.set m (1+t))) (.slice (some ⟨w1.heap.size,0,none⟩) c 3) (.slice (some ⟨g,0,none⟩) c cg)).toArray 85))):=hid (by
     obtain⟨k1,k2,k3,k4⟩:=Z.out
     have hI:=k3.set (HG.out.1).symm m (1+t)
     have hS:=d.out
     have aU:w.heap.size<=w6.heap.size:=by
      have h2:=aI k1;omega
     refine⟨_,[aC.Ff (aC.ja.take c) (gs.set m (1+t))],rfl,.tag c _ aK an (by rw[zxl];exact HG.out.1) (fun x hx=>?_) ?_,?_,?_,?_⟩
     ·rcases List.mem_or_eq_of_mem_set hx with hx|rfl
      ·exact HG.out.2 x hx
      ·omega
     ·refine aC.Kr _ (fun x hx=>?_) ⟨1+t,List.mem_set (by rw[HG.out.1];exact ar) _,aD⟩
      rcases List.mem_or_eq_of_mem_set hx with hx|rfl
      ·exact(HG.out.2 x hx).1
      ·omega
     ·refine fC.lit bQ [dh (aC.Ff (aC.ja.take c) (gs.set m (1+t))) (.slice (some ⟨w1.heap.size,0,none⟩) c 3) (.slice (some ⟨g,0,none⟩) c cg)] [_] rfl (by simp[dh]) (fun j h _=>?_) (by simp[World.setCell]) aU bH rfl rfl bH
      match j,h with
      |0,_=>
       refine⟨_,_,rfl,?_,bB.mono (bp.sl hI) (fun x _ hx=>by have:w2.heap.size<x:=hx;show _<=x;omega)⟩
       have hW:=(HK w1.heap.size aD).trans k2
       exact Ga hW (by show _<=w1.heap.size;rw[T.out];exact aL) an rfl iG
     ·exact((k4.mono aD).keep (fun x hx _=>HK x aD)).keep (aH.below (aG.alloc aL _))
     ·exact(aT.out.setCell_new ⟨g,m,none⟩ _ (by show _<=g;omega)).alloc _)
    clear HK;go_wp2;go_ret;exact HP.out
 ·go_wp2_with fail
  refine(bX 400 aD aD b (N+1) aD w1 M.out).mono ?_;rintro e w2 ⟨t,rfl,g0,g6,l,o,q⟩;have F:=hid l;have O:=hid (wI.out.trans o);have d:=hid (q.trans T.out);clear l o q M wI T h0 h6;have aM:b<w2.heap.size:=F.out.lt;go_wp2;obtain⟨p,u⟩:=bJ (#[.string aC.qG,.string aC.nil,.string aC.nil,.int .i64 4,.int .i64 (t-200),.int .i64 0,.slice none 0 0,.slice none 0 0]:Array Value);have ai:(w2.alloc (.cells p 85)).heap[w2.heap.size]?=some (.cells p 85 (0,0)):=zAn w2 _;have ax:jl (w2.alloc (.cells p 85)) b (N+2):=F.out.keep (aH.below (aG.alloc aL _));have ay:Turns (·=b) w (w2.alloc (.cells p 85)):=O.out.alloc _;rw[show (#[.string {data:=#[98,111,114,110]},.string {data:=#[]},.string {data:=#[]},.int .i64 4,.int .i64 (t-200),.int .i64 0,.slice none 0 0,.slice none 0 0]:Array Value)=p from u.symm];generalize w2.alloc (.cells p 85)=w3 at*;have HFC:=hid u;have r:jX w2.heap.size p 85 (w3.drewN 1):=ai;have H3:=hid (And.intro ai (And.intro ax ay));clear ai ax ay;refine bq 4 (.quiet 0 (.quiet 1 (.quiet 2 (.one 3 .done)))) (jX w2.heap.size p 85) nK zK r ?_;have v:∀x:Held (jX w2.heap.size p 85),x.1.cell? ⟨w2.heap.size,4,none⟩=some (.int .i64 (t-200)):=fun x=>(aP x.2 4).trans R8;clear u
  iterate 3 refine gF ?_
  clear v;refine aZ rfl ?_;go_wp2_with fail;refine(bX 60 aD aD b (N+2) aD _ (H3.out.2.1.keep (aH.below (aJ aG _)))).mono ?_;rintro e w4 ⟨y,rfl,q0,q5,VX,tT,ad⟩;have D:w4.heap[w2.heap.size]?=some (.cells p 85 (0,0)):=(tT.block w2.heap.size (show ¬w2.heap.size=b by omega) (aI H3.out.1)).trans H3.out.1;have az:=(H3.out.2.2.drewN 1).trans tT;have H4:=hid (And.intro D (And.intro VX az));clear VX tT ad D az r H3;go_wp2;refine aN (jX w2.heap.size p 85) (fun _ h=>h) H4.out.1 ?_;refine bG ?_;try simp only[jW,jH]
  have D:=H4.out.1;rw[HFC.out] at D;obtain⟨⟨-, -, -, -, -,y5, -, -⟩,yz⟩:=ez D;have aV:=yz 5;have z:(w4.setCell ⟨w2.heap.size,5,none⟩ (.int .i64 (t-200+y))).heap[w2.heap.size]?=some (.cells #[.string aC.qG,.string aC.nil,.string aC.nil,.int .i64 4,.int .i64 (t-200),.int .i64 (t-200+y),.slice none 0 0,.slice none 0 0] 85 (0,0)):=heap_setCell_same w4 _ 5 _ _ _ D;have aa:jl (w4.setCell ⟨w2.heap.size,5,none⟩ (.int .i64 (t-200+y))) b (N+3):=H4.out.2.1.keep (fun x hx _=>mO _ _ _ _ (show x≠w2.heap.size by omega));have V:=H4.out.2.2.setCell_new ⟨w2.heap.size,5,none⟩ (.int .i64 (t-200+y)) (by have:=d.out;show _<=w2.heap.size;omega);have L:=hid (And.intro z (And.intro aa V));clear z aa V D yz HFC H4;go_wp2;generalize w4.setCell ⟨w2.heap.size,5,none⟩ (.int .i64 (t-200+y))=w5 at*;obtain⟨E,aj⟩:=bJ (#[.string aC.qG,.string aC.nil,.string aC.nil,.int .i64 4,.int .i64 (t-200),.int .i64 (t-200+y),.slice none 0 0,.slice none 0 0]:Array Value);obtain⟨z,aa,V⟩:=L.out;rw[<-aj] at z;have r:jX w2.heap.size E 85 (w5.drewN 1):=z;have HFC:=hid aj;have ab:=hid (And.intro z (And.intro aa V));clear L z aa V y5 aV;refine bq 7 (.quiet 0 (.quiet 1 (.quiet 3 (.one 2 (.one 4 (.one 5 (.one 6 .done))))))) (jX w2.heap.size E 85) nK zK r ?_;have v:∀x:Held (jX w2.heap.size E 85),x.1.cell? ⟨w2.heap.size,0,none⟩=some (.string aC.qG):=fun x=>(aP x.2 0).trans R8;have hx1:∀x:Held (jX w2.heap.size E 85),x.1.cell? ⟨w2.heap.size,1,none⟩=some (.string aC.nil):=fun x=>(aP x.2 1).trans R8;have aX:∀x:Held (jX w2.heap.size E 85),x.1.cell? ⟨w2.heap.size,2,none⟩=some (.string aC.nil):=fun x=>(aP x.2 2).trans R8;have aY:∀x:Held (jX w2.heap.size E 85),x.1.cell? ⟨w2.heap.size,3,none⟩=some (.int .i64 4):=fun x=>(aP x.2 3).trans R8;have Cl:∀x:Held (jX w2.heap.size E 85),x.1.cell? ⟨w2.heap.size,4,none⟩=some (.int .i64 (t-200)):=fun x=>(aP x.2 4).trans R8;have a0:∀x:Held (jX w2.heap.size E 85),x.1.cell? ⟨w2.heap.size,5,none⟩=some (.int .i64 (t-200+y)):=fun x=>(aP x.2 5).trans R8;have aw:∀x:Held (jX w2.heap.size E 85),x.1.cell? ⟨w2.heap.size,6,none⟩=some (.slice none 0 0):=fun x=>(aP x.2 6).trans R8;have a1:∀x:Held (jX w2.heap.size E 85),x.1.cell? ⟨w2.heap.size,7,none⟩=some (.slice none 0 0):=fun x=>(aP x.2 7).trans R8;clear aj
  iterate 2 refine gF ?_
  refine gF ?_;clear v hx1 aX aY Cl a0 aw a1;refine aZ rfl ?_;go_wp2_with fail;refine(bX 3 aD aD b (N+3) aD _ (ab.out.2.1.keep (aH.below (aJ aG _)))).mono ?_;rintro e w6 ⟨s,rfl,p0,p5,Gb,Q,af⟩;have G:w6.heap[w2.heap.size]?=some (.cells E 85 (0,0)):=(Q.block w2.heap.size (show ¬w2.heap.size=b by omega) (aI ab.out.1)).trans ab.out.1;have R:=(ab.out.2.2.drewN 1).trans Q;have Z:=hid (And.intro G (And.intro Gb R));clear Gb Q af G R r ab;go_wp2;refine aN (jX w2.heap.size E 85) (fun _ h=>h) Z.out.1 ?_;refine aZ rfl ?_;go_wp2_with fail;refine(bX 30 aD aD b (N+4) aD _ Z.out.2.1).mono ?_;rintro e w7 ⟨s',rfl,o0,o5,Xr,qz,a2⟩;have Y:w7.heap[w2.heap.size]?=some (.cells E 85 (0,0)):=(qz.block w2.heap.size (show ¬w2.heap.size=b by omega) (aI Z.out.1)).trans Z.out.1;have aA:=Z.out.2.2.trans qz;have H7:=hid (And.intro Y (And.intro Xr aA));clear Xr qz a2 Y aA Z
  iterate 2
   go_wp2
   refine aN (jX w2.heap.size E 85) (fun _ h=>h) H7.out.1 ?_
   refine aZ rfl ?_
  go_wp2;refine aN (jX w2.heap.size E 85) (fun _ h=>h) H7.out.1 ?_;refine bG ?_;try simp only[jW,jH]
  go_wp2;go_ret
  exact⟨_,[aC.tO (t-200) (t-200+y),aC.wG s (3+s')],rfl,.born _ _ _ _ ⟨aD,aD,aD⟩ ⟨aD,aD,aD⟩,F9 (f:=aC.tO (t-200) (t-200+y)) (g:=aC.wG s (3+s')) rfl rfl rfl rfl rfl (by have:=aI H7.out.1;have:=d.out;show _<=_;omega),
   (H7.out.2.1.mono aD).keep (aH.below (aG.alloc aL _)),H7.out.2.2.alloc _⟩
 ·go_wp2_with fail
  refine(bX 3 aD aD b (N+1) aD w1 M.out).mono ?_;rintro e w2 ⟨t,rfl,g0,g6,l,o,q⟩;have F:=hid l;have O:=hid (wI.out.trans o);have d:=hid (q.trans T.out);clear l o q M wI T h0 h6;go_wp2_with fail;refine(bX 4 aD aD b (N+2) aD w2 F.out).mono ?_;rintro e w3 ⟨y,rfl,f0,f6,EM,A,B⟩;have H:=hid EM;have Iy:=hid (O.out.trans A);have I:=hid (B.trans d.out);clear EM A B F O d;go_wp2;go_ret
  exact⟨_,[aC.qm t (t+y)],rfl,.state _ _ aD aD aD,F8 (f:=aC.qm t (t+y)) rfl rfl rfl (by have:=I.out;show _<=_;omega),
   (H.out.mono aD).keep (aH.below (aG.alloc aL _)),Iy.out.trans (Turns.bg (aG.alloc aL _))⟩
 ·go_wp2_with fail
  refine(bX 5 aD aD b (N+1) aD w1 M.out).mono ?_;rintro e w2 ⟨t,rfl,g0,g6,l,o,q⟩;have F:=hid l;have O:=hid (wI.out.trans o);have d:=hid (q.trans T.out);clear l o q M wI T h0 h6;go_wp2_with fail;refine(bX 10 aD aD b (N+2) aD w2 F.out).mono ?_;rintro e w3 ⟨y,rfl,f0,f6,EM,A,B⟩;have H:=hid EM;have Iy:=hid (O.out.trans A);have I:=hid (B.trans d.out);clear EM A B F O d;go_wp2_with fail;refine(bX 5 aD aD b (N+3) aD w3 H.out).mono ?_;rintro e w4 ⟨s,rfl,e0,e6,VX,tT,ad⟩;have aB:=hid VX;have aE:=hid (Iy.out.trans tT);have SA:=hid (ad.trans I.out);clear VX tT ad H Iy I;go_wp2_with fail;refine(bX 10 aD aD b (N+4) aD w4 aB.out).mono ?_;rintro e w5 ⟨s',rfl,d0,d6,U,P,C⟩;have a3:=hid U;have NI:=hid (aE.out.trans P);have BP:=hid (C.trans SA.out);clear U P C aB aE SA;go_wp2;go_ret
  exact⟨_,[aC.Fg t (5+y),aC.tP s (10+s')],rfl,.low _ _ _ _ ⟨aD,aD,aD⟩ ⟨aD,aD,aD⟩,F9 (f:=aC.Fg t (5+y)) (g:=aC.tP s (10+s')) rfl rfl rfl rfl rfl (by have:=BP.out;show _<=_;omega),
   (a3.out.mono aD).keep (aH.below (aG.alloc aL _)),NI.out.trans (Turns.bg (aG.alloc aL _))⟩
 ·go_wp2
  go_ret;exact⟨_,[],rfl,.none,fC.nil _ _ _ _,M.out.mono aD,wI.out⟩
theorem Cm(fs:List aC.dA)(s:ByteArray)(v:Value)(S:Nat->Prop)(w:World)(g:dx S w v fs):
  CP 36 #[v,.string s] w fun e o=>e=.returned (.int .i64 (aC.Fh fs s))/\w=o:=by
 have q:=hid g;obtain⟨a,cap,rfl,r,m,n⟩:=g.form;clear g;go_enter Tryz.func36,Tryz.ntmps36;go_wp2;go_loop [5] (fun i=>∃k:Nat,k<=fs.length/\i=.int .i64 k/\Hid (∀j (h:j<fs.length),j<k->decide (fs[j].name=s)=false)) (fun i=>fs.length-(intOf i).toNat);case atStart=>exact⟨0,aD,rfl,hid (fun _ _ h=>absurd h aD)⟩
 case round=>
  obtain⟨k,A,rfl,hpre⟩:=hrel;by_cases c:k<fs.length
  ·obtain⟨-, -,c0, -⟩:=q.out.at c
   have t:(0:Int)<=k:=aD
   have u:(k:Int)<fs.length:=aD
   by_cases b:fs[k].name=s
   ·have d:Hid (aC.Fh fs s=(k:Int)):=hid (by
     have:=aC.pZ (p:=fun f:aC.dA=>decide (f.name=s)) (i:=0) c hpre.out (decide_eq_true b)
     rw[zxn] at this
     exact this)
    have x:=Sy b;generalize fs[k].name=y at*;clear b;go_wp2;go_ret;exact⟨iL d.out.symm,rfl⟩
   ·have d:Hid (∀j (h:j<fs.length),j<k+1->decide (fs[j].name=s)=false):=hid (fun j l z=>by
     by_cases e:j=k
     ·subst e;exact decide_eq_false b
     ·exact hpre.out j l aD)
    have x:=CK b;generalize fs[k].name=y at*;clear b;go_wp2;go_round;case rel=>exact⟨k+1,aD,zG,d⟩
    exact zI
  ·have d:Hid (aC.Fh fs s= -1):=hid (aC.oP (fun j l=>hpre.out j l aD))
   go_wp2;go_ret;exact⟨iL d.out.symm,rfl⟩
theorem adG{p:Prop}(h:p:=by
  have HN':=hid (HN.out (by rw[HC.out];rfl))
  go_wp2
  go_round
  case rel=>exact⟨j+1,aD,zG,HN'⟩
  exact zI):p:=h
theorem NJ(k:aC.fT)(us:List Value)(S:Nat->Prop)(w:World)(v:Fj S w us k)(cs:Array Value)(l:cs=us.toArray):
  CB 35 #[.agg cs] w (.int .i64 (aC.QD k.aF)):=by
 obtain⟨E,rfl,n⟩:=v;subst l;obtain⟨a,cap,rfl,x,r,s⟩:=n.form;have t:dx S (w.alloc (.cells #[.string k.name,.int .i64 k.lo,.int .i64 k.hi,.slice a k.aF.length cap] 53)) (.slice a k.aF.length cap) k.aF:=dx.keep n (aH.below (aG.alloc aL _));have y:=hid t;have u:Hid (BL w (w.alloc (.cells #[.string k.name,.int .i64 k.lo,.int .i64 k.hi,.slice a k.aF.length cap] 53))):=hid (aG.alloc aL _);simp only[kH];clear n t;go_enter Tryz.func35,Tryz.ntmps35;go_wp2;go_loop [3] (fun i=>∃j:Nat,j<=k.aF.length/\i=.int .i64 j/\Hid (∀m (h:m<k.aF.length),m<j->aC.wH k.aF[m]=false)) (fun i=>k.aF.length-(intOf i).toNat);case atStart=>exact⟨0,aD,rfl,hid (fun _ _ h=>absurd h aD)⟩
 case round=>
  obtain⟨j,F,rfl,hpre⟩:=hrel;by_cases b:j<k.aF.length
  ·obtain⟨-, -, -, -, -,c3, -⟩:=y.out.at b
   have z:(0:Int)<=j:=aD
   have A:(j:Int)<k.aF.length:=aD
   have B:Hid (aC.wH k.aF[j]=true->aC.QD k.aF=(j:Int)):=hid (fun o=>by
    have:=aC.pZ (i:=0) b hpre.out o;rw[zxn] at this;exact this)
   have HN:Hid (aC.wH k.aF[j]=false->∀m (h:m<k.aF.length),m<j+1->aC.wH k.aF[m]=false):=hid (fun o m p C=>by
    by_cases e:m=j
    ·subst e;exact o
    ·exact hpre.out m p aD)
   have HC:Hid (aC.wH k.aF[j]=(decide (k.aF[j].kind≠0)&&decide (k.aF[j].kind≠1)&&decide (k.aF[j].kind≠6)&&decide (k.aF[j].kind≠7))):=hid rfl;generalize aC.wH k.aF[j]=G at*;generalize k.aF[j].kind=kd at*;by_cases c:kd=0
   ·subst c
    exact adG
   ·by_cases d:kd=1
    ·subst d
     exact adG
    ·by_cases f:kd=6
     ·subst f
      exact adG
     ·by_cases g:kd=7
      ·subst g
       exact adG
      ·have q:=hid (B.out (by rw[HC.out];simp[c,d,f,g]))
       have H:=Ny c;have I:=Ny d;have J:=Ny f;have K:=Ny g;clear c d f g;go_wp2;go_ret;exact⟨iL q.out.symm,u.out⟩
  ·have D:Hid (aC.QD k.aF= -1):=hid (aC.oP (fun m p=>hpre.out m p aD))
   go_wp2;go_ret;exact⟨iL D.out.symm,u.out⟩
end Go.Proofs.YtohddpbgflgiaaaGreatDoor
