/- Part 14 of the walks and plain laws that the proof needs (packed). -/
import Derived.Laws.EntriesVeiled
import Derived.BigQuiet
import Derived.Deep.DeepCutAuto
import Derived.Deep.QuietTactic
import Derived.BigRegion
import Derived.Test.YteiakkfdchnddaaGreatDoorQ1
import Derived.Test.YteiakkfdchnddaaGreatDoorQ2
import Derived.Test.YteiakkfdchnddaaGreatDoorQ6
import Derived.Test.YteiakkfdchnddaaGreatDoorQ10
import Derived.Test.YteiakkfdchnddaaGreatDoorQ13
set_option linter.all false
set_option maxRecDepth 100000
set_option maxHeartbeats 8000000
namespace Go.Proofs.YteiakkfdchnddaaGreatDoor.Wk
structure Cleared(n m:Nat)(k:Int)(s:Pl):Prop where
 ok:Ok n m s
 ls:∀j:Int,0<=j->j<n->(ent s j).bN= -1\/k<=(ent s j).bN
 tk:∀i:Int,0<=i->i<k->(bU s i).task= -1
theorem Ok.cleared{n m:Nat}{s:Pl}(h:Ok n m s):Cleared n m 0 s:=⟨h,fun j j0 j1=>by have:=h.ls j j0 j1;omega,fun i i0 i1=>by omega⟩
theorem Cleared.calm{n m:Nat}{s:Pl}(h:Cleared n m m s):Calm n m s:=⟨h.ok,fun j j0 j1=>by have:=h.ls j j0 j1;have:=h.ok.ls j j0 j1;omega,h.tk⟩
theorem any_false{s:Pl}{i:Int}(h:s.book.any (fun e=>decide (e.bN=i))=false){j:Int}(j0:0<=j)(j1:j<s.book.length):(ent s j).bN≠i:=by
 rw[List.any_eq_false] at h;unfold ent;have hj:j.toNat<s.book.length:=by omega
 rw[Sub.aX hj];have:=h _ (gY hj);simpa using this
theorem Cleared.next{n m:Nat}{c:Int}{f:Int->Int}{s:Pl}{k:Int}(h:Cleared n m k s)(h0:0<=k)(hk:k<m):
  (bM c f (bM c f s k 5 5).1 k 4 0).2=0/\bM c f (bM c f (bM c f s k 5 5).1 k 4 0).1 k 5 0=((bM c f (bM c f s k 5 5).1 k 4 0).1,8)/\Cleared n m (k+1) (bM c f (bM c f s k 5 5).1 k 4 0).1:=by
 have hb:=h.ok.bl;have hw:=h.ok.wl;have o1:=(h.ok.step (c:=c) (f:=f) k 5 5).1
 have e1:bM c f s k 5 5=eE s k 5:=by
  unfold bM;rw[if_neg Ov,if_neg aC,if_neg aC,if_neg aC,if_neg aC,if_neg aC]
 rw[e1] at o1 ⊢;generalize hs1:(eE s k 5).1=s1 at*
 have ls1:∀j:Int,0<=j->j<n->(ent s1 j).bN≠k/\((ent s1 j).bN= -1\/(ent s1 j).bN=(ent s j).bN):=fun j j0 j1=>by
  rw[<-hs1];unfold eE;split
  ·rename_i ha
   exact⟨any_false ha j0 aC,.inr rfl⟩
  ·simp only
   rw[Gn ⟨j0,by omega⟩,xI];split
   ·exact⟨by omega,.inl rfl⟩
   ·rename_i hne
    exact⟨hne,.inr rfl⟩
 have ws1:s1.ws=s.ws:=by
  rw[<-hs1];unfold eE;split
  ·rfl
  ·rfl
 have b1:=o1.bl;have w1:=o1.wl;have o2:=(o1.step (c:=c) (f:=f) k 4 0).1
 have e2:bM c f s1 k 4 0=(dD s1 k idle,0):=by
  unfold bM nT;rw[if_neg Ov,if_neg aC,if_neg aC,if_neg aC,if_neg aC,if_pos rfl]
 rw[e2] at o2 ⊢;simp only at o2 ⊢;refine⟨trivial,?_,o2,fun j j0 j1=>?_,fun i i0 i1=>?_⟩
 ·have hany:(dD s1 k idle).book.any (fun e=>decide (e.bN=k))=false:=by
   rw[List.any_eq_false]
   intro e he
   obtain⟨j,j0,j1,rfl⟩:=NY (s:=s1) he
   have:=(ls1 j j0 aC).1
   simpa using this
  have w2:=o2.wl;unfold bM eE;rw[if_neg Ov,if_neg aC,if_neg aC,if_neg aC,if_neg aC,if_neg aC,if_pos hany]
 ·rw[jH]
  have a:=ls1 j j0 j1;have b:=h.ls j j0 j1;omega
 ·rw[fe ⟨h0,by omega⟩ i0]
  split
  ·rfl
  ·have hx:bU s1 i=bU s i:=by unfold bU;rw[ws1]
   rw[hx];exact h.tk i i0 aC
def vA(s:Pl):Nat:=s.ws.countP fun x=>x.fin
def Wt(b:Bool):Nat:=if b=true then 1 else 0
theorem Jz{α:Type}(p:α->Bool)(l:List α)(i:Nat)(a:α)(h:i<l.length):(l.set i a).countP p+Wt (p l[i])=l.countP p+Wt (p a):=by
 rw[List.countP_set h];have:p l[i]=true->0<l.countP p:=fun g=>List.countP_pos_iff.2 ⟨_,gY h,g⟩;unfold Wt;by_cases e:p l[i]=true
 ·have:=this e
  rw[if_pos e];split<;>omega
 ·rw[if_neg e];split<;>omega
theorem p9{s:Pl}{i:Int}{x:Jv}(hi:0<=i/\i<s.ws.length):vA (dD s i x)+Wt (bU s i).fin=vA s+Wt x.fin:=by
 have hj:i.toNat<s.ws.length:=by omega
 have:=Jz (fun x:Jv=>x.fin) s.ws i.toNat x hj;unfold bU;rw[Sub.aX hj];exact this
structure Work(sent again:Nat)(s:Pl):Prop where
 sn:(sent+vA s:Nat)<=s.runs
 ag:(again:Nat)<=s.cW
 re:s.cW<=(again+sent:Nat)
theorem ZR{s t:Pl}(h:s.ws=t.ws):vA s=vA t:=by unfold vA;rw[h]
theorem Work.step{n m:Nat}{c:Int}{f:Int->Int}{s:Pl}{sent again:Nat}(h:Ok n m s)(g:Work sent again s)(i k t:Int):
  Work (if (bM c f s i k t).2=0/\k=2 then sent+1 else sent) (if (bM c f s i k t).2=0/\k=3 then again+1 else again) (bM c f s i k t).1:=by
 have hw:=h.wl;have hb:=h.bl;obtain⟨g1,g2,g3⟩:=g;unfold bM;by_cases Ms:vH s i k t
 ·rw[if_pos Ms]
  rw[if_neg aZ,if_neg aZ];exact⟨g1,g2,g3⟩
 ·rw[if_neg Ms]
  obtain⟨hk,i0,i1, -⟩:=A8 Ms;have hi:0<=i/\i<s.ws.length:=⟨i0,i1⟩;by_cases k0:k=0
  ·subst k0
   rw[if_pos rfl,if_neg aZ,if_neg aZ];unfold kO;split
   ·exact⟨g1,g2,g3⟩
   ·split
    ·exact⟨g1,g2,g3⟩
    ·generalize cM c free s.book 0=j
     have:=p9 (s:=jv s j {ent s j with bN:=i}) (x:={bU s i with task:=j,fin:=false}) hi;have e:vA (jv s j {ent s j with bN:=i})=vA s:=rfl;have z:Wt (Jv.fin {bU s i with task:=j,fin:=false})=0:=rfl;rw[z,e] at this;refine⟨?_,g2,g3⟩;show ((sent+vA (dD (jv s j {ent s j with bN:=i}) i {bU s i with task:=j,fin:=false}):Nat):Int)<=s.runs
     omega
  ·rw[if_neg k0]
   by_cases k1:k=1
   ·subst k1
    rw[if_pos rfl,if_neg aZ,if_neg aZ];unfold gV;split
    ·exact⟨g1,g2,g3⟩
    ·have:=p9 (s:=s) (x:={bU s i with fin:=true,code:=f (bU s i).task}) hi
     have z:Wt (Jv.fin {bU s i with fin:=true,code:=f (bU s i).task})=1:=rfl;rw[z] at this;refine⟨?_,g2,g3⟩;show ((sent+vA (dD s i {bU s i with fin:=true,code:=f (bU s i).task}):Nat):Int)<=s.runs+1
     omega
   ·rw[if_neg k1]
    by_cases k2:k=2
    ·subst k2
     rw[if_pos rfl];unfold mh;split
     ·rw[if_neg aZ,if_neg aZ]
      exact⟨g1,g2,g3⟩
     ·rename_i hq
      rw[not_or] at hq;rw[if_pos ⟨rfl,rfl⟩,if_neg aZ];have hf:(bU s i).fin=true:=by simpa using hq.2
      generalize hs2:freed (arrive s (bU s i).task (bU s i).code) (bU s i).task i=s2;have w2:s2.ws=s.ws:=by rw[<-hs2,p8,jw]
      have:=p9 (s:=s2) (i:=i) (x:=⟨-1,false,(bU s i).code,(bU s i).task,(bU s i).code⟩) (by rw[w2];exact hi);have z:Wt (Jv.fin ⟨-1,false,(bU s i).code,(bU s i).task,(bU s i).code⟩)=0:=rfl;have y:bU s2 i=bU s i:=by unfold bU;rw[w2]
      rw[z,ZR w2,y,hf] at this;have o:Wt true=1:=rfl;rw[o] at this;have h2:s2.runs=s.runs/\s2.cW=(arrive s (bU s i).task (bU s i).code).cW:=by rw[<-hs2,(jP ..).1,(jP ..).2,oF];exact⟨rfl,rfl⟩
      have h3:=qL s (bU s i).task (bU s i).code;refine⟨?_,?_,?_⟩
      ·show ((sent+1+vA (dD s2 i ⟨-1,false,(bU s i).code,(bU s i).task,(bU s i).code⟩):Nat):Int)<=s2.runs
       omega
      ·show (again:Int)<=s2.cW
       omega
      ·show s2.cW<=((again+(sent+1):Nat):Int)
       omega
    ·rw[if_neg k2]
     by_cases k3:k=3
     ·subst k3
      rw[if_pos rfl,if_neg aZ];unfold mC;split
      ·rw[if_neg aZ]
       exact⟨g1,g2,g3⟩
      ·rename_i hq
       rw[if_pos ⟨rfl,rfl⟩];have hkn:=h.kn i i0 aC hq;have ea:arrive s (bU s i).iV (bU s i).nR={s with cW:=s.cW+1}:=by unfold arrive;rw[if_pos hkn]
       rw[ea];refine⟨g1,?_,?_⟩
       ·show ((again+1:Nat):Int)<=s.cW+1
        omega
       ·show s.cW+1<=((again+1+sent:Nat):Int)
        omega
     ·rw[if_neg k3,if_neg (fun h=>k2 h.2),if_neg (fun h=>k3 h.2)]
      by_cases k4:k=4
      ·rw[if_pos k4]
       unfold nT;have:=p9 (s:=s) (x:=idle) hi;have z:Wt idle.fin=0:=rfl;rw[z] at this;refine⟨?_,g2,g3⟩;show ((sent+vA (dD s i idle):Nat):Int)<=s.runs
       omega
      ·rw[if_neg k4]
       unfold eE;split
       ·exact⟨g1,g2,g3⟩
       ·by_cases t0:t=0
        ·simp only[if_pos t0]
         have:=p9 (s:=s) (x:={bU s i with task:= -1,fin:=false}) hi;have z:Wt (Jv.fin {bU s i with task:= -1,fin:=false})=0:=rfl;rw[z] at this;refine⟨?_,g2,g3⟩;show ((sent+vA (dD s i {bU s i with task:= -1,fin:=false}):Nat):Int)<=s.runs
         omega
        ·simp only[if_neg t0]
         exact⟨g1,g2,g3⟩
structure Pure(n m:Nat)(s:Pl):Prop where
 ok:Ok n m s
 re:s.cW=0
 tk:∀i:Int,0<=i->i<m->(bU s i).task≠ -1->(ent s (bU s i).task).known=false/\(ent s (bU s i).task).bN=i
theorem Pure.step{n m:Nat}{c:Int}{f:Int->Int}{s:Pl}(h:Pure n m s)(i k t:Int)(hk3:k<3):Pure n m (bM c f s i k t).1:=by
 have o1:=(h.ok.step (c:=c) (f:=f) i k t).1;have hw:=h.ok.wl;have hb:=h.ok.bl;unfold bM at o1 ⊢;by_cases Ms:vH s i k t
 ·rw[if_pos Ms];exact h
 ·rw[if_neg Ms] at o1 ⊢
  obtain⟨hk,i0,i1, -⟩:=A8 Ms;have hi:0<=i/\i<s.ws.length:=⟨i0,i1⟩;have him:i<m:=by omega
  by_cases k0:k=0
  ·rw[if_pos k0] at o1 ⊢
   unfold kO at o1 ⊢;split
   ·exact h
   ·split
    ·exact h
    ·rename_i h1 h2
     rw[if_neg h1,if_neg h2] at o1;obtain⟨a1,a2,a3,a4⟩:=h.ok.first c free h2;generalize cM c free s.book 0=j at*;have hj:0<=j/\j<s.book.length:=⟨a1,by omega⟩;have hfree:(ent s j).bN= -1:=of_decide_eq_true a4;refine⟨o1,h.re,fun q q0 q1=>?_⟩;rw[fe (s:=jv s j {ent s j with bN:=i}) hi q0];split
     ·rename_i e
      intro _;simp only;rw[jH,jG hj hj.1,if_pos rfl];exact⟨a3,e⟩
     ·rename_i e
      intro hq;rw[Jw] at hq ⊢;have ht:=h.tk q q0 q1 hq;have hr:=h.ok.tk q q0 q1;rw[jH,jG hj aC];split
      ·rename_i e2
       rw[<-e2,hfree] at ht;omega
      ·exact ht
  ·rw[if_neg k0] at o1 ⊢
   by_cases k1:k=1
   ·rw[if_pos k1] at o1 ⊢
    unfold gV at o1 ⊢;split
    ·exact h
    ·rename_i h1
     rw[if_neg h1] at o1;refine⟨o1,h.re,fun q q0 q1=>?_⟩;show (bU (dD s i {bU s i with fin:=true,code:=f (bU s i).task}) q).task≠ -1->(ent s (bU (dD s i {bU s i with fin:=true,code:=f (bU s i).task}) q).task).known=false/\(ent s (bU (dD s i {bU s i with fin:=true,code:=f (bU s i).task}) q).task).bN=q
     rw[fe hi q0];split
     ·rename_i e
      subst e;exact h.tk i i0 him
     ·exact h.tk q q0 q1
   ·rw[if_neg k1,if_pos aC] at o1 ⊢
    unfold mh at o1 ⊢;split
    ·exact h
    ·rename_i h1
     rw[if_neg h1] at o1;rw[not_or] at h1;have ht:=h.tk i i0 him h1.1;have hr:=h.ok.tk i i0 him;have hj:0<=(bU s i).task/\(bU s i).task<s.book.length:=by omega
     have ea:arrive s (bU s i).task (bU s i).code=jv s (bU s i).task ⟨true,(bU s i).code,(ent s (bU s i).task).bN⟩:=by unfold arrive;rw[if_neg (by rw[ht.1];simp)]
     have hj2:0<=(bU s i).task/\(bU s i).task<(arrive s (bU s i).task (bU s i).code).book.length:=by rw[jV];exact hj
     refine⟨o1,?_,fun q q0 q1=>?_⟩
     ·show (freed (arrive s (bU s i).task (bU s i).code) (bU s i).task i).cW=0
      rw[(jP ..).2,ea];exact h.re
     ·have xR:(freed (arrive s (bU s i).task (bU s i).code) (bU s i).task i).ws=s.ws:=by rw[p8,jw]
      rw[fe (by rw[xR];exact hi) q0];split
      ·intro hq;exact absurd rfl hq
      ·rename_i e
       have hx:bU (freed (arrive s (bU s i).task (bU s i).code) (bU s i).task i) q=bU s q:=by
        show (freed (arrive s (bU s i).task (bU s i).code) (bU s i).task i).ws.getD q.toNat idle=_
        rw[xR];rfl
       rw[hx];intro hq;have uE:=h.tk q q0 q1 hq;have hqr:=h.ok.tk q q0 q1
       have hne:(bU s i).task≠(bU s q).task:=fun e2=>by
        rw[<-e2,ht.2] at uE;exact e uE.2
       rw[jH,Aa hj2 aC,tq hj2 aC,if_neg (fun g=>hne g.1),qK hj aC,mT hj aC,decide_eq_false hne];exact⟨by simpa using uE.1,uE.2⟩
theorem Mt(n m:Nat):Pure n m ⟨List.replicate n zeroE,List.replicate m idle,0,0⟩:=⟨xJ n m,rfl,fun i i0 i1 h=>by
 have:bU ⟨List.replicate n zeroE,List.replicate m idle,0,0⟩ i=idle:=by
  unfold bU;rw[Sub.aX mV];simp
 rw[this] at h;exact absurd rfl h⟩
theorem Mu(n m:Nat):Work 0 0 ⟨List.replicate n zeroE,List.replicate m idle,0,0⟩:=⟨by
 have:vA ⟨List.replicate n zeroE,List.replicate m idle,0,0⟩=0:=by
  unfold vA;rw[List.countP_eq_zero];intro a ha;rw[(List.mem_replicate.1 ha).2];simp[idle]
 rw[this];exact Int.le_refl _,Int.le_refl _,Int.le_refl _⟩
end Go.Proofs.YteiakkfdchnddaaGreatDoor.Wk
namespace Go.Proofs.YteiakkfdchnddaaGreatDoor
open Go.RowKit
theorem D8{P:Program}(w:World)(dT sT ty elem:TypeId)(sz:Nat)(g o dLen dCap:Nat)(a:Addr)(sLen sCap:Nat)(cur:Array Value)(t:TypeId)(cs:List Value)
  (hu:P.underlying dT=some (.slice elem))(hs:(P.info? elem).map (·.size)=some sz)
  (hg:w.heap[g]?=some (.cells cur t (0,0)))(hn:cs.length=Nat.min sLen dLen*sz)
  (hsrc:∀j v,cs[j]?=some v->w.cell? (a.add j)=some v)(hfit:o+cs.length<=cur.size)(h1:∀v∈cs,v.oneCell'=true):
  (Builtin.copy_ #[dT,sT] ty #[.slice (some ⟨g,o,none⟩) dLen dCap,.slice (some a) sLen sCap]).run P w=
   .ok (goInt (Nat.min sLen dLen)) (w.setRow g (cur.toList.take o++cs++cur.toList.drop (o+cs.length)).toArray):=by
 have hl:=run_loadCells_list (P:=P) w a cs hsrc;have hst:=run_storeCells_at P g o t cs 0 cur w hg (by simpa using hfit) h1;cases hq:P.info? elem with
 |none=>simp[hq] at hs
 |some i=>
  have hi:i.size=sz:=by simpa [hq] using hs
  have hn':min sLen dLen*sz=cs.length:=hn.symm
  simp[Builtin.copy_,run_underlying hu,Builtin.lenOf,Builtin.firstCells,sizeOf,typeInfo,hq,hi,hn',hl,hst]
theorem CT{P:Program}(w:World)(dT sT ty elem:TypeId)(sz:Nat)(d a:Option Addr)(dLen dCap sLen sCap:Nat)(hu:P.underlying dT=some (.slice elem))(hs:(P.info? elem).map (·.size)=some sz)(hn:Nat.min sLen dLen=0):
  (Builtin.copy_ #[dT,sT] ty #[.slice d dLen dCap,.slice a sLen sCap]).run P w=.ok (goInt 0) w:=by
 cases hq:P.info? elem with
 |none=>simp[hq] at hs
 |some i=>
  have hl:∀(x:Addr),(loadCells x 0).run P w=.ok #[] w:=fun x=>by simpa using run_loadCells_list (P:=P) w x [] aZ
  cases d<;>cases a<;>simp[Builtin.copy_,run_underlying hu,Builtin.lenOf,Builtin.firstCells,sizeOf,typeInfo,hq,hn,storeCells,hl]
theorem gW{P:Program}{w:World}{ops:Array Oper}{rest:List Oper}{o:Oper}{a:Act}{Q:Exit->Act->World->Prop}(hgd:o.guard=none)(d s:Operand)(dT sT:TypeId)
  (ho:o.op=.call {callee:=.builtin .copy,args:=#[d,s],argTypes:=#[dT,sT]})(elem:TypeId)(sz:Nat)(hu:P.underlying dT=some (.slice elem))(hsz:(P.info? elem).map (·.size)=some sz)
  (dp sp:Option Addr)(dLen dCap sLen sCap:Nat)(hd:a.eval d=.slice dp dLen dCap)(hs:a.eval s=.slice sp sLen sCap)
  (g off:Nat)(cur:List Value)(t:TypeId)(hg:w.heap[g]?=some (.cells cur.toArray t (0,0)))(k:Nat)(hk:k=Nat.min sLen dLen)(cs:List Value)(hn:cs.length=k*sz)
  (hpos:0<k->dp=some ⟨g,off,none⟩/\∃ad,sp=some ad/\∀j v,cs[j]?=some v->w.cell? (ad.add j)=some v)
  (hfit:off+cs.length<=cur.length)(h1:∀v∈cs,v.oneCell'=true)(B:Nat)(w0:World)(hb:Below B w0 w)(hBg:B<=g)
  (h:∀w',Hid (w'.heap[g]?=some (.cells (splice cur off cs).toArray t (0,0)))->Below B w0 w'->wpList P ops Q rest (a.put o.dst (goInt k)) w'):
  wpList P ops Q (o::rest) a w:=by
 by_cases h0:k=0
 ·subst h0
  obtain rfl:cs=[]:=List.eq_nil_of_length_eq_zero (by simpa using hn);refine wpList_plain hgd fun K hK=>?_;have hrun:=CT (P:=P) w dT sT o.type elem sz dp sp dLen dCap sLen sCap hu hsz hk.symm;unfold Oper.wp;simp[execOp,ho,resolve,invoke,builtin,hd,hs,hrun,Result.andThen];exact hK _ _ (h w (show _=_ by simpa [splice] using hg) hb)
 ·obtain⟨rfl,ad,rfl,hsrc⟩:=hpos aC
  refine wpList_plain hgd fun K hK=>?_;have hrun:=D8 (P:=P) w dT sT o.type elem sz g off dLen dCap ad sLen sCap cur.toArray t cs hu hsz hg (by rw[hn,hk]) hsrc (by simpa using hfit) h1;rw[<-hk] at hrun;unfold Oper.wp;simp[execOp,ho,resolve,invoke,builtin,hd,hs,hrun,Result.andThen];exact hK _ _ (h _ (show _=_ by simpa [splice] using setRow_heap w g _ _ t _ hg) (below_setRow hb hBg _))
theorem CU(zs:List Value)(n:Nat)(h:0<zs.length):madeCells zs.toArray (n*zs.length)=((List.replicate n zs).flatten).toArray:=by
 have hl:((List.replicate n zs).flatten).length=n*zs.length:=by
  rw[nA (n:=zs.length) _ (fun us hu=>by rw[(List.mem_replicate.1 hu).2]),List.length_replicate]
 apply Array.ext
 ·simp[madeCells]
 ·intro i h1 h2
  have hi:i<n*zs.length:=by simpa [madeCells] using h1
  have hq:i / zs.length<n:=Nat.div_lt_of_lt_mul (by rw[Nat.mul_comm];exact hi);have hm:i % zs.length<zs.length:=Nat.mod_lt _ h;have e1:i / zs.length*zs.length+i % zs.length=i:=by rw[Nat.mul_comm];exact Nat.div_add_mod i _
  have h8:=qj (n:=zs.length) (List.replicate n zs) (i / zs.length) (by simpa using hq) (i % zs.length) (fun us hu=>by rw[(List.mem_replicate.1 hu).2]) hm;rw[e1,kK (by rw[hl];exact hi)] at h8;simp only[List.getElem_replicate,kK hm,Option.some.injEq] at h8;simp only[madeCells,Array.getElem_map,Array.getElem_range,List.size_toArray,List.getElem_toArray];rw[h8];simp[hm]
theorem NZ{P:Program}{t e:TypeId}{b sz:Nat}{z:Value}(zs:List Value)(hz:z.cells=zs.toArray)(hl:zs.length=sz)(h0:0<sz)(ht:P.underlying t=some (.slice e))(hi:(P.info? e).map (fun i=>(i.zero,i.size,i.bytes))=some (some z,sz,b))(hb:b<=1000)
  (n:Nat)(hn:n<=1000000)(w:World):
  (Instr.makeSlice t (.int .i64 (n:Int)) (.int .i64 (n:Int))).run P w=.ok (.slice (some ⟨w.heap.size,0,none⟩) n n) (w.alloc (.cells ((List.replicate n zs).flatten).toArray e)):=by
 obtain⟨i,h1,h2,h3,h4⟩:=info_parts hi
 have hy:(i.bytes:Int)*(n:Int)<=281474976710656:=by
  exact TA
 have hr:=run_make (P:=P) w t e i z ht h1 h2 .i64 .i64 (n:Int) (n:Int) aC aC hy aC;rw[h3,Int.toNat_natCast,hz,<-hl,CU zs n aC] at hr;exact hr
def jy{A:Type}(us zs:List A)(n m:Nat):List A:=(List.replicate m us++List.replicate (n-m) zs).flatten
theorem j5{A:Type}{us:List A}{sz:Nat}(hu:us.length=sz)(m:Nat):((List.replicate m us).flatten).length=m*sz:=by
 rw[nA (n:=sz) _ (fun x hx=>by rw[(List.mem_replicate.1 hx).2];exact hu),List.length_replicate]
theorem GU{A:Type}{us zs:List A}{sz n m:Nat}(hu:us.length=sz)(hz:zs.length=sz)(h:m<=n):(jy us zs n m).length=n*sz:=by
 unfold jy;rw[List.flatten_append,rG,j5 hu,j5 hz,<-Nat.add_mul];congr 1;omega
theorem Fo{A:Type}(us zs:List A)(n:Nat):jy us zs n 0=(List.replicate n zs).flatten:=by simp[jy]
theorem Wu{A:Type}(us zs:List A)(n:Nat):jy us zs n n=(List.replicate n us).flatten:=by simp[jy]
theorem rM{A:Type}{us zs:List A}{sz n m c:Nat}(hu:us.length=sz)(hz:zs.length=sz)(h:m+c<=n):splice (jy us zs n m) (m*sz) ((List.replicate c us).flatten)=jy us zs n (m+c):=by
 have e1:(jy us zs n m).take (m*sz)=(List.replicate m us).flatten:=by
  unfold jy;rw[List.flatten_append,List.take_left' (j5 hu m)]
 have e2:(jy us zs n m).drop (m*sz+c*sz)=(List.replicate (n-(m+c)) zs).flatten:=by
  unfold jy;rw[List.flatten_append,<-List.drop_drop,List.drop_left' (j5 hu m),show n-m=c+(n-(m+c)) by omega,<-List.replicate_append_replicate,List.flatten_append,List.drop_left' (j5 hz c)]
 unfold splice;rw[j5 hu,e1,e2];unfold jy;rw[<-List.replicate_append_replicate,List.flatten_append,List.flatten_append,List.append_assoc]
theorem N7{A:Type}{us zs:List A}{n m c:Nat}(hc:c<=m){j:Nat}{v:A}(h:((List.replicate c us).flatten)[j]?=some v):(jy us zs n m)[j]?=some v:=by
 have hj:=(List.getElem?_eq_some_iff.1 h).1;unfold jy;rw[show m=c+(m-c) by omega,<-List.replicate_append_replicate,List.flatten_append,List.flatten_append,List.append_assoc,List.getElem?_append_left hj];exact h
theorem A9{us:List Value}(h:∀u∈us,u.oneCell'=true)(c:Nat):∀v∈(List.replicate c us).flatten,v.oneCell'=true:=by
 intro v hv;obtain⟨x,hx,hv⟩:=List.mem_flatten.1 hv;rw[(List.mem_replicate.1 hx).2] at hv;exact h v hv
theorem abO{p:Prop}(h:p:=by
  obtain rfl:m=n:=by omega
  have h1:=HM.out.1
  rw[Wu] at h1
  have HR:=hid h1
  have HB:=hid HM.out.2
  clear h1 HM
  go_wp2
  go_ret
  exact⟨_,rfl,aH,HR.out,HB.out⟩):p:=h
theorem abP{p:Prop}(h:p:=by
  intro w4 FY hB4
  have hg4:=FY.out
  rw[HN.out] at hg4
  have HI4:=hid (And.intro hg4 hB4)
  have E7:goInt c=.int .i64 (c:Int):=rfl
  try rw[E7]
  exact abq):p:=h
theorem JA(us:List Value)(hu:us.length=3)(h1:∀u∈us,u.oneCell'=true)(n:Nat)(hn:n<=1000000)(b:Nat)(w:World)(hc:∀i u,us[i]?=some u->w.cell? ⟨b,i,none⟩=some u):
  Calls Tryz.prog 23 #[.slice (some ⟨b,0,none⟩) 1 1,.int .i64 n] w fun e w'=>∃g,e=.returned (.slice (some ⟨g,0,none⟩) n n)/\w.heap.size<=g/\w'.heap[g]?=some (.cells ((List.replicate n us).flatten).toArray 77 (0,0))/\BL w w':=by
 obtain⟨zs,hzs⟩:=aV ([.bool false,.int .i64 0,.int .i64 0]:List Value);have hz:zs.length=3:=by rw[hzs];rfl
 obtain⟨Z,hZ⟩:=aV (((List.replicate n zs).flatten).toArray)
 have hmk:∀W:World,(Instr.makeSlice 74 (.int .i64 (n:Int)) (.int .i64 (n:Int))).run Tryz.prog W=.ok (.slice (some ⟨W.heap.size,0,none⟩) n n) (W.alloc (.cells Z 77)):=fun W=>by
  rw[hZ];exact NZ (P:=Tryz.prog) (t:=74) (e:=77) (b:=24) (z:=.agg #[.bool false,.int .i64 0,.int .i64 0]) zs (by rw[hzs];rfl) hz aC (by kernel_rfl) (by kernel_rfl) aC n hn W
 have HMul:=hid (fun W=>Cn n hn W);have hwn:IntKind.u64.wrap (n:Int)=n:=by rw[IntKind.wrap_u64];omega
 have hn1:(0:Int)<=n:=by omega
 have W9:(n:Int)<=1000000:=by omega
 have HU:=hid hu;have HZl:=hid hz;have Ea:=hid h1;obtain⟨c0,hc0⟩:=aV (Nat.min 1 n);have hc1:c0<=1:=by rw[hc0];exact Nat.min_le_left _ _
 have hc2:c0<=n:=by rw[hc0];exact Nat.min_le_right _ _
 have hc3:0<n->1<=c0:=fun h=>by rw[hc0];exact Nat.le_min.2 ⟨aH,h⟩
 have Xl:=hid hc0;obtain⟨cs,hcs⟩:=aV ((List.replicate c0 us).flatten);have xK:=hid hcs;have Ve:Hid (splice (jy us zs n 0) 0 cs=jy us zs n c0):=hid aeT;have HG0:=hid (aP (k:=w.heap.size) w (.cells Z 77) rfl);have hb0:BL w (w.alloc (.cells Z 77)):=ay.alloc aH _;have HB0:=hid hb0
 have JB:Hid (∀j v,cs[j]?=some v->(w.alloc (.cells Z 77)).cell? ((⟨b,0,none⟩:Addr).add j)=some v):=hid (fun j v hj=>by
  rw[pV,Nat.zero_add]
  have h5:us[j]?=some v:=by
   rw[hcs] at hj;rcases Nat.lt_or_ge 0 c0 with h|h
   ·obtain rfl:c0=1:=by omega
    simpa using hj
   ·obtain rfl:c0=0:=by omega
    simp at hj
  exact hb0.cell (p:=⟨b,j,none⟩) (by
   have:=xN w ⟨b,j,none⟩ (hc j v h5)
   exact this)|>.trans (hc j v h5))
 have HZ:Hid (Z=(jy us zs n 0).toArray):=hid (by rw[Fo];exact hZ);clear hb0 hc hZ hcs hu hz h1 hzs hc0;go_enter Tryz.func23,Tryz.ntmps23;have d1:decide ((n:Int)<0)=false:=decide_eq_false aC;have d2:decide (9223372036854775807<(n:Int))=false:=decide_eq_false aC;have DQ:Hid ((w.alloc (.cells Z 77)).heap[w.heap.size]?=some (.cells (jy us zs n 0).toArray 77 (0,0))):=hid (by rw[HG0.out,HZ.out])
 go_wp2_with (first
  |(go_at_call 51;refine(HMul.out _).mono ?_;rintro e w' ⟨rfl,rfl⟩)
  |(refine gW (o:=⟨some 33,_,_,_,_,_⟩) rfl (.tmp 31) (.tmp 32) 74 74 rfl 77 3 (by kernel_rfl) (by kernel_rfl) (some ⟨w.heap.size,0,none⟩) (some ⟨b,0,none⟩) n n 1 1 rfl rfl w.heap.size 0 (jy us zs n 0) 77 DQ.out c0 Xl.out cs (by rw[xK.out];exact j5 HU.out c0) (fun _=>⟨rfl,_,rfl,JB.out⟩) aeI (by rw[xK.out];exact A9 Ea.out c0) w.heap.size w HB0.out aH ?_))
 intro w2 HG2 Ah;have hg2:=HG2.out;rw[Ve.out] at hg2;have HI:=hid (And.intro hg2 Ah);have E7:goInt c0=.int .i64 (c0:Int):=rfl;try rw[E7]
 clear hg2 Ah HG2 hmk HMul Ve JB xK Xl E7;go_wp2;go_loopw [8] (fun c wr=>∃m:Nat,(m<n->1<=m)/\m<=n/\c=.int .i64 m/\Hid (wr.heap[w.heap.size]?=some (.cells (jy us zs n m).toArray 77 (0,0))/\BL w wr)) (fun c _=>n-(intOf c).toNat);case atStart=>exact⟨c0,fun h=>hc3 aC,hc2,rfl,HI⟩
 case round=>
  obtain⟨m,hm1,hm2,rfl,HM⟩:=hrel;by_cases hlt:m<n
  ·have hlt':(m:Int)<n:=by omega
   have hm0:(0:Int)<=m:=by omega
   obtain⟨c,hc⟩:=aV (min (n-m) m);obtain⟨cs,hcs⟩:=aV ((List.replicate c us).flatten);have hcl:cs.length=c*3:=by rw[hcs];exact j5 HU.out c
   have HN:Hid (splice (jy us zs n m) (m*3) cs=jy us zs n (m+c)):=hid (by rw[hcs];exact rM HU.out HZl.out aC)
   have Qc:Hid (∀j v,cs[j]?=some v->wr.cell? ((⟨w.heap.size,0,none⟩:Addr).add j)=some v):=hid (fun j v hj=>by
    rw[hcs] at hj;rw[pV,cell_of_row _ _ _ _ _ (0,0) HM.out.1];simp only[Nat.zero_add,List.getElem?_toArray];exact N7 aC hj)
   have Qd:Hid (∀v∈cs,v.oneCell'=true):=hid (by rw[hcs];exact A9 Ea.out c);have XF:=hid hcl;have Xd:=hid hc;have hc1:m+c<=n:=by omega
   have hc2:1<=c:=by omega
   clear hcs hcl hc;go_wp2;refine fU 8 [(true,0),(true,1),(true,2),(true,3),(true,4),(true,5),(true,6),(false,7)] (fun _=>True) lN (by kernel_rfl) trivial ?_;intro hne;refine jc 7 qg ?_;simp only[List.take_succ_cons,List.take_zero];repeat (go_big_quiet_step (fail))
   refine fS ?_;refine dW rfl ?_
   refine gW rfl (.tmp 41) (.tmp 44) 74 74 rfl 77 3 (by kernel_rfl) (by kernel_rfl) (some ⟨w.heap.size,m*3,none⟩) (some ⟨w.heap.size,0,none⟩) (n-m) (n-m) m n rfl rfl w.heap.size (m*3) (jy us zs n m) 77 HM.out.1 c (by rw[Xd.out];exact Nat.min_comm _ _) cs XF.out
    (fun _=>⟨rfl,_,rfl,Qc.out⟩) aeK Qd.out w.heap.size w (aG HM.out.2 1) aH ?_
   exact abP
  ·exact abO
theorem JC(us:List Value)(hu:us.length=5)(h1:∀u∈us,u.oneCell'=true)(n:Nat)(hn:n<=1000000)(b:Nat)(w:World)(hc:∀i u,us[i]?=some u->w.cell? ⟨b,i,none⟩=some u):
  Calls Tryz.prog 24 #[.slice (some ⟨b,0,none⟩) 1 1,.int .i64 n] w fun e w'=>∃g,e=.returned (.slice (some ⟨g,0,none⟩) n n)/\w.heap.size<=g/\w'.heap[g]?=some (.cells ((List.replicate n us).flatten).toArray 85 (0,0))/\BL w w':=by
 obtain⟨zs,hzs⟩:=aV ([.int .i64 0,.bool false,.int .i64 0,.int .i64 0,.int .i64 0]:List Value);have hz:zs.length=5:=by rw[hzs];rfl
 obtain⟨Z,hZ⟩:=aV (((List.replicate n zs).flatten).toArray)
 have hmk:∀W:World,(Instr.makeSlice 78 (.int .i64 (n:Int)) (.int .i64 (n:Int))).run Tryz.prog W=.ok (.slice (some ⟨W.heap.size,0,none⟩) n n) (W.alloc (.cells Z 85)):=fun W=>by
  rw[hZ];exact NZ (P:=Tryz.prog) (t:=78) (e:=85) (b:=40) (z:=.agg #[.int .i64 0,.bool false,.int .i64 0,.int .i64 0,.int .i64 0]) zs (by rw[hzs];rfl) hz aC (by kernel_rfl) (by kernel_rfl) aC n hn W
 have HMul:=hid (fun W=>Cn n hn W);have hwn:IntKind.u64.wrap (n:Int)=n:=by rw[IntKind.wrap_u64];omega
 have hn1:(0:Int)<=n:=by omega
 have W9:(n:Int)<=1000000:=by omega
 have HU:=hid hu;have HZl:=hid hz;have Ea:=hid h1;obtain⟨c0,hc0⟩:=aV (Nat.min 1 n);have hc1:c0<=1:=by rw[hc0];exact Nat.min_le_left _ _
 have hc2:c0<=n:=by rw[hc0];exact Nat.min_le_right _ _
 have hc3:0<n->1<=c0:=fun h=>by rw[hc0];exact Nat.le_min.2 ⟨aH,h⟩
 have Xl:=hid hc0;obtain⟨cs,hcs⟩:=aV ((List.replicate c0 us).flatten);have xK:=hid hcs;have Ve:Hid (splice (jy us zs n 0) 0 cs=jy us zs n c0):=hid aeT;have HG0:=hid (aP (k:=w.heap.size) w (.cells Z 85) rfl);have hb0:BL w (w.alloc (.cells Z 85)):=ay.alloc aH _;have HB0:=hid hb0
 have JB:Hid (∀j v,cs[j]?=some v->(w.alloc (.cells Z 85)).cell? ((⟨b,0,none⟩:Addr).add j)=some v):=hid (fun j v hj=>by
  rw[pV,Nat.zero_add]
  have h5:us[j]?=some v:=by
   rw[hcs] at hj;rcases Nat.lt_or_ge 0 c0 with h|h
   ·obtain rfl:c0=1:=by omega
    simpa using hj
   ·obtain rfl:c0=0:=by omega
    simp at hj
  exact hb0.cell (p:=⟨b,j,none⟩) (by
   have:=xN w ⟨b,j,none⟩ (hc j v h5)
   exact this)|>.trans (hc j v h5))
 have HZ:Hid (Z=(jy us zs n 0).toArray):=hid (by rw[Fo];exact hZ);clear hb0 hc hZ hcs hu hz h1 hzs hc0;go_enter Tryz.func24,Tryz.ntmps24;have d1:decide ((n:Int)<0)=false:=decide_eq_false aC;have d2:decide (9223372036854775807<(n:Int))=false:=decide_eq_false aC;have DQ:Hid ((w.alloc (.cells Z 85)).heap[w.heap.size]?=some (.cells (jy us zs n 0).toArray 85 (0,0))):=hid (by rw[HG0.out,HZ.out])
 go_wp2_with (first
  |(go_at_call 51;refine(HMul.out _).mono ?_;rintro e w' ⟨rfl,rfl⟩)
  |(refine gW (o:=⟨some 33,_,_,_,_,_⟩) rfl (.tmp 31) (.tmp 32) 78 78 rfl 85 5 (by kernel_rfl) (by kernel_rfl) (some ⟨w.heap.size,0,none⟩) (some ⟨b,0,none⟩) n n 1 1 rfl rfl w.heap.size 0 (jy us zs n 0) 85 DQ.out c0 Xl.out cs (by rw[xK.out];exact j5 HU.out c0) (fun _=>⟨rfl,_,rfl,JB.out⟩) aeI (by rw[xK.out];exact A9 Ea.out c0) w.heap.size w HB0.out aH ?_))
 intro w2 HG2 Ah;have hg2:=HG2.out;rw[Ve.out] at hg2;have HI:=hid (And.intro hg2 Ah);have E7:goInt c0=.int .i64 (c0:Int):=rfl;try rw[E7]
 clear hg2 Ah HG2 hmk HMul Ve JB xK Xl E7;go_wp2;go_loopw [8] (fun c wr=>∃m:Nat,(m<n->1<=m)/\m<=n/\c=.int .i64 m/\Hid (wr.heap[w.heap.size]?=some (.cells (jy us zs n m).toArray 85 (0,0))/\BL w wr)) (fun c _=>n-(intOf c).toNat);case atStart=>exact⟨c0,fun h=>hc3 aC,hc2,rfl,HI⟩
 case round=>
  obtain⟨m,hm1,hm2,rfl,HM⟩:=hrel;by_cases hlt:m<n
  ·have hlt':(m:Int)<n:=by omega
   have hm0:(0:Int)<=m:=by omega
   obtain⟨c,hc⟩:=aV (min (n-m) m);obtain⟨cs,hcs⟩:=aV ((List.replicate c us).flatten);have hcl:cs.length=c*5:=by rw[hcs];exact j5 HU.out c
   have HN:Hid (splice (jy us zs n m) (m*5) cs=jy us zs n (m+c)):=hid (by rw[hcs];exact rM HU.out HZl.out aC)
   have Qc:Hid (∀j v,cs[j]?=some v->wr.cell? ((⟨w.heap.size,0,none⟩:Addr).add j)=some v):=hid (fun j v hj=>by
    rw[hcs] at hj;rw[pV,cell_of_row _ _ _ _ _ (0,0) HM.out.1];simp only[Nat.zero_add,List.getElem?_toArray];exact N7 aC hj)
   have Qd:Hid (∀v∈cs,v.oneCell'=true):=hid (by rw[hcs];exact A9 Ea.out c);have XF:=hid hcl;have Xd:=hid hc;have hc1:m+c<=n:=by omega
   have hc2:1<=c:=by omega
   clear hcs hcl hc;go_wp2;refine fU 8 [(true,0),(true,1),(true,2),(true,3),(true,4),(true,5),(true,6),(false,7)] (fun _=>True) lN (by kernel_rfl) trivial ?_;intro hne;refine jc 7 qg ?_;simp only[List.take_succ_cons,List.take_zero];repeat (go_big_quiet_step (fail))
   refine fS ?_;refine dW rfl ?_
   refine gW rfl (.tmp 41) (.tmp 44) 78 78 rfl 85 5 (by kernel_rfl) (by kernel_rfl) (some ⟨w.heap.size,m*5,none⟩) (some ⟨w.heap.size,0,none⟩) (n-m) (n-m) m n rfl rfl w.heap.size (m*5) (jy us zs n m) 85 HM.out.1 c (by rw[Xd.out];exact Nat.min_comm _ _) cs XF.out
    (fun _=>⟨rfl,_,rfl,Qc.out⟩) aeK Qd.out w.heap.size w (aG HM.out.2 1) aH ?_
   exact abP
  ·exact abO
def Mv(e:Wk.tZ):List Value:=[.bool e.known,.int .i64 e.code,.int .i64 e.bN]
def Ou(x:Wk.Jv):List Value:=[.int .i64 x.task,.bool x.fin,.int .i64 x.code,.int .i64 x.iV,.int .i64 x.nR]
def ahp(_:Nat->Prop)(_:World)(us:List Value)(e:Wk.tZ):Prop:=us=Mv e
def ahq(_:Nat->Prop)(_:World)(us:List Value)(x:Wk.Jv):Prop:=us=Ou x
theorem qM:cD ahp:=⟨fun h _=>h,fun h _=>h⟩
theorem qN:cD ahq:=⟨fun h _=>h,fun h _=>h⟩
abbrev ahr(B:Nat):=bC 3 ahp (fun _=>False) B 77
abbrev ahs(B:Nat):=bC 5 ahq (fun _=>False) B 85
structure bO(b jb gb gw cb cw:Nat)(J:Array Value)(B:Nat)(s:Wk.Pl)(X:World):Prop where
 ptr:X.heap[b]?=some (.cells #[.pointer (some ⟨jb,0,none⟩),.slice (some ⟨gb,0,none⟩) s.book.length cb,.slice (some ⟨gw,0,none⟩) s.ws.length cw,.int .i64 s.runs,.int .i64 s.cW] 80 (0,0))
 job:X.heap[jb]?=some (.cells J 73 (0,0))
 book:ahr B X (.slice (some ⟨gb,0,none⟩) s.book.length cb) s.book
 lC:ahs B X (.slice (some ⟨gw,0,none⟩) s.ws.length cw) s.ws
 ne:(b≠gb/\b≠gw/\gb≠gw)/\(jb≠b/\jb≠gb/\jb≠gw)/\B<=b/\B<=gb/\B<=gw
def bL(b gb gw:Nat):Nat->Prop:=fun y=>y=b\/y=gb\/y=gw
theorem bO.kept{b jb gb gw cb cw:Nat}{J:Array Value}{B:Nat}{s:Wk.Pl}{X Y:World}(h:bO b jb gb gw cb cw J B s X)(hk:∀y,y=b\/y=jb\/y=gb\/y=gw->y<X.heap.size->Y.heap[y]?=X.heap[y]?):bO b jb gb gw cb cw J B s Y where
 ptr:=(hk b (.inl rfl) (aj h.ptr)).trans h.ptr
 job:=(hk jb (.inr (.inl rfl)) (aj h.job)).trans h.job
 book:=h.book.keep qM (fun y hy hl=>hk y (.inr (.inr (.inl (by
  rcases hy with hy|hy
  ·exact hy.elim
  ·simpa [Value.ownBlock] using hy.symm)))) hl)
 lC:=h.lC.keep qN (fun y hy hl=>hk y (.inr (.inr (.inr (by
  rcases hy with hy|hy
  ·exact hy.elim
  ·simpa [Value.ownBlock] using hy.symm)))) hl)
 ne:=h.ne
theorem bO.mU{b jb gb gw cb cw:Nat}{J:Array Value}{B:Nat}{s:Wk.Pl}{X:World}(h:bO b jb gb gw cb cw J B s X){k:Nat}(hk:k<s.book.length):
  X.cell? ⟨gb,k*3,none⟩=some (.bool s.book[k].known)/\X.cell? ⟨gb,k*3+1,none⟩=some (.int .i64 s.book[k].code)/\X.cell? ⟨gb,k*3+2,none⟩=some (.int .i64 s.book[k].bN):=by
 obtain⟨us, -,h2,h3⟩:=bC.at h.book hk;obtain rfl:us=Mv s.book[k]:=h3;exact⟨h2 0 _ rfl,h2 1 _ rfl,h2 2 _ rfl⟩
theorem bO.jK{b jb gb gw cb cw:Nat}{J:Array Value}{B:Nat}{s:Wk.Pl}{X:World}(h:bO b jb gb gw cb cw J B s X){k:Nat}(hk:k<s.ws.length):
  X.cell? ⟨gw,k*5,none⟩=some (.int .i64 s.ws[k].task)/\X.cell? ⟨gw,k*5+1,none⟩=some (.bool s.ws[k].fin)/\X.cell? ⟨gw,k*5+2,none⟩=some (.int .i64 s.ws[k].code)/\X.cell? ⟨gw,k*5+3,none⟩=some (.int .i64 s.ws[k].iV)/\X.cell? ⟨gw,k*5+4,none⟩=some (.int .i64 s.ws[k].nR):=by
 obtain⟨us, -,h2,h3⟩:=bC.at h.lC hk;obtain rfl:us=Ou s.ws[k]:=h3;exact⟨h2 0 _ rfl,h2 1 _ rfl,h2 2 _ rfl,h2 3 _ rfl,h2 4 _ rfl⟩
theorem bO.eV{b jb gb gw cb cw:Nat}{J:Array Value}{B:Nat}{s:Wk.Pl}{X:World}(h:bO b jb gb gw cb cw J B s X):
  X.cell? ⟨b,0,none⟩=some (.pointer (some ⟨jb,0,none⟩))/\X.cell? ⟨b,1,none⟩=some (.slice (some ⟨gb,0,none⟩) s.book.length cb)/\X.cell? ⟨b,2,none⟩=some (.slice (some ⟨gw,0,none⟩) s.ws.length cw)/\X.cell? ⟨b,3,none⟩=some (.int .i64 s.runs)/\X.cell? ⟨b,4,none⟩=some (.int .i64 s.cW):=
 (mL h.ptr).1
theorem bO.below{b jb gb gw cb cw:Nat}{J:Array Value}{B:Nat}{s:Wk.Pl}{X Y:World}(h:bO b jb gb gw cb cw J B s X)(hb:BL X Y):bO b jb gb gw cb cw J B s Y:=h.kept (fun y _ hl=>hb.block y hl)
theorem CV{b jb gb gw cb cw:Nat}{J:Array Value}{B:Nat}{s:Wk.Pl}(c:Int)(ok:Wk.tZ->Bool)(fo:FuncId)(w:World)(h:bO b jb gb gw cb cw J B s w)(hc:∀X:World,X.heap[jb]?=some (.cells J 73 (0,0))->X.cell? ⟨jb,7,none⟩=some (.int .i64 c))(hn:s.book.length<=1000000)
  (hcall:∀args X,(callFunc fo args).run Tryz.prog X=.ok (.enter fo args) X)(hok:∀X e,Calls Tryz.prog fo #[.agg #[.bool e.known,.int .i64 e.code,.int .i64 e.bN]] X fun en w'=>en=.returned (.bool (ok e))/\BL X w'):
  Calls Tryz.prog 36 #[.pointer (some ⟨b,0,none⟩),.func (.func fo) #[] #[]] w fun e w'=>e=.returned (.int .i64 (Wk.cM c ok s.book 0))/\BL w w':=by
 have HP:=hid (fun X (hX:BL w X)=>h.below hX);have HJ:Hid (∀X,BL w X->X.cell? ⟨jb,7,none⟩=some (.int .i64 c)):=hid (fun X hX=>hc X (h.below hX).job);obtain⟨n,hn0⟩:=aV s.book.length;have HN:=hid hn0;obtain⟨y0,y1, -, -, -⟩:=h.eV;rw[<-hn0] at y1 hn;have hn1:(n:Int)<=1000000:=by omega
 have HK:=hid hok;clear hn0 hc h hok;go_enter Tryz.func36,Tryz.ntmps36;go_wp2;go_loopw [5,6,12] (fun i5 i6 i wr=>∃k:Nat,k<=n/\i=.int .i64 (k:Int)/\Hid (Wk.cM c ok s.book 0=Wk.cM c ok (s.book.drop k) k)/\Hid (BL w wr)) (fun _ _ i _=>n-(intOf i).toNat);case atStart=>exact⟨0,Nat.zero_le _,rfl,hid rfl,hid ay⟩
 case round=>
  obtain⟨k,hk,rfl,HF,HB⟩:=hrel;by_cases hlt:k<n
  ·have hk0:(0:Int)<=(k:Int):=by omega
   have hk1:(k:Int)<(n:Int):=by omega
   have hkl:k<s.book.length:=by rw[<-HN.out];exact hlt
   have HD:=hid (Wk.Jy (c:=c) (ok:=ok) hkl);have HC:=hid (fun X (hX:BL w X)=>(HP.out X hX).mU hkl);have HO:=hid (fun X=>HK.out X s.book[k]);generalize s.book[k]=en at*;obtain⟨kn,co,le⟩:=en;simp only at HC HO HD;obtain⟨x0,x1,x2⟩:=HC.out wr HB.out;obtain⟨w1,hw1⟩:=aV (wr.alloc (.cells #[.bool kn,.int .i64 co,.int .i64 le] 77));have bf:Hid (Below w.heap.size w w1):=hid (by rw[hw1];exact HB.out.alloc HB.out.size _)
   have HE:Hid (∀X,BL w1 X->X.cell? ⟨wr.heap.size,0,none⟩=some (.bool kn)/\X.cell? ⟨wr.heap.size,1,none⟩=some (.int .i64 co)/\X.cell? ⟨wr.heap.size,2,none⟩=some (.int .i64 le)):=hid (fun X hX=>by
    have h1:X.heap[wr.heap.size]?=some (.cells #[.bool kn,.int .i64 co,.int .i64 le] 77 (0,0)):=(hX.block _ tr).trans uN;exact⟨aF h1 0,aF h1 1,aF h1 2⟩)
   have HW1:=hid hw1;clear hw1;go_upto_region 4 with fail;rw[<-HW1.out];clear x0 x1 x2 y0 y1;obtain⟨e0,e1,e2⟩:=HE.out w1 ay;obtain⟨y0, -⟩:=(HP.out w1 bf.out).eV;have y7:=HJ.out w1 bf.out;obtain⟨z,hz⟩:=aV (ok ⟨kn,co,le⟩);rw[<-hz] at HO HD;clear hz;cases kn
   ·have HO1:=HO
    go_wp2;go_quiet (fail);go_wp2_with fail;refine(HO1.out (w1.drewN _)).mono ?_;rintro e wz ⟨rfl,hbz⟩;have bK:Hid (BL w wz):=hid ((aG bf.out _).trans (hbz.mono (aG bf.out _).size));clear hbz HO HO1 y0 y7 e0 e1 e2;cases z
    ·have Dl:Hid (Wk.cM c ok s.book 0=Wk.cM c ok (s.book.drop (k+1)) (k+1)):=hid (by rw[HF.out,HD.out,if_neg aZ,if_neg aZ])
     go_wp2;go_roundw;case rel=>exact⟨k+1,by omega,by go_num,Dl,bK⟩
     simp[intOf];omega
    ·have HR:Hid (Wk.cM c ok s.book 0=(k:Int)):=hid (by rw[HF.out,HD.out,if_neg aZ,if_pos aZ])
     go_wp2;go_ret;exact⟨by rw[HR.out];rfl,bK.out⟩
   ·by_cases hcc:co=c
    ·have HR:Hid (Wk.cM c ok s.book 0= -1):=hid (by rw[HF.out,HD.out,if_pos ⟨rfl,hcc⟩])
     have hcb:(co==c)=true:=by simpa using hcc
     subst hcc;go_wp2;go_quiet (fail);go_wp2;go_ret;exact⟨by rw[HR.out];rfl,(aG bf.out _)⟩
    ·have hcb:(co==c)=false:=by simpa using hcc
     have Dl:Hid (Wk.cM c ok s.book 0=Wk.cM c ok (s.book.drop (k+1)) (k+1)):=hid (by rw[HF.out,HD.out,if_neg (fun h=>hcc h.2),if_neg aZ]);clear hcc;go_wp2;go_quiet (fail);have bK:Hid (∀m,BL w (w1.drewN m)):=hid (fun m=>aG bf.out m);go_wp2;go_roundw;case rel=>exact⟨k+1,by omega,by go_num,Dl,hid (bK.out _)⟩
     simp[intOf];omega
  ·obtain rfl:n=k:=by omega
   have HR:Hid (Wk.cM c ok s.book 0= -1):=hid (by rw[HF.out,List.drop_of_length_le XG];rfl);go_wp2;go_ret;exact⟨by rw[HR.out];rfl,HB.out⟩
section
variable {b jb gb gw cb cw:Nat} {J:Array Value} {B:Nat} {s:Wk.Pl} {X:World}
theorem bO.Wv(h:bO b jb gb gw cb cw J B s X){k i:Nat}(hk:k<s.book.length)(hi:i<3)(z:Value)(e:Wk.tZ)(hz:(Mv s.book[k]).set i z=Mv e):
  bO b jb gb gw cb cw J B {s with book:=s.book.set k e} (X.setCell ⟨gb,k*3+i,none⟩ z) where
 ptr:=by
  have:=(nZ X ⟨gb,k*3+i,none⟩ z b h.ne.1.1).trans h.ptr;simpa [List.length_set] using this
 job:=(nZ X ⟨gb,k*3+i,none⟩ z jb h.ne.2.1.2.1).trans h.job
 book:=by
  have:=bC.put qM h.book rfl hk hi e z (fun us hu=>by
   obtain rfl:us=Mv s.book[k]:=hu;exact hz)
  simpa [List.length_set] using this
 lC:=h.lC.keep qN (fun y hy hl=>nZ X ⟨gb,k*3+i,none⟩ z y (by
  rcases hy with hy|hy
  ·exact hy.elim
  ·have:gw=y:=by simpa [Value.ownBlock] using hy
   intro e2;exact h.ne.1.2.2 (this▸e2).symm))
 ne:=h.ne
theorem bO.vC(h:bO b jb gb gw cb cw J B s X){k i:Nat}(hk:k<s.ws.length)(hi:i<5)(z:Value)(e:Wk.Jv)(hz:(Ou s.ws[k]).set i z=Ou e):
  bO b jb gb gw cb cw J B {s with ws:=s.ws.set k e} (X.setCell ⟨gw,k*5+i,none⟩ z) where
 ptr:=by
  have:=(nZ X ⟨gw,k*5+i,none⟩ z b h.ne.1.2.1).trans h.ptr;simpa [List.length_set] using this
 job:=(nZ X ⟨gw,k*5+i,none⟩ z jb h.ne.2.1.2.2).trans h.job
 book:=h.book.keep qM (fun y hy hl=>nZ X ⟨gw,k*5+i,none⟩ z y (by
  rcases hy with hy|hy
  ·exact hy.elim
  ·have:gb=y:=by simpa [Value.ownBlock] using hy
   intro e2;exact h.ne.1.2.2 (this.trans e2)))
 lC:=by
  have:=bC.put qN h.lC rfl hk hi e z (fun us hu=>by
   obtain rfl:us=Ou s.ws[k]:=hu;exact hz)
  simpa [List.length_set] using this
 ne:=h.ne
theorem bO.aht(h:bO b jb gb gw cb cw J B s X)(r q:Int)(i:Nat)(z:Value)(hz:(#[.pointer (some ⟨jb,0,none⟩),.slice (some ⟨gb,0,none⟩) s.book.length cb,.slice (some ⟨gw,0,none⟩) s.ws.length cw,.int .i64 s.runs,.int .i64 s.cW]:Array Value).setIfInBounds i z=#[.pointer (some ⟨jb,0,none⟩),.slice (some ⟨gb,0,none⟩) s.book.length cb,.slice (some ⟨gw,0,none⟩) s.ws.length cw,.int .i64 r,.int .i64 q]):
  bO b jb gb gw cb cw J B {s with runs:=r,cW:=q} (X.setCell ⟨b,i,none⟩ z) where
 ptr:=by
  have:=heap_setCell_same X b i _ _ z h.ptr;rw[hz] at this;exact this
 job:=(nZ X ⟨b,i,none⟩ z jb h.ne.2.1.1).trans h.job
 book:=h.book.keep qM (fun y hy hl=>nZ X ⟨b,i,none⟩ z y (by
  rcases hy with hy|hy
  ·exact hy.elim
  ·have:gb=y:=by simpa [Value.ownBlock] using hy
   intro e2;exact h.ne.1.1 (this.trans e2).symm))
 lC:=h.lC.keep qN (fun y hy hl=>nZ X ⟨b,i,none⟩ z y (by
  rcases hy with hy|hy
  ·exact hy.elim
  ·have:gw=y:=by simpa [Value.ownBlock] using hy
   intro e2;exact h.ne.1.2.1 (this.trans e2).symm))
 ne:=h.ne
end
theorem CW{b jb gb gw cb cw:Nat}{J:Array Value}{B:Nat}{s:Wk.Pl}(t:Nat)(c:Int)(w:World)(h:bO b jb gb gw cb cw J B s w)(ht:t<s.book.length)(hr:0<=s.cW/\s.cW<=1000000):
  Calls Tryz.prog 61 #[.pointer (some ⟨b,0,none⟩),.agg #[.int .i64 (t:Int),.int .i64 c]] w fun e w'=>(∃v,e=.returned v)/\bO b jb gb gw cb cw J B (Wk.arrive s t c) w'/\Turns (bL b gb gw) w w':=by
 have HP:=hid (fun X (hX:BL w X)=>h.below hX);have HT:=hid ht;have HR:=hid hr;obtain⟨n,hn0⟩:=aV s.book.length;have HN:=hid hn0;have ht0:(0:Int)<=(t:Int):=by omega
 have ht1:(t:Int)<(n:Int):=by omega
 obtain⟨w1,hw1⟩:=aV (w.alloc (.cells #[.int .i64 (t:Int),.int .i64 c] 83));have bf:Hid (Below w.heap.size w w1):=hid ud
 have HE:Hid (∀X,BL w1 X->X.cell? ⟨w.heap.size,0,none⟩=some (.int .i64 (t:Int))/\X.cell? ⟨w.heap.size,1,none⟩=some (.int .i64 c)):=hid (fun X hX=>by
  have h1:X.heap[w.heap.size]?=some (.cells #[.int .i64 (t:Int),.int .i64 c] 83 (0,0)):=(hX.block _ tr).trans uN;exact⟨aF h1 0,aF h1 1⟩)
 have HW1:=hid hw1;clear hw1 hn0 h ht hr;go_enter Tryz.func61,Tryz.ntmps61;go_upto_region 1 with fail;rw[<-HW1.out];obtain⟨e0,e1⟩:=HE.out w1 ay;obtain⟨y0,y1,y2,y3,y4⟩:=(HP.out w1 bf.out).eV;obtain⟨x0,x1,x2⟩:=(HP.out w1 bf.out).mU HT.out;rw[<-HN.out] at y1;have iK:=hid (fun m=>aG (Below.refl w1.heap.size w1) m);have Yz:=hid (fun X (hX:BL w X)=>(HP.out X hX).mU HT.out);have HEn:Hid (Wk.ent s (t:Int)=s.book[t]'HT.out):=hid (by unfold Wk.ent;rw[Int.toNat_natCast,Sub.aX HT.out]);go_wp2;go_quiet (fail);generalize hq:w1.drewN _=wq;have bK:Hid (BL w1 wq):=hid (hq▸iK.out _);have bZ:=aJ bf bK.out;clear hq iK x0 x1 x2 y0 y1 y2 y3 y4 e0 e1;have GA:=hid (HP.out wq bZ.out);obtain⟨x0,x1,x2⟩:=Yz.out wq bZ.out;obtain⟨y0,y1,y2,y3,y4⟩:=GA.out.eV;obtain⟨e0,e1⟩:=HE.out wq bK.out;have f0:=bC.free GA.out.book (t*3);have f1:=bC.free GA.out.book (t*3+1);have f4:wq.frozen? ⟨b,4,none⟩=false:=bh GA.out.ptr 4;have hr1:=HR.out.1;have AJ:=HR.out.2;by_cases hkn:(s.book[t]'HT.out).known=true
 ·rw[hkn] at x0
  have HA:Hid (bO b jb gb gw cb cw J B (Wk.arrive s t c) (wq.setCell ⟨b,4,none⟩ (.int .i64 (s.cW+1)))/\Turns (bL b gb gw) w (wq.setCell ⟨b,4,none⟩ (.int .i64 (s.cW+1)))):=hid (by
   have e:Wk.arrive s t c={s with runs:=s.runs,cW:=s.cW+1}:=by unfold Wk.arrive;rw[HEn.out,if_pos hkn]
   rw[e]
   exact⟨GA.out.aht s.runs (s.cW+1) 4 _ rfl,(Turns.aQ bZ.out).setCell _ _ (.inl rfl)⟩)
  clear hkn;go_wp2;refine bodyPost_ret (results_none rfl _ _ _) rfl ?_;exact⟨⟨_,rfl⟩,HA.out⟩
 ·have hkf:(s.book[t]'HT.out).known=false:=by simpa using hkn
  rw[hkf] at x0
  have HA:Hid (bO b jb gb gw cb cw J B (Wk.arrive s t c) ((wq.setCell ⟨gb,t*3,none⟩ (.bool true)).setCell ⟨gb,t*3+1,none⟩ (.int .i64 c))/\Turns (bL b gb gw) w ((wq.setCell ⟨gb,t*3,none⟩ (.bool true)).setCell ⟨gb,t*3+1,none⟩ (.int .i64 c))):=hid (by
   have h1:=GA.out.Wv HT.out (i:=0) aC (.bool true) ⟨true,(s.book[t]'HT.out).code,(s.book[t]'HT.out).bN⟩ rfl
   have h2:=h1.Wv (k:=t) (i:=1) (by simpa using HT.out) aC (.int .i64 c) ⟨true,c,(s.book[t]'HT.out).bN⟩ (by simp[Mv])
   have e:Wk.arrive s t c={s with book:=(s.book.set t ⟨true,(s.book[t]'HT.out).code,(s.book[t]'HT.out).bN⟩).set t ⟨true,c,(s.book[t]'HT.out).bN⟩}:=by
    unfold Wk.arrive Wk.jv;rw[HEn.out,if_neg hkn,List.set_set];rfl
   rw[e]
   exact⟨h2,((Turns.aQ bZ.out).setCell _ _ (.inr (.inl rfl))).setCell _ _ (.inr (.inl rfl))⟩)
  clear hkn hkf;have hne:(t*3)≠t*3+1:=by omega
  go_upto_region 4 with fail;go_region
  all_goals
   go_wp2
   go_end0
   exact⟨⟨_,rfl⟩,HA.out.1.kept (fun _ _ _=>rfl),HA.out.2.trans ⟨rfl,rfl,rfl,aH,fun _ _ _=>rfl⟩⟩
theorem jl{P:Program}{f:FuncId}{fn:Func}{c:Code}(hf:P.funcs[f]?=some fn)(hn:(fn.name== "runtime.NumGoroutine")=false)(hb:fn.body=some c)(args:Array Value)(w:World):(callFunc f args).run P w=.ok (.enter f args) w:=by
 have hne:¬fn.name= "runtime.NumGoroutine" :=by simpa using hn
 simp[callFunc,hf,hne,hb,mark]
theorem QD(X:World)(e:Wk.tZ):Calls Tryz.prog 59 #[.agg #[.bool e.known,.int .i64 e.code,.int .i64 e.bN]] X fun en w'=>en=.returned (.bool (Wk.free e))/\BL X w':=by
 obtain⟨kn,co,le⟩:=e
 have hw:Wk.free ⟨kn,co,le⟩=(le== -1):=by
  unfold Wk.free;by_cases h:le= -1
  ·simp[h]
  ·simp[h]
 go_enter Tryz.func59,Tryz.ntmps59;go_wp2;go_ret;exact⟨by rw[hw];rfl,ay.alloc aH _⟩
theorem QE(X:World)(e:Wk.tZ):Calls Tryz.prog 37 #[.agg #[.bool e.known,.int .i64 e.code,.int .i64 e.bN]] X fun en w'=>en=.returned (.bool (Wk.Mq e))/\BL X w':=by
 go_enter Tryz.func37,Tryz.ntmps37;go_wp2;go_ret;exact⟨rfl,ay.alloc aH _⟩
theorem Fp{p:Prop}(h:p:=by
  go_wp2
  go_ret
  rw[HA.out]
  exact⟨rfl,HP.out _ bf.out,zU.out _ bf.out⟩):p:=h
theorem QF{b jb gb gw cb cw:Nat}{J:Array Value}{B:Nat}{s:Wk.Pl}(i:Nat)(k t:Int)(w:World)(h:bO b jb gb gw cb cw J B s w)(hi:i<s.ws.length)(c:Int)(hc:∀X:World,X.heap[jb]?=some (.cells J 73 (0,0))->X.cell? ⟨jb,7,none⟩=some (.int .i64 c))(hn:s.book.length<=1000000):
  Calls Tryz.prog 30 #[.pointer (some ⟨b,0,none⟩),.pointer (some ⟨gw,i*5,none⟩),.agg #[.int .i64 (i:Int),.int .i64 k,.int .i64 t]] w fun e w'=>e=.returned (.int .i64 (Wk.kO c s i).2)/\bO b jb gb gw cb cw J B (Wk.kO c s i).1 w'/\Turns (bL b gb gw) w w':=by
 have HP:=hid (fun X (hX:BL w X)=>h.below hX);have HI:=hid hi;have Xr:=hid h.ne;obtain⟨n,hn0⟩:=aV s.book.length;have HN:=hid hn0;obtain⟨m,hm0⟩:=aV s.ws.length;have HM:=hid hm0;have hi0:(0:Int)<=(i:Int):=by omega
 have hi1:(i:Int)<(m:Int):=by omega
 have AB:Hid (Wk.bU s (i:Int)=s.ws[i]'hi):=hid Oj;obtain⟨w1,hw1⟩:=aV (w.alloc (.cells #[.int .i64 (i:Int),.int .i64 k,.int .i64 t] 49));have bf:Hid (Below w.heap.size w w1):=hid ud
 have HE:Hid (∀X,BL w1 X->X.cell? ⟨w.heap.size,0,none⟩=some (.int .i64 (i:Int))/\X.cell? ⟨w.heap.size,1,none⟩=some (.int .i64 k)/\X.cell? ⟨w.heap.size,2,none⟩=some (.int .i64 t)):=hid (fun X hX=>by
  have h1:X.heap[w.heap.size]?=some (.cells #[.int .i64 (i:Int),.int .i64 k,.int .i64 t] 49 (0,0)):=(hX.block _ tr).trans uN;exact⟨aF h1 0,aF h1 1,aF h1 2⟩)
 have HW1:=hid hw1;have JD:=hid (fun X (hX:BL w X)=>(HP.out X hX).jK HI.out);obtain⟨ta,fi,co,lt,lc,hx⟩:∃ta fi co lt lc,s.ws[i]'hi=⟨ta,fi,co,lt,lc⟩:=⟨_,_,_,_,_,rfl⟩;have HX:Hid (s.ws[i]'HI.out=⟨ta,fi,co,lt,lc⟩):=hid hx;rw[hx] at AB
 have HC:Hid (∀X,BL w X->X.cell? ⟨gw,i*5,none⟩=some (.int .i64 ta)/\X.cell? ⟨gw,i*5+1,none⟩=some (.bool fi)/\X.cell? ⟨gw,i*5+2,none⟩=some (.int .i64 co)/\X.cell? ⟨gw,i*5+3,none⟩=some (.int .i64 lt)/\X.cell? ⟨gw,i*5+4,none⟩=some (.int .i64 lc)):=hid (fun X hX=>by
  have:=JD.out X hX;simp only[HX.out] at this;exact this)
 have zU:Hid (∀X,BL w X->Turns (bL b gb gw) w X):=hid (fun X hX=>Turns.aQ hX);clear hw1 hn0 hm0 hx JD h hi;have HF:=hid (fun X (hX:BL w X)=>CV c Wk.free 59 X (HP.out X hX) hc hn (jl Tryz.func59 (by kernel_rfl) rfl) QD);have Rl:=hid hn;clear hc hn;go_enter Tryz.func30,Tryz.ntmps30;go_upto_region 1 with fail;rw[<-HW1.out];obtain⟨x0,x1,x2,x3,x4⟩:=HC.out w1 bf.out;obtain⟨y0,y1,y2,y3,y4⟩:=(HP.out w1 bf.out).eV;rw[<-HN.out] at y1;rw[<-HM.out] at y2;by_cases JE:ta= -1
 ·have Gi:Hid ((Wk.bU s (i:Int)).task= -1):=hid (by rw[AB.out];exact JE)
  subst JE;go_wp2_with fail;refine(HF.out w1 bf.out).mono ?_;rintro e w2 ⟨rfl,hb2⟩;have bK:=aJ bf hb2;have eC:Hid (BL w1 w2):=hid hb2;clear hb2 x0 x1 x2 x3 x4 y0 y1 y2 y3 y4 HF;obtain⟨j,hj⟩:=aV (Wk.cM c Wk.free s.book 0);have HJ:=hid hj;rw[<-hj];clear hj;by_cases hj1:j= -1
  ·have HA:Hid (Wk.kO c s i=(s,6)):=hid (by unfold Wk.kO;rw[if_neg (by rw[Gi.out];simp),if_pos (by rw[<-HJ.out];exact hj1)])
   subst hj1;go_wp2;go_ret;rw[HA.out];exact⟨rfl,HP.out _ bK.out,zU.out _ bK.out⟩
  ·obtain⟨q,hq,hqn⟩:∃q:Nat,j=(q:Int)/\q<n:=by
    rcases Wk.qJ c Wk.free s.book 0 with h1|⟨q,h1,h2, -⟩
    ·exact absurd (HJ.out.trans h1) hj1
    ·exact⟨q,by rw[HJ.out,h2];simp,by rw[HN.out];exact h1⟩
   subst hq;have hjb:((q:Int)== -1)=false:=by simpa using hj1
   have Dk:(0:Int)<=(q:Int):=by omega
   have hq1:(q:Int)<(n:Int):=by omega
   obtain⟨x0,x1,x2,x3,x4⟩:=HC.out w2 bK.out;obtain⟨y0,y1,y2,y3,y4⟩:=(HP.out w2 bK.out).eV;rw[<-HN.out] at y1;rw[<-HM.out] at y2;obtain⟨e0,e1,e2⟩:=HE.out w2 eC.out;obtain⟨⟨xo,g2⟩,f2⟩:(∃x,w2.cell? ⟨gb,q*3+2,none⟩=some x)/\w2.frozen? ⟨gb,q*3+2,none⟩=false:=⟨⟨_,((HP.out w2 bK.out).mU (k:=q) (by rw[<-HN.out];exact hqn)).2.2⟩,bC.free (HP.out w2 bK.out).book _⟩;have f3:=bC.free (HP.out w2 bK.out).lC (i*5);have f4:=bC.free (HP.out w2 bK.out).lC (i*5+1)
   have rJ:Hid (bO b jb gb gw cb cw J B (Wk.jv s (q:Int) {Wk.ent s (q:Int) with bN:=(i:Int)}) (w2.setCell ⟨gb,q*3+2,none⟩ (.int .i64 (i:Int))).drew/\Turns (bL b gb gw) w (w2.setCell ⟨gb,q*3+2,none⟩ (.int .i64 (i:Int))).drew):=hid (by
    have Jd:q<s.book.length:=by rw[<-HN.out];exact hqn
    have h1:=(HP.out w2 bK.out).Wv Jd (i:=2) aC (.int .i64 (i:Int)) {s.book[q] with bN:=(i:Int)} (by simp[Mv])
    have e1:Wk.ent s (q:Int)=s.book[q]:=by unfold Wk.ent;rw[Int.toNat_natCast,Sub.aX Jd]
    have e2:Wk.jv s (q:Int) {Wk.ent s (q:Int) with bN:=(i:Int)}={s with book:=s.book.set q {s.book[q] with bN:=(i:Int)}}:=by unfold Wk.jv;rw[e1];rfl
    rw[e2]
    exact⟨h1.kept (fun _ _ _=>rfl),((zU.out w2 bK.out).setCell _ _ (.inr (.inl rfl))).trans ⟨rfl,rfl,rfl,aH,fun _ _ _=>rfl⟩⟩)
   go_upto_region 6 with fail;go_region;go_upto_region 7 with fail;generalize (w2.setCell ⟨gb,q*3+2,none⟩ (.int .i64 (i:Int))).drew=w3 at*;clear x0 x1 x2 x3 x4 y0 y1 y2 y3 y4 e0 e1 e2 xo g2 f2 f3 f4;have HP3:=hid rJ.out.1;have HTn3:=hid rJ.out.2;have hi3:i<(Wk.jv s (q:Int) {Wk.ent s (q:Int) with bN:=(i:Int)}).ws.length:=HI.out;obtain⟨x0,x1, -⟩:=HP3.out.jK hi3;have f3:=bC.free HP3.out.lC (i*5);have f4:=bC.free HP3.out.lC (i*5+1);have hne:i*5≠i*5+1:=by omega
   have HA:Hid (Wk.kO c s i=(Wk.dD (Wk.jv s (q:Int) {Wk.ent s (q:Int) with bN:=(i:Int)}) i {Wk.bU s i with task:=(q:Int),fin:=false},0)):=hid (by unfold Wk.kO;rw[if_neg (by rw[Gi.out];simp),if_neg (by rw[<-HJ.out];exact hj1),<-HJ.out])
   have HZ:Hid (bO b jb gb gw cb cw J B (Wk.kO c s i).1 ((w3.setCell ⟨gw,i*5,none⟩ (.int .i64 (q:Int))).setCell ⟨gw,i*5+1,none⟩ (.bool false))/\Turns (bL b gb gw) w ((w3.setCell ⟨gw,i*5,none⟩ (.int .i64 (q:Int))).setCell ⟨gw,i*5+1,none⟩ (.bool false))):=hid (by
    rw[HA.out,AB.out]
    have hs:(Wk.jv s (q:Int) {Wk.ent s (q:Int) with bN:=(i:Int)}).ws[i]'hi3=⟨-1,fi,co,lt,lc⟩:=HX.out
    have h1:=HP3.out.vC hi3 (i:=0) aC (.int .i64 (q:Int)) ⟨(q:Int),fi,co,lt,lc⟩ (by rw[hs];rfl)
    have h2:=h1.vC (k:=i) (i:=1) (by simpa using hi3) aC (.bool false) ⟨(q:Int),false,co,lt,lc⟩ Fy
    refine⟨?_,(HTn3.out.setCell _ _ (.inr (.inr rfl))).setCell _ _ (.inr (.inr rfl))⟩
    simpa [Wk.dD,List.set_set] using h2)
   go_wp2;go_ret;rw[HA.out] at HZ ⊢;exact⟨rfl,HZ.out⟩
 ·have HA:Hid (Wk.kO c s i=(s,8)):=hid (by unfold Wk.kO;rw[if_pos (by rw[AB.out];exact JE)])
  have htb:(ta != -1)=true:=Oz JE;clear JE;exact Fp
theorem Mw{b jb gb gw cb cw:Nat}{J:Array Value}{B:Nat}{s:Wk.Pl}(i:Nat)(k t:Int)(w:World)(h:bO b jb gb gw cb cw J B s w)(hi:i<s.ws.length)(hr:0<=s.cW/\s.cW<=1000000)(hl: -1<=s.ws[i].iV/\s.ws[i].iV<s.book.length):
  Calls Tryz.prog 33 #[.pointer (some ⟨b,0,none⟩),.pointer (some ⟨gw,i*5,none⟩),.agg #[.int .i64 (i:Int),.int .i64 k,.int .i64 t]] w fun e w'=>e=.returned (.int .i64 (Wk.mC s i).2)/\bO b jb gb gw cb cw J B (Wk.mC s i).1 w'/\Turns (bL b gb gw) w w':=by
 have HL:=hid hl;have HP:=hid (fun X (hX:BL w X)=>h.below hX);have HI:=hid hi;have Xr:=hid h.ne;obtain⟨n,hn0⟩:=aV s.book.length;have HN:=hid hn0;obtain⟨m,hm0⟩:=aV s.ws.length;have HM:=hid hm0;have hi0:(0:Int)<=(i:Int):=by omega
 have hi1:(i:Int)<(m:Int):=by omega
 have AB:Hid (Wk.bU s (i:Int)=s.ws[i]'hi):=hid Oj;obtain⟨w1,hw1⟩:=aV (w.alloc (.cells #[.int .i64 (i:Int),.int .i64 k,.int .i64 t] 49));have bf:Hid (Below w.heap.size w w1):=hid ud
 have HE:Hid (∀X,BL w1 X->X.cell? ⟨w.heap.size,0,none⟩=some (.int .i64 (i:Int))/\X.cell? ⟨w.heap.size,1,none⟩=some (.int .i64 k)/\X.cell? ⟨w.heap.size,2,none⟩=some (.int .i64 t)):=hid (fun X hX=>by
  have h1:X.heap[w.heap.size]?=some (.cells #[.int .i64 (i:Int),.int .i64 k,.int .i64 t] 49 (0,0)):=(hX.block _ tr).trans uN;exact⟨aF h1 0,aF h1 1,aF h1 2⟩)
 have HW1:=hid hw1;have JD:=hid (fun X (hX:BL w X)=>(HP.out X hX).jK HI.out);obtain⟨ta,fi,co,lt,lc,hx⟩:∃ta fi co lt lc,s.ws[i]'hi=⟨ta,fi,co,lt,lc⟩:=⟨_,_,_,_,_,rfl⟩;have HX:Hid (s.ws[i]'HI.out=⟨ta,fi,co,lt,lc⟩):=hid hx;rw[hx] at AB
 have HC:Hid (∀X,BL w X->X.cell? ⟨gw,i*5,none⟩=some (.int .i64 ta)/\X.cell? ⟨gw,i*5+1,none⟩=some (.bool fi)/\X.cell? ⟨gw,i*5+2,none⟩=some (.int .i64 co)/\X.cell? ⟨gw,i*5+3,none⟩=some (.int .i64 lt)/\X.cell? ⟨gw,i*5+4,none⟩=some (.int .i64 lc)):=hid (fun X hX=>by
  have:=JD.out X hX;simp only[HX.out] at this;exact this)
 have zU:Hid (∀X,BL w X->Turns (bL b gb gw) w X):=hid (fun X hX=>Turns.aQ hX);have HLt:Hid (-1<=lt/\lt<(n:Int)):=hid ab2;clear hw1 hn0 hm0 hx JD h hl HL hi;have L0:=hid (fun X (hX:BL w X) (q:Nat) (hq:q<s.book.length)=>CW q lc X (HP.out X hX) hq hr);clear hr;go_enter Tryz.func33,Tryz.ntmps33;go_upto_region 1 with fail;rw[<-HW1.out];obtain⟨x0,x1,x2,x3,x4⟩:=HC.out w1 bf.out;obtain⟨y0,y1,y2,y3,y4⟩:=(HP.out w1 bf.out).eV;rw[<-HN.out] at y1;rw[<-HM.out] at y2;by_cases hlt:lt= -1
 ·have HA:Hid (Wk.mC s i=(s,8)):=hid (by unfold Wk.mC;rw[AB.out,if_pos hlt])
  subst hlt;exact Fp
 ·have HA:Hid (Wk.mC s i=(Wk.arrive s lt lc,0)):=hid (by unfold Wk.mC;rw[AB.out,if_neg hlt])
  obtain⟨q,hq⟩:∃q:Nat,lt=(q:Int):=⟨lt.toNat,by have:=HLt.out;omega⟩;subst hq;have Jd:((q:Int)== -1)=false:=by simp
  have HAq:=hid (L0.out w1 bf.out q (by have:=HLt.out;have:=HN.out;omega));go_wp2_with fail;refine HAq.out.mono ?_;rintro e w2 ⟨⟨v,rfl⟩,hp2,ht2⟩;have HZ:=hid (And.intro hp2 ((zU.out w1 bf.out).trans ht2));clear hp2 ht2;go_wp2;go_ret;rw[HA.out];exact⟨rfl,HZ.out⟩
theorem Ww{b jb gb gw cb cw:Nat}{J:Array Value}{B:Nat}{s:Wk.Pl}(w:World)(h:bO b jb gb gw cb cw J B s w)(c:Int)(hc:∀X:World,X.heap[jb]?=some (.cells J 73 (0,0))->X.cell? ⟨jb,7,none⟩=some (.int .i64 c))(hn:s.book.length<=1000000):
  Calls Tryz.prog 14 #[.pointer (some ⟨b,0,none⟩)] w fun e w'=>e=.returned (.bool (Wk.mI c s))/\BL w w':=by
 have HF:=hid (CV c Wk.Mq 37 w h hc hn (jl Tryz.func37 (by kernel_rfl) rfl) QE)
 have HD:Hid (Wk.mI c s=(Wk.cM c Wk.Mq s.book 0== -1)):=hid (by
  unfold Wk.mI
  by_cases h:Wk.cM c Wk.Mq s.book 0= -1
  ·simp[h]
  ·simp[h])
 clear h hc hn;generalize Wk.cM c Wk.Mq s.book 0=j at*;go_enter Tryz.func14,Tryz.ntmps14;go_wp2_with fail;refine HF.out.mono ?_;rintro e w2 ⟨rfl,hb⟩;have HB:=hid hb;clear hb HF;go_wp2;go_ret;exact⟨by rw[HD.out];rfl,HB.out⟩
theorem Wx{b jb gb gw cb cw:Nat}{J:Array Value}{B:Nat}{s:Wk.Pl}(w:World)(h:bO b jb gb gw cb cw J B s w):
  Calls Tryz.prog 16 #[.pointer (some ⟨b,0,none⟩)] w fun e w'=>e=.returned (.tuple #[.int .i64 s.runs,.int .i64 s.cW])/\BL w w':=by
 obtain⟨y0,y1,y2,y3,y4⟩:=h.eV;have iK:=hid (fun m=>aG (Below.refl w.heap.size w) m);clear h;go_enter Tryz.func16,Tryz.ntmps16;go_wp2;go_quiet (fail);go_wp2;go_ret2;exact⟨rfl,iK.out _⟩
theorem QG{w:World}{g:Nat}{x0 x1 x2 x3 x4:Value}{tmps:Array Value}(h:w.heap[g]?=some (.cells #[x0,x1,x2,x3,x4] 85 (0,0)))(hp:tmps[0]?=some (.pointer (some ⟨g,0,none⟩))):
  (results Tryz.f25 tmps).run Tryz.prog w=.ok (.agg #[x0,x1,x2,x3,x4]) w:=by
 obtain⟨⟨h0,h1,h2,h3,h4⟩, -⟩:=mL h;simp[results,Tryz.results25,go_sem,hp,h0,h1,h2,h3,h4]
theorem JF(w:World):Calls Tryz.prog 25 #[] w fun e w'=>e=.returned (.agg #[.int .i64 (-1),.bool false,.int .i64 0,.int .i64 (-1),.int .i64 0])/\BL w w':=by
 go_enter Tryz.func25,Tryz.ntmps25;go_wp2;refine bodyPost_ret (QG (g:=w.heap.size) ?h1 rfl) rfl ⟨rfl, ?h2⟩;case h1=>first|exact aP _ _ rfl|simp
 case h2=>exact ay.alloc aH _
theorem QH{b jb gb gw cb cw:Nat}{J:Array Value}{B:Nat}{s:Wk.Pl}(i:Nat)(k t:Int)(w:World)(h:bO b jb gb gw cb cw J B s w)(hi:i<s.ws.length):
  Calls Tryz.prog 34 #[.pointer (some ⟨b,0,none⟩),.pointer (some ⟨gw,i*5,none⟩),.agg #[.int .i64 (i:Int),.int .i64 k,.int .i64 t]] w fun e w'=>e=.returned (.int .i64 (Wk.nT s i).2)/\bO b jb gb gw cb cw J B (Wk.nT s i).1 w'/\Turns (bL b gb gw) w w':=by
 have HP:=hid (fun X (hX:BL w X)=>h.below hX);have HI:=hid hi;have Xr:=hid h.ne;obtain⟨n,hn0⟩:=aV s.book.length;have HN:=hid hn0;obtain⟨m,hm0⟩:=aV s.ws.length;have HM:=hid hm0;have hi0:(0:Int)<=(i:Int):=by omega
 have hi1:(i:Int)<(m:Int):=by omega
 have AB:Hid (Wk.bU s (i:Int)=s.ws[i]'hi):=hid Oj;obtain⟨w1,hw1⟩:=aV (w.alloc (.cells #[.int .i64 (i:Int),.int .i64 k,.int .i64 t] 49));have bf:Hid (Below w.heap.size w w1):=hid ud
 have HE:Hid (∀X,BL w1 X->X.cell? ⟨w.heap.size,0,none⟩=some (.int .i64 (i:Int))/\X.cell? ⟨w.heap.size,1,none⟩=some (.int .i64 k)/\X.cell? ⟨w.heap.size,2,none⟩=some (.int .i64 t)):=hid (fun X hX=>by
  have h1:X.heap[w.heap.size]?=some (.cells #[.int .i64 (i:Int),.int .i64 k,.int .i64 t] 49 (0,0)):=(hX.block _ tr).trans uN;exact⟨aF h1 0,aF h1 1,aF h1 2⟩)
 have HW1:=hid hw1;have JD:=hid (fun X (hX:BL w X)=>(HP.out X hX).jK HI.out);obtain⟨ta,fi,co,lt,lc,hx⟩:∃ta fi co lt lc,s.ws[i]'hi=⟨ta,fi,co,lt,lc⟩:=⟨_,_,_,_,_,rfl⟩;have HX:Hid (s.ws[i]'HI.out=⟨ta,fi,co,lt,lc⟩):=hid hx;rw[hx] at AB
 have HC:Hid (∀X,BL w X->X.cell? ⟨gw,i*5,none⟩=some (.int .i64 ta)/\X.cell? ⟨gw,i*5+1,none⟩=some (.bool fi)/\X.cell? ⟨gw,i*5+2,none⟩=some (.int .i64 co)/\X.cell? ⟨gw,i*5+3,none⟩=some (.int .i64 lt)/\X.cell? ⟨gw,i*5+4,none⟩=some (.int .i64 lc)):=hid (fun X hX=>by
  have:=JD.out X hX;simp only[HX.out] at this;exact this)
 have zU:Hid (∀X,BL w X->Turns (bL b gb gw) w X):=hid (fun X hX=>Turns.aQ hX);clear hw1 hn0 hm0 hx JD h hi;go_enter Tryz.func34,Tryz.ntmps34;go_upto_region 1 with fail;rw[<-HW1.out];go_wp2_with fail;refine(JF w1).mono ?_;rintro e w2 ⟨rfl,hb2⟩;have bK:=aJ bf hb2;clear hb2;obtain⟨x0,x1,x2,x3,x4⟩:=HC.out w2 bK.out;have f0:=bC.free (HP.out w2 bK.out).lC (i*5);have f1:=bC.free (HP.out w2 bK.out).lC (i*5+1);have f2:=bC.free (HP.out w2 bK.out).lC (i*5+2);have f3:=bC.free (HP.out w2 bK.out).lC (i*5+3);have f4:=bC.free (HP.out w2 bK.out).lC (i*5+4)
 have HZ:Hid (bO b jb gb gw cb cw J B (Wk.nT s i).1 (((((w2.setCell ⟨gw,i*5,none⟩ (.int .i64 (-1))).setCell ⟨gw,i*5+1,none⟩ (.bool false)).setCell ⟨gw,i*5+2,none⟩ (.int .i64 0)).setCell ⟨gw,i*5+3,none⟩ (.int .i64 (-1))).setCell ⟨gw,i*5+4,none⟩ (.int .i64 0))/\Turns (bL b gb gw) w (((((w2.setCell ⟨gw,i*5,none⟩ (.int .i64 (-1))).setCell ⟨gw,i*5+1,none⟩ (.bool false)).setCell ⟨gw,i*5+2,none⟩ (.int .i64 0)).setCell ⟨gw,i*5+3,none⟩ (.int .i64 (-1))).setCell ⟨gw,i*5+4,none⟩ (.int .i64 0))):=hid (by
  have h0:=(HP.out w2 bK.out).vC HI.out (i:=0) aC (.int .i64 (-1)) ⟨-1,fi,co,lt,lc⟩ (by rw[HX.out];rfl)
  have h1:=h0.vC (k:=i) (i:=1) Ka aC (.bool false) ⟨-1,false,co,lt,lc⟩ Fy
  have h2:=h1.vC (k:=i) (i:=2) Ka aC (.int .i64 0) ⟨-1,false,0,lt,lc⟩ Fy
  have h3:=h2.vC (k:=i) (i:=3) Ka aC (.int .i64 (-1)) ⟨-1,false,0, -1,lc⟩ Fy
  have h4:=h3.vC (k:=i) (i:=4) Ka aC (.int .i64 0) ⟨-1,false,0, -1,0⟩ Fy
  refine⟨?_,(((((zU.out w2 bK.out).setCell _ _ (.inr (.inr rfl))).setCell _ _ (.inr (.inr rfl))).setCell _ _ (.inr (.inr rfl))).setCell _ _ (.inr (.inr rfl))).setCell _ _ (.inr (.inr rfl))⟩
  simpa [Wk.nT,Wk.dD,Wk.idle,List.set_set] using h4)
 go_wp2;go_ret;exact⟨rfl,HZ.out⟩
theorem Wk.JG(s:Wk.Pl)(i t c:Int)(x:Wk.Jv):Wk.arrive (Wk.dD s i x) t c=Wk.dD (Wk.arrive s t c) i x:=by
 unfold Wk.arrive;by_cases h:(Wk.ent s t).known=true
 ·rw[if_pos h,if_pos (show (Wk.ent (Wk.dD s i x) t).known=true from h)];rfl
 ·rw[if_neg h,if_neg (show ¬(Wk.ent (Wk.dD s i x) t).known=true from h)];rfl
theorem bO.N8{b jb gb gw cb cw:Nat}{J:Array Value}{B:Nat}{s:Wk.Pl}{X:World}(h:bO b jb gb gw cb cw J B s X):∀y,bL b gb gw y->y<X.heap.size:=by
 intro y hy;rcases hy with rfl|rfl|rfl
 ·exact aj h.ptr
 ·exact(bC.lt h.book y rfl).2
 ·exact(bC.lt h.lC y rfl).2
theorem ahu{p:Prop}(h:p:=by
  have hi7:i<(Wk.dD (Wk.freed (Wk.arrive s q co) q i) i ⟨q,true,co,q,co⟩).ws.length:=by simp[Wk.dD,Wk.p8,Wk.jw];exact HI.out
  have hs7:(Wk.dD (Wk.freed (Wk.arrive s q co) q i) i ⟨q,true,co,q,co⟩).ws[i]'hi7=⟨q,true,co,q,co⟩:=by simp[Wk.dD]
  have HZ:Hid (bO b jb gb gw cb cw J B (Wk.mh s i).1 ((w7.setCell ⟨gw,i*5,none⟩ (.int .i64 (-1))).setCell ⟨gw,i*5+1,none⟩ (.bool false))/\Turns (bL b gb gw) w ((w7.setCell ⟨gw,i*5,none⟩ (.int .i64 (-1))).setCell ⟨gw,i*5+1,none⟩ (.bool false))):=hid (by
   have h0:=K7.out.vC hi7 (i:=0) aC (.int .i64 (-1)) ⟨-1,true,co,q,co⟩ (by rw[hs7];rfl)
   have h1:=h0.vC (k:=i) (i:=1) (by simpa using hi7) aC (.bool false) ⟨-1,false,co,q,co⟩ Fy
   rw[HA.out]
   refine⟨?_,(zU.out w1 bf.out).trans ((HT7.out.setCell _ _ (.inr (.inr rfl))).setCell _ _ (.inr (.inr rfl)))⟩
   simpa [Wk.dD,List.set_set] using h1)
  obtain⟨x0,x1, -⟩:=K7.out.jK hi7
  rw[hs7] at x0 x1
  simp only at x0 x1
  have f0:=bC.free K7.out.lC (i*5)
  have f1:=bC.free K7.out.lC (i*5+1)
  clear hi7 hs7
  go_wp2
  go_ret
  rw[HA.out] at HZ ⊢
  exact⟨rfl,HZ.out⟩):p:=h
theorem Wy{b jb gb gw cb cw:Nat}{J:Array Value}{B:Nat}{s:Wk.Pl}(i:Nat)(k t:Int)(w:World)(h:bO b jb gb gw cb cw J B s w)(hi:i<s.ws.length)(hr:0<=s.cW/\s.cW<=1000000)(JE: -1<=s.ws[i].task/\s.ws[i].task<s.book.length):
  Calls Tryz.prog 32 #[.pointer (some ⟨b,0,none⟩),.pointer (some ⟨gw,i*5,none⟩),.agg #[.int .i64 (i:Int),.int .i64 k,.int .i64 t]] w fun e w'=>e=.returned (.int .i64 (Wk.mh s i).2)/\bO b jb gb gw cb cw J B (Wk.mh s i).1 w'/\Turns (bL b gb gw) w w':=by
 have HL:=hid JE;have II:=hid h.N8;have HP:=hid (fun X (hX:BL w X)=>h.below hX);have HI:=hid hi;have Xr:=hid h.ne;obtain⟨n,hn0⟩:=aV s.book.length;have HN:=hid hn0;obtain⟨m,hm0⟩:=aV s.ws.length;have HM:=hid hm0;have hi0:(0:Int)<=(i:Int):=by omega
 have hi1:(i:Int)<(m:Int):=by omega
 have AB:Hid (Wk.bU s (i:Int)=s.ws[i]'hi):=hid Oj;obtain⟨w1,hw1⟩:=aV (w.alloc (.cells #[.int .i64 (i:Int),.int .i64 k,.int .i64 t] 49));have bf:Hid (Below w.heap.size w w1):=hid ud
 have HE:Hid (∀X,BL w1 X->X.cell? ⟨w.heap.size,0,none⟩=some (.int .i64 (i:Int))/\X.cell? ⟨w.heap.size,1,none⟩=some (.int .i64 k)/\X.cell? ⟨w.heap.size,2,none⟩=some (.int .i64 t)):=hid (fun X hX=>by
  have h1:X.heap[w.heap.size]?=some (.cells #[.int .i64 (i:Int),.int .i64 k,.int .i64 t] 49 (0,0)):=(hX.block _ tr).trans uN;exact⟨aF h1 0,aF h1 1,aF h1 2⟩)
 have HW1:=hid hw1;have JD:=hid (fun X (hX:BL w X)=>(HP.out X hX).jK HI.out);obtain⟨ta,fi,co,lt,lc,hx⟩:∃ta fi co lt lc,s.ws[i]'hi=⟨ta,fi,co,lt,lc⟩:=⟨_,_,_,_,_,rfl⟩;have HX:Hid (s.ws[i]'HI.out=⟨ta,fi,co,lt,lc⟩):=hid hx;rw[hx] at AB
 have HC:Hid (∀X,BL w X->X.cell? ⟨gw,i*5,none⟩=some (.int .i64 ta)/\X.cell? ⟨gw,i*5+1,none⟩=some (.bool fi)/\X.cell? ⟨gw,i*5+2,none⟩=some (.int .i64 co)/\X.cell? ⟨gw,i*5+3,none⟩=some (.int .i64 lt)/\X.cell? ⟨gw,i*5+4,none⟩=some (.int .i64 lc)):=hid (fun X hX=>by
  have:=JD.out X hX;simp only[HX.out] at this;exact this)
 have zU:Hid (∀X,BL w X->Turns (bL b gb gw) w X):=hid (fun X hX=>Turns.aQ hX);have Gi:Hid (-1<=ta/\ta<(n:Int)):=hid ab2;clear hw1 hn0 hm0 hx JD h JE HL hi
 have HEv:Hid (∀X,Turns (bL b gb gw) w1 X->X.cell? ⟨w.heap.size,0,none⟩=some (.int .i64 (i:Int))):=hid (fun X hX=>by
  have h1:w1.heap[w.heap.size]?=some (.cells #[.int .i64 (i:Int),.int .i64 k,.int .i64 t] 49 (0,0)):=by rw[HW1.out];exact JO ..
  have h2:=(hX.block w.heap.size (fun h=>by have:=II.out _ h;omega) (aj h1)).trans h1;exact aF h2 0)
 have HR:=hid hr;clear hr;go_enter Tryz.func32,Tryz.ntmps32;go_upto_region 1 with fail;rw[<-HW1.out];obtain⟨x0,x1,x2,x3,x4⟩:=HC.out w1 bf.out;obtain⟨y0,y1,y2,y3,y4⟩:=(HP.out w1 bf.out).eV;rw[<-HN.out] at y1;rw[<-HM.out] at y2;by_cases JE:ta= -1
 ·have HA:Hid (Wk.mh s i=(s,8)):=hid (by unfold Wk.mh;rw[AB.out,if_pos (.inl JE)])
  subst JE;exact Fp
 ·obtain⟨q,hq⟩:∃q:Nat,ta=(q:Int):=⟨ta.toNat,by have:=Gi.out;omega⟩
  subst hq;have Jd:((q:Int)== -1)=false:=by simp
  cases fi
  ·have HA:Hid (Wk.mh s i=(s,8)):=hid (by unfold Wk.mh;rw[AB.out,if_pos (.inr rfl)])
   exact Fp
  ·have HA:Hid (Wk.mh s i=(Wk.dD (Wk.freed (Wk.arrive s q co) q i) i ⟨-1,false,co,q,co⟩,0)):=hid (by unfold Wk.mh;rw[AB.out,if_neg aZ])
   have f3:=bC.free (HP.out w1 bf.out).lC (i*5+3);have f4:=bC.free (HP.out w1 bf.out).lC (i*5+4)
   have xZ:Hid (bO b jb gb gw cb cw J B (Wk.dD s i ⟨q,true,co,q,co⟩) ((w1.setCell ⟨gw,i*5+3,none⟩ (.int .i64 (q:Int))).setCell ⟨gw,i*5+4,none⟩ (.int .i64 co)).drew/\Turns (bL b gb gw) w1 ((w1.setCell ⟨gw,i*5+3,none⟩ (.int .i64 (q:Int))).setCell ⟨gw,i*5+4,none⟩ (.int .i64 co)).drew):=hid (by
    have h0:=(HP.out w1 bf.out).vC HI.out (i:=3) aC (.int .i64 (q:Int)) ⟨q,true,co,q,lc⟩ (by rw[HX.out];rfl)
    have h1:=h0.vC (k:=i) (i:=4) Ka aC (.int .i64 co) ⟨q,true,co,q,co⟩ Fy
    refine⟨bO.kept (X:=(w1.setCell ⟨gw,i*5+3,none⟩ (.int .i64 (q:Int))).setCell ⟨gw,i*5+4,none⟩ (.int .i64 co)) ?_ (fun _ _ _=>rfl),((Turns.refl _ _).setCell _ _ (.inr (.inr rfl))|>.setCell _ _ (.inr (.inr rfl))).trans ⟨rfl,rfl,rfl,aH,fun _ _ _=>rfl⟩⟩
    simpa [Wk.dD,List.set_set] using h1)
   go_upto_region 3 with fail;go_region;go_upto_region 4 with fail;generalize ((w1.setCell ⟨gw,i*5+3,none⟩ (.int .i64 (q:Int))).setCell ⟨gw,i*5+4,none⟩ (.int .i64 co)).drew=w3 at*;clear x0 x1 x2 x3 x4 y0 y1 y2 y3 y4 f3 f4;have hi3:i<(Wk.dD s i ⟨q,true,co,q,co⟩).ws.length:=by simp[Wk.dD];exact HI.out
   have hsx:(Wk.dD s i ⟨q,true,co,q,co⟩).ws[i]'hi3=⟨q,true,co,q,co⟩:=by simp[Wk.dD]
   obtain⟨x0,x1,x2,x3,x4⟩:=xZ.out.1.jK hi3;rw[hsx] at x0 x1 x2 x3 x4;simp only at x0 x1 x2 x3 x4;have L0:=hid (CW q co w3 xZ.out.1 (by have:=Gi.out;have:=HN.out;show q<s.book.length;omega) HR.out);rw[Wk.JG] at L0;clear hsx hi3;go_wp2_with fail;refine L0.out.mono ?_;rintro e w4 ⟨⟨v,rfl⟩,hp4,zq⟩;have Xg:=hid hp4;have OH:Hid (Turns (bL b gb gw) w1 w4):=hid (xZ.out.2.trans zq);clear hp4 zq x0 x1 x2 x3 x4 L0;have ZS:q<(Wk.dD (Wk.arrive s q co) i ⟨q,true,co,q,co⟩).book.length:=by show q<(Wk.arrive s q co).book.length;rw[Wk.jV];have:=Gi.out;have:=HN.out;omega
   have aev:i<(Wk.dD (Wk.arrive s q co) i ⟨q,true,co,q,co⟩).ws.length:=by simp[Wk.dD,Wk.jw];exact HI.out
   have hsx:(Wk.dD (Wk.arrive s q co) i ⟨q,true,co,q,co⟩).ws[i]'aev=⟨q,true,co,q,co⟩:=by simp[Wk.dD]
   have hbl:(Wk.dD (Wk.arrive s q co) i ⟨q,true,co,q,co⟩).book.length=n:=by show (Wk.arrive s q co).book.length=n;rw[Wk.jV,HN.out]
   have HQb:=hid ZS;have HIb:=hid aev;have HSx:Hid ((Wk.dD (Wk.arrive s q co) i ⟨q,true,co,q,co⟩).ws[i]'HIb.out=⟨q,true,co,q,co⟩):=hid hsx;have JQ:=hid hbl;obtain⟨en,hen⟩:=aV ((Wk.dD (Wk.arrive s q co) i ⟨q,true,co,q,co⟩).book[q]'ZS);have HEn:Hid (en=(Wk.dD (Wk.arrive s q co) i ⟨q,true,co,q,co⟩).book[q]'HQb.out):=hid hen;have HEl:Hid ((Wk.ent (Wk.arrive s q co) q)=en):=hid (by rw[hen];show (Wk.arrive s q co).book.getD (q:Int).toNat Wk.zeroE=_;rw[Int.toNat_natCast,Sub.aX (show q<(Wk.arrive s q co).book.length from ZS)];rfl);clear ZS aev hsx hbl hen;have Dk:(0:Int)<=(q:Int):=by omega
   have hq1:(q:Int)<(n:Int):=Gi.out.2;obtain⟨x0,x1, -⟩:=Xg.out.jK HIb.out;rw[HSx.out] at x0 x1;simp only at x0 x1;obtain⟨y0,y1, -⟩:=Xg.out.eV;rw[JQ.out] at y1;have HD4:=hid (fun m=>aG (Below.refl w4.heap.size w4) m);go_wp2;go_quiet (fail);generalize hq5:w4.drewN _=w5;have ahv:Hid (BL w4 w5):=hid (hq5▸HD4.out _);clear hq5 HD4 x0 x1 y0 y1;have Nw:=hid (Xg.out.below ahv.out);have WV:Hid (Turns (bL b gb gw) w1 w5):=hid (OH.out.trans (Turns.aQ ahv.out));obtain⟨z0,z1,z2⟩:=Nw.out.mU HQb.out;rw[<-HEn.out] at z0 z1 z2;have e0:=HEv.out w5 WV.out;have UG:=hid (fun m=>aG (Below.refl w5.heap.size w5) m);go_wp2;go_quiet (fail);generalize hq6:w5.drewN _=w6;have ahw:Hid (BL w5 w6):=hid (hq6▸UG.out _);clear hq6 UG z0 z1 z2 e0;have IK:=hid (Nw.out.below ahw.out);have HT6:Hid (Turns (bL b gb gw) w1 w6):=hid (WV.out.trans (Turns.aQ ahw.out));have hnn:i*5≠i*5+1:=by omega
   by_cases hle:en.bN=(i:Int)
   ·have hlb:(en.bN==(i:Int))=true:=by simpa using hle
    have HFr:Hid (bO b jb gb gw cb cw J B (Wk.dD (Wk.freed (Wk.arrive s q co) q i) i ⟨q,true,co,q,co⟩) (w6.setCell ⟨gb,q*3+2,none⟩ (.int .i64 (-1)))/\Turns (bL b gb gw) w1 (w6.setCell ⟨gb,q*3+2,none⟩ (.int .i64 (-1)))):=hid (by
     have h1:=IK.out.Wv HQb.out (i:=2) aC (.int .i64 (-1)) {en with bN:= -1} (by rw[<-HEn.out];rfl)
     have e:Wk.dD (Wk.freed (Wk.arrive s q co) q i) i ⟨q,true,co,q,co⟩={(Wk.dD (Wk.arrive s q co) i ⟨q,true,co,q,co⟩) with book:=(Wk.dD (Wk.arrive s q co) i ⟨q,true,co,q,co⟩).book.set q {en with bN:= -1}}:=by
      unfold Wk.freed;rw[HEl.out,if_pos hle];rfl
     rw[e]
     exact⟨h1,HT6.out.setCell _ _ (.inr (.inl rfl))⟩)
    obtain⟨g0,g1,g2⟩:=IK.out.mU HQb.out;have f2:=bC.free IK.out.book (q*3+2);go_upto_region 8 with fail;generalize w6.setCell ⟨gb,q*3+2,none⟩ (.int .i64 (-1))=w7 at*;clear g0 g1 g2 f2;obtain⟨hp7,rI⟩:=HFr.out;have K7:=hid hp7;have HT7:=hid rI;clear hp7 rI HFr;exact ahu
   ·have hlb:(en.bN==(i:Int))=false:=by simpa using hle
    have e:Wk.freed (Wk.arrive s q co) q i=Wk.arrive s q co:=by unfold Wk.freed;rw[HEl.out,if_neg hle]
    have K7:Hid (bO b jb gb gw cb cw J B (Wk.dD (Wk.freed (Wk.arrive s q co) q i) i ⟨q,true,co,q,co⟩) w6):=hid (by rw[e];exact IK.out);have HT7:=HT6;clear e;obtain⟨w7,hw7⟩:=aV w6;rw[<-hw7] at K7 HT7 ⊢;clear hw7;go_upto_region 8 with fail;exact ahu
def Wk.oo(s:Wk.Pl)(i:Int)(k:Nat):Wk.Pl:={s with book:=(s.book.take k).map (Wk.gN i)++s.book.drop k}
theorem Wk.CX(s:Wk.Pl)(i:Int)(k:Nat)(hk:k<=s.book.length):(Wk.oo s i k).book.length=s.book.length:=by simp[Wk.oo];omega
theorem Wk.N9{s:Wk.Pl}{i:Int}{k:Nat}(hk:k<s.book.length):(Wk.oo s i k).book[k]'(by rw[Wk.CX s i k aC];exact hk)=s.book[k]:=by
 unfold Wk.oo;simp only;rw[XM mV,List.getElem_drop];exact getElem_congr rfl mV _
theorem Wk.Fq{s:Wk.Pl}{i:Int}{k:Nat}(hk:k<s.book.length):Wk.oo s i (k+1)={Wk.oo s i k with book:=(Wk.oo s i k).book.set k (Wk.gN i s.book[k])}:=by
 unfold Wk.oo;simp only[Wk.Pl.mk.injEq,and_self,and_true];rw[Gu hk,List.map_append,List.append_assoc,List.set_append_right _ _ mV];simp only[FD,OD,Nat.min_eq_left (Nat.le_of_lt hk),Nat.sub_self,List.map_cons,List.map_nil];rw[List.drop_eq_getElem_cons hk];rfl
theorem Wk.QI{s:Wk.Pl}{i:Int}{k:Nat}(hk:k<s.book.length)(h:s.book[k].bN≠i):Wk.oo s i (k+1)=Wk.oo s i k:=by
 rw[Wk.Fq hk];have e:Wk.gN i s.book[k]=s.book[k]:=by unfold Wk.gN;rw[if_neg h]
 rw[e];have:=Wk.N9 (i:=i) hk;unfold Wk.oo at this ⊢;simp only at this ⊢;congr 1;conv=>lhs;rw[<-this]
 rw[List.set_getElem_self]
theorem Wk.any_succ{s:Wk.Pl}{i:Int}{k:Nat}(hk:k<s.book.length):(s.book.take (k+1)).any (fun e=>decide (e.bN=i))=((s.book.take k).any (fun e=>decide (e.bN=i))||decide (s.book[k].bN=i)):=by
 rw[Gu hk,List.any_append];simp
theorem Mx{b jb gb gw cb cw:Nat}{J:Array Value}{B:Nat}{s:Wk.Pl}(i:Nat)(k t:Int)(w:World)(h:bO b jb gb gw cb cw J B s w)(hi:i<s.ws.length)(hn:s.book.length<=1000000):
  Calls Tryz.prog 35 #[.pointer (some ⟨b,0,none⟩),.pointer (some ⟨gw,i*5,none⟩),.agg #[.int .i64 (i:Int),.int .i64 k,.int .i64 t]] w fun e w'=>e=.returned (.int .i64 (Wk.eE s i t).2)/\bO b jb gb gw cb cw J B (Wk.eE s i t).1 w'/\Turns (bL b gb gw) w w':=by
 have II:=hid h.N8;have HP:=hid (fun X (hX:BL w X)=>h.below hX);have HI:=hid hi;have Xr:=hid h.ne;obtain⟨n,hn0⟩:=aV s.book.length;have HN:=hid hn0;obtain⟨m,hm0⟩:=aV s.ws.length;have HM:=hid hm0;have hi0:(0:Int)<=(i:Int):=by omega
 have hi1:(i:Int)<(m:Int):=by omega
 have AB:Hid (Wk.bU s (i:Int)=s.ws[i]'hi):=hid Oj;obtain⟨w1,hw1⟩:=aV (w.alloc (.cells #[.int .i64 (i:Int),.int .i64 k,.int .i64 t] 49));have bf:Hid (Below w.heap.size w w1):=hid ud
 have HE:Hid (∀X,BL w1 X->X.cell? ⟨w.heap.size,0,none⟩=some (.int .i64 (i:Int))/\X.cell? ⟨w.heap.size,1,none⟩=some (.int .i64 k)/\X.cell? ⟨w.heap.size,2,none⟩=some (.int .i64 t)):=hid (fun X hX=>by
  have h1:X.heap[w.heap.size]?=some (.cells #[.int .i64 (i:Int),.int .i64 k,.int .i64 t] 49 (0,0)):=(hX.block _ tr).trans uN;exact⟨aF h1 0,aF h1 1,aF h1 2⟩)
 have HW1:=hid hw1;have JD:=hid (fun X (hX:BL w X)=>(HP.out X hX).jK HI.out);obtain⟨ta,fi,co,lt,lc,hx⟩:∃ta fi co lt lc,s.ws[i]'hi=⟨ta,fi,co,lt,lc⟩:=⟨_,_,_,_,_,rfl⟩;have HX:Hid (s.ws[i]'HI.out=⟨ta,fi,co,lt,lc⟩):=hid hx;rw[hx] at AB
 have HC:Hid (∀X,BL w X->X.cell? ⟨gw,i*5,none⟩=some (.int .i64 ta)/\X.cell? ⟨gw,i*5+1,none⟩=some (.bool fi)/\X.cell? ⟨gw,i*5+2,none⟩=some (.int .i64 co)/\X.cell? ⟨gw,i*5+3,none⟩=some (.int .i64 lt)/\X.cell? ⟨gw,i*5+4,none⟩=some (.int .i64 lc)):=hid (fun X hX=>by
  have:=JD.out X hX;simp only[HX.out] at this;exact this)
 have zU:Hid (∀X,BL w X->Turns (bL b gb gw) w X):=hid (fun X hX=>Turns.aQ hX);clear hw1 hn0 hm0 hx JD h hi
 have HEv:Hid (∀X,Turns (bL b gb gw) w1 X->X.cell? ⟨w.heap.size,0,none⟩=some (.int .i64 (i:Int))/\X.cell? ⟨w.heap.size,2,none⟩=some (.int .i64 t)):=hid (fun X hX=>by
  have h1:w1.heap[w.heap.size]?=some (.cells #[.int .i64 (i:Int),.int .i64 k,.int .i64 t] 49 (0,0)):=by rw[HW1.out];exact JO ..
  have h2:=(hX.block w.heap.size (fun h=>by have:=II.out _ h;omega) (aj h1)).trans h1;exact⟨aF h2 0,aF h2 2⟩)
 have hn6:n<=1000000:=by rw[HN.out];exact hn
 clear hn;have hn7:(n:Int)<=1000000:=by omega
 go_enter Tryz.func35,Tryz.ntmps35;go_upto_region 1 with fail;rw[<-HW1.out];obtain⟨x0,x1,x2,x3,x4⟩:=HC.out w1 bf.out;obtain⟨y0,y1,y2,y3,y4⟩:=(HP.out w1 bf.out).eV;rw[<-HN.out] at y1;rw[<-HM.out] at y2
 have HP0:Hid (bO b jb gb gw cb cw J B (Wk.oo s i 0) w1):=hid (by
  have e:Wk.oo s i 0=s:=by unfold Wk.oo;simp
  rw[e];exact HP.out w1 bf.out)
 go_wp2;go_loopw [7,8,14] (fun so si ix wr=>∃(q:Nat) (sb:Bool),q<=n/\ix=.int .i64 (q:Int)/\so=.bool sb/\Hid (sb=(s.book.take q).any (fun e=>decide (e.bN=(i:Int))))/\Hid (bO b jb gb gw cb cw J B (Wk.oo s i q) wr)/\Hid (Turns (bL b gb gw) w1 wr)) (fun _ _ ix _=>n-(intOf ix).toNat);case atStart=>exact⟨0,false,Nat.zero_le _,rfl,rfl,hid aZ,HP0,hid (Turns.refl _ _)⟩
 case round=>
  clear x0 x1 x2 x3 x4 y0 y1 y2 y3 y4;obtain⟨q,sb,hq,rfl,rfl,ZG,Xt,Rz⟩:=hrel;by_cases hlt:q<n
  ·have Dk:(0:Int)<=(q:Int):=by omega
   have hq1:(q:Int)<(n:Int):=by omega
   have Jd:q<s.book.length:=by rw[<-HN.out];exact hlt
   have hqe:q<(Wk.oo s i q).book.length:=by rw[Wk.CX s i q aC];exact Jd
   have HQe:=hid hqe;have nF:Hid ((Wk.oo s i q).book[q]'HQe.out=s.book[q]):=hid (Wk.N9 Jd);have HSu:=hid (Wk.Fq (i:=(i:Int)) Jd);have HKe:=hid (Wk.QI (i:=(i:Int)) Jd);have HAn:=hid (Wk.any_succ (i:=(i:Int)) Jd);obtain⟨g0,g1,g2⟩:=Xt.out.mU HQe.out;rw[nF.out] at g0 g1 g2;have mZ:Hid ((Wk.oo s i q).book.length=n):=hid (by rw[Wk.CX s i q aC,HN.out]);obtain⟨y0,y1, -⟩:=Xt.out.eV;rw[mZ.out] at y1;obtain⟨e0,e2⟩:=HEv.out wr Rz.out;obtain⟨le,hle0⟩:=aV (s.book[q].bN);rw[<-hle0] at g2;have My:=hid hle0;have Rt:=hid (fun m=>aG (Below.refl wr.heap.size wr) m);clear hqe hle0;go_wp2;go_quiet (fail);generalize hq5:wr.drewN _=w5;have fF:Hid (BL wr w5):=hid (hq5▸Rt.out _);clear hq5 Rt g0 g1 g2 y0 y1 e0 e2;have Nw:=hid (Xt.out.below fF.out);have WV:Hid (Turns (bL b gb gw) w1 w5):=hid (Rz.out.trans (Turns.aQ fF.out));by_cases hle:le=(i:Int)
   ·have hlb:(le==(i:Int))=true:=by simpa using hle
    obtain⟨y0,y1, -⟩:=Nw.out.eV;rw[mZ.out] at y1;obtain⟨g0,g1,g2⟩:=Nw.out.mU HQe.out;have f2:=bC.free Nw.out.book (q*3+2)
    have yV:Hid (bO b jb gb gw cb cw J B (Wk.oo s i (q+1)) (w5.setCell ⟨gb,q*3+2,none⟩ (.int .i64 (-1)))/\Turns (bL b gb gw) w1 (w5.setCell ⟨gb,q*3+2,none⟩ (.int .i64 (-1)))):=hid (by
     have e:Wk.gN i s.book[q]={s.book[q] with bN:= -1}:=by unfold Wk.gN;rw[if_pos (by rw[<-My.out];exact hle)]
     have h1:=Nw.out.Wv HQe.out (i:=2) aC (.int .i64 (-1)) {s.book[q] with bN:= -1} (by rw[nF.out];rfl)
     rw[HSu.out,e]
     exact⟨h1,WV.out.setCell _ _ (.inr (.inl rfl))⟩)
    have aew:Hid (true=(s.book.take (q+1)).any (fun e=>decide (e.bN=(i:Int)))):=hid (by rw[HAn.out,<-My.out,decide_eq_true hle,Bool.or_true]);have IK:=hid yV.out.1;have HT6:=hid yV.out.2;clear yV;go_wp2;go_roundw;case rel=>exact⟨q+1,true,by omega,by go_num,rfl,aew,IK,HT6⟩
    simp[intOf];omega
   ·have hlb:(le==(i:Int))=false:=by simpa using hle
    have aew:Hid (sb=(s.book.take (q+1)).any (fun e=>decide (e.bN=(i:Int)))):=hid (by rw[HAn.out,<-My.out,decide_eq_false hle,Bool.or_false];exact ZG.out);have IK:Hid (bO b jb gb gw cb cw J B (Wk.oo s i (q+1)) w5):=hid (by rw[HKe.out (by rw[<-My.out];exact hle)];exact Nw.out);go_wp2;go_roundw;case rel=>exact⟨q+1,sb,by omega,by go_num,rfl,aew,IK,WV⟩
    simp[intOf];omega
  ·obtain rfl:q=n:=by omega
   have Av:Hid (s.book.take q=s.book):=hid (zTl XG);have HEx:Hid (Wk.oo s i q={s with book:=s.book.map (Wk.gN i)}):=hid (by unfold Wk.oo;rw[Av.out,List.drop_of_length_le XG,List.append_nil]);rw[Av.out] at ZG;have HT0:Hid (Turns (bL b gb gw) w wr):=hid ((zU.out w1 bf.out).trans Rz.out);cases sb
   ·have HA:Hid (Wk.eE s i t=(s,8)):=hid (by unfold Wk.eE;rw[if_pos ZG.out.symm])
    have HS:Hid (bO b jb gb gw cb cw J B s wr):=hid (by
     have e:s.book.map (Wk.gN i)=s.book:=by
      conv=>rhs;rw[<-List.map_id s.book]
      refine List.map_congr_left fun e he=>?_;have:=(List.any_eq_false.1 ZG.out.symm) e he;unfold Wk.gN;rw[if_neg (by simpa using this)];rfl
     have:=Xt.out
     rw[HEx.out,e] at this
     exact this)
    go_wp2;go_ret;rw[HA.out];exact⟨rfl,HS.out,HT0.out⟩
   ·have aex:=hid ZG.out.symm
    have GJ:Hid (bO b jb gb gw cb cw J B {s with book:=s.book.map (Wk.gN i)} wr):=hid (by rw[<-HEx.out];exact Xt.out);obtain⟨e0,e2⟩:=HEv.out wr Rz.out;by_cases ht0:t=0
    ·have htb:(t==0)=true:=by simpa using ht0
     have hib:i<({s with book:=s.book.map (Wk.gN i)}:Wk.Pl).ws.length:=HI.out;have hsx:({s with book:=s.book.map (Wk.gN i)}:Wk.Pl).ws[i]'hib=⟨ta,fi,co,lt,lc⟩:=HX.out;obtain⟨x0,x1, -⟩:=GJ.out.jK hib;have f0:=bC.free GJ.out.lC (i*5);have f1:=bC.free GJ.out.lC (i*5+1);have hnn:i*5≠i*5+1:=by omega
     have HZ:Hid (bO b jb gb gw cb cw J B (Wk.eE s i t).1 ((wr.setCell ⟨gw,i*5,none⟩ (.int .i64 (-1))).setCell ⟨gw,i*5+1,none⟩ (.bool false))/\Turns (bL b gb gw) w ((wr.setCell ⟨gw,i*5,none⟩ (.int .i64 (-1))).setCell ⟨gw,i*5+1,none⟩ (.bool false))):=hid (by
      have h0:=GJ.out.vC hib (i:=0) aC (.int .i64 (-1)) ⟨-1,fi,co,lt,lc⟩ (by rw[hsx];rfl)
      have h1:=h0.vC (k:=i) (i:=1) (by simpa using hib) aC (.bool false) ⟨-1,false,co,lt,lc⟩ Fy
      have e:(Wk.eE s i t).1={s with book:=s.book.map (Wk.gN i),ws:=s.ws.set i ⟨-1,false,co,lt,lc⟩}:=by
       unfold Wk.eE;rw[if_neg (by rw[aex.out];simp),if_pos ht0,AB.out];rfl
      rw[e]
      refine⟨?_,(HT0.out.setCell _ _ (.inr (.inr rfl))).setCell _ _ (.inr (.inr rfl))⟩
      simpa [List.set_set] using h1)
     have uG:Hid ((Wk.eE s i t).2=0):=hid (by unfold Wk.eE;rw[if_neg (by rw[aex.out];simp)]);rw[hsx] at x0 x1;simp only at x0 x1;clear hib hsx;subst ht0;go_wp2;go_ret;exact⟨by rw[uG.out];rfl,HZ.out⟩
    ·have htb:(t==0)=false:=by simpa using ht0
     have HA:Hid (Wk.eE s i t=({s with book:=s.book.map (Wk.gN i)},0)):=hid (by unfold Wk.eE;rw[if_neg (by rw[aex.out];simp),if_neg ht0]);go_wp2;go_ret;rw[HA.out];exact⟨rfl,GJ.out,HT0.out⟩
theorem Wk.QJ{s:Wk.Pl}{i k t:Int}(h:Wk.vH s i k t):k<0\/(0<=k/\6<=k)\/(0<=k/\k<6/\i<0)\/(0<=k/\k<6/\0<=i/\(s.ws.length:Int)<=i)\/(k=5/\0<=i/\i<s.ws.length/\t<0)\/(k=5/\0<=i/\i<s.ws.length/\0<=t/\1000<t):=by
 unfold Wk.vH at h;omega
theorem Fs{p:Prop}(h:p:=by
  go_quiet (fail)
  go_wp2
  go_ret
  exact⟨rfl,iK.out _⟩):p:=h
theorem Wz{b jb gb gw cb cw:Nat}{J:Array Value}{B:Nat}{s:Wk.Pl}(i k t:Int)(w:World)(h:bO b jb gb gw cb cw J B s w)(hb:Wk.vH s i k t):
  Calls Tryz.prog 12 #[.pointer (some ⟨b,0,none⟩),.agg #[.int .i64 i,.int .i64 k,.int .i64 t]] w fun e w'=>e=.returned (.int .i64 1)/\BL w w':=by
 have HP:=hid (fun X (hX:BL w X)=>h.below hX);obtain⟨m,hm0⟩:=aV s.ws.length;have HM:=hid hm0;have hp:=Wk.QJ hb;rw[<-hm0] at hp;obtain⟨w1,hw1⟩:=aV (w.alloc (.cells #[.int .i64 i,.int .i64 k,.int .i64 t] 49));have bf:Hid (Below w.heap.size w w1):=hid ud
 have HE:Hid (∀X,BL w1 X->X.cell? ⟨w.heap.size,0,none⟩=some (.int .i64 i)/\X.cell? ⟨w.heap.size,1,none⟩=some (.int .i64 k)/\X.cell? ⟨w.heap.size,2,none⟩=some (.int .i64 t)):=hid (fun X hX=>by
  have h1:X.heap[w.heap.size]?=some (.cells #[.int .i64 i,.int .i64 k,.int .i64 t] 49 (0,0)):=(hX.block _ tr).trans uN;exact⟨aF h1 0,aF h1 1,aF h1 2⟩)
 have HW1:=hid hw1;have iK:=hid (fun n=>aG bf.out n);clear hw1 hm0 h hb;go_enter Tryz.func12,Tryz.ntmps12;go_upto_region 1 with fail;rw[<-HW1.out];obtain⟨e0,e1,e2⟩:=HE.out w1 ay;obtain⟨y0,y1,y2,y3,y4⟩:=(HP.out w1 bf.out).eV;rw[<-HM.out] at y2;rcases hp with h1|⟨h0,h1⟩|⟨h0,h1,h2⟩|⟨h0,h1,h2,h3⟩|⟨h1,h2,h3,h4⟩|⟨h1,h2,h3,h4,h5⟩
 ·exact Fs
 ·have h2:¬k<0:=by omega
  exact Fs
 ·have h3:¬k<0:=by omega
  have h4:¬6<=k:=by omega
  exact Fs
 ·have h4:¬k<0:=by omega
  have h5:¬6<=k:=by omega
  have h6:¬i<0:=by omega
  exact Fs
 ·subst h1
  have h6:¬i<0:=by omega
  have h7:¬(m:Int)<=i:=by have:=HM.out;omega
  exact Fs
 ·subst h1
  have h6:¬i<0:=by omega
  have h7:¬(m:Int)<=i:=by have:=HM.out;omega
  have h8:¬t<0:=by omega
  exact Fs
theorem QK{p:Prop}(h:p:=by
  have HW3:=hid hw3
  clear hw3
  go_upto_region 4 with fail
  rw[<-HW3.out]
  have hf:=HF.out
  obtain⟨e0,e1,e2⟩:=HE.out w3 QL.out
  obtain⟨y0,y1,y2,y3,y4⟩:=(HP.out w3 bZ.out).eV
  rw[<-HM.out] at y2
  have iK:=hid (fun n=>aG bZ.out n)
  refine gH 13 lN (by kernel_rfl) ?_
  simp only[List.take_succ_cons,List.take_zero,iW,iX]
  repeat (go_big_quiet_step (fail))
  refine fS ?_
  go_wp2_with fail
  refine(QM.out _ (iK.out _)).mono ?_
  rintro e w5 ⟨r,rfl,hr⟩
  have HR:=hid hr
  clear hr
  go_wp2
  go_ret
  exact⟨r,_,iK.out _,rfl,HR.out⟩):p:=h
theorem step_take{b jb gb gw cb cw:Nat}{J:Array Value}{B:Nat}{s:Wk.Pl}(i:Nat)(t:Int)(w:World)(h:bO b jb gb gw cb cw J B s w)(hi:i<s.ws.length)(xQ:s.ws.length<=1000000)(R:Int->World->World->Prop)
  (hact:∀X,BL w X->CP 30 #[.pointer (some ⟨b,0,none⟩),.pointer (some ⟨gw,i*5,none⟩),.agg #[.int .i64 (i:Int),.int .i64 0,.int .i64 t]] X fun e w'=>∃r,e=.returned (.int .i64 r)/\R r X w'):
  Calls Tryz.prog 12 #[.pointer (some ⟨b,0,none⟩),.agg #[.int .i64 (i:Int),.int .i64 0,.int .i64 t]] w fun e w'=>∃r X,BL w X/\e=.returned (.int .i64 r)/\R r X w':=by
 have HP:=hid (fun X (hX:BL w X)=>h.below hX);have QM:=hid hact;obtain⟨m,hm0⟩:=aV s.ws.length;have HM:=hid hm0;have hi0:(0:Int)<=(i:Int):=by omega
 have hi1:(i:Int)<(m:Int):=by omega
 have hi2:¬(i:Int)<0:=by omega
 have hi3:¬(m:Int)<=(i:Int):=by omega
 obtain⟨w1,hw1⟩:=aV (w.alloc (.cells #[.int .i64 (i:Int),.int .i64 0,.int .i64 t] 49));have bf:Hid (Below w.heap.size w w1):=hid ud
 have HE:Hid (∀X,BL w1 X->X.cell? ⟨w.heap.size,0,none⟩=some (.int .i64 (i:Int))/\X.cell? ⟨w.heap.size,1,none⟩=some (.int .i64 0)/\X.cell? ⟨w.heap.size,2,none⟩=some (.int .i64 t)):=hid (fun X hX=>by
  have h1:X.heap[w.heap.size]?=some (.cells #[.int .i64 (i:Int),.int .i64 0,.int .i64 t] 49 (0,0)):=(hX.block _ tr).trans uN;exact⟨aF h1 0,aF h1 1,aF h1 2⟩)
 have HW1:=hid hw1;have iK:=hid (fun n=>aG (Below.refl w1.heap.size w1) n);have hcf:=jl Tryz.func30 (by kernel_rfl) rfl;clear hw1 hm0 h hi hact;go_enter Tryz.func12,Tryz.ntmps12;go_upto_region 1 with fail;rw[<-HW1.out];obtain⟨e0,e1,e2⟩:=HE.out w1 ay;obtain⟨y0,y1,y2,y3,y4⟩:=(HP.out w1 bf.out).eV;rw[<-HM.out] at y2;go_quiet (fail);generalize hq:w1.drewN _=w2;have xU:Hid (BL w1 w2):=hid (hq▸iK.out _);have bK:=aJ bf xU.out;clear hq iK y0 y1 y2 y3 y4 e0 e1 e2;obtain⟨w3,hw3⟩:=aV (w2.alloc (.cells #[.func (.func 30) #[] #[],.func (.func 31) #[] #[],.func (.func 32) #[] #[],.func (.func 33) #[] #[],.func (.func 34) #[] #[],.func (.func 35) #[] #[]] 105));have bZ:Hid (Below w.heap.size w w3):=hid QZ;have QL:Hid (Below w1.heap.size w1 w3):=hid Om
 have HF:Hid (w3.cell? ⟨w2.heap.size,0,none⟩=some (.func (.func 30) #[] #[])):=hid (by
  have h1:w3.heap[w2.heap.size]?=some (.cells #[.func (.func 30) #[] #[],.func (.func 31) #[] #[],.func (.func 32) #[] #[],.func (.func 33) #[] #[],.func (.func 34) #[] #[],.func (.func 35) #[] #[]] 105 (0,0)):=by rw[hw3];exact JO ..
  exact aF h1 0)
 exact QK
theorem JH{b jb gb gw cb cw:Nat}{J:Array Value}{B:Nat}{s:Wk.Pl}(i:Nat)(t:Int)(w:World)(h:bO b jb gb gw cb cw J B s w)(hi:i<s.ws.length)(xQ:s.ws.length<=1000000)(R:Int->World->World->Prop)
  (hact:∀X,BL w X->CP 31 #[.pointer (some ⟨b,0,none⟩),.pointer (some ⟨gw,i*5,none⟩),.agg #[.int .i64 (i:Int),.int .i64 1,.int .i64 t]] X fun e w'=>∃r,e=.returned (.int .i64 r)/\R r X w'):
  Calls Tryz.prog 12 #[.pointer (some ⟨b,0,none⟩),.agg #[.int .i64 (i:Int),.int .i64 1,.int .i64 t]] w fun e w'=>∃r X,BL w X/\e=.returned (.int .i64 r)/\R r X w':=by
 have HP:=hid (fun X (hX:BL w X)=>h.below hX);have QM:=hid hact;obtain⟨m,hm0⟩:=aV s.ws.length;have HM:=hid hm0;have hi0:(0:Int)<=(i:Int):=by omega
 have hi1:(i:Int)<(m:Int):=by omega
 have hi2:¬(i:Int)<0:=by omega
 have hi3:¬(m:Int)<=(i:Int):=by omega
 obtain⟨w1,hw1⟩:=aV (w.alloc (.cells #[.int .i64 (i:Int),.int .i64 1,.int .i64 t] 49));have bf:Hid (Below w.heap.size w w1):=hid ud
 have HE:Hid (∀X,BL w1 X->X.cell? ⟨w.heap.size,0,none⟩=some (.int .i64 (i:Int))/\X.cell? ⟨w.heap.size,1,none⟩=some (.int .i64 1)/\X.cell? ⟨w.heap.size,2,none⟩=some (.int .i64 t)):=hid (fun X hX=>by
  have h1:X.heap[w.heap.size]?=some (.cells #[.int .i64 (i:Int),.int .i64 1,.int .i64 t] 49 (0,0)):=(hX.block _ tr).trans uN;exact⟨aF h1 0,aF h1 1,aF h1 2⟩)
 have HW1:=hid hw1;have iK:=hid (fun n=>aG (Below.refl w1.heap.size w1) n);have hcf:=jl Tryz.func31 (by kernel_rfl) rfl;clear hw1 hm0 h hi hact;go_enter Tryz.func12,Tryz.ntmps12;go_upto_region 1 with fail;rw[<-HW1.out];obtain⟨e0,e1,e2⟩:=HE.out w1 ay;obtain⟨y0,y1,y2,y3,y4⟩:=(HP.out w1 bf.out).eV;rw[<-HM.out] at y2;go_quiet (fail);generalize hq:w1.drewN _=w2;have xU:Hid (BL w1 w2):=hid (hq▸iK.out _);have bK:=aJ bf xU.out;clear hq iK y0 y1 y2 y3 y4 e0 e1 e2;obtain⟨w3,hw3⟩:=aV (w2.alloc (.cells #[.func (.func 30) #[] #[],.func (.func 31) #[] #[],.func (.func 32) #[] #[],.func (.func 33) #[] #[],.func (.func 34) #[] #[],.func (.func 35) #[] #[]] 105));have bZ:Hid (Below w.heap.size w w3):=hid QZ;have QL:Hid (Below w1.heap.size w1 w3):=hid Om
 have HF:Hid (w3.cell? ⟨w2.heap.size,1,none⟩=some (.func (.func 31) #[] #[])):=hid (by
  have h1:w3.heap[w2.heap.size]?=some (.cells #[.func (.func 30) #[] #[],.func (.func 31) #[] #[],.func (.func 32) #[] #[],.func (.func 33) #[] #[],.func (.func 34) #[] #[],.func (.func 35) #[] #[]] 105 (0,0)):=by rw[hw3];exact JO ..
  exact aF h1 1)
 exact QK
theorem QO{b jb gb gw cb cw:Nat}{J:Array Value}{B:Nat}{s:Wk.Pl}(i:Nat)(t:Int)(w:World)(h:bO b jb gb gw cb cw J B s w)(hi:i<s.ws.length)(xQ:s.ws.length<=1000000)(R:Int->World->World->Prop)
  (hact:∀X,BL w X->CP 32 #[.pointer (some ⟨b,0,none⟩),.pointer (some ⟨gw,i*5,none⟩),.agg #[.int .i64 (i:Int),.int .i64 2,.int .i64 t]] X fun e w'=>∃r,e=.returned (.int .i64 r)/\R r X w'):
  Calls Tryz.prog 12 #[.pointer (some ⟨b,0,none⟩),.agg #[.int .i64 (i:Int),.int .i64 2,.int .i64 t]] w fun e w'=>∃r X,BL w X/\e=.returned (.int .i64 r)/\R r X w':=by
 have HP:=hid (fun X (hX:BL w X)=>h.below hX);have QM:=hid hact;obtain⟨m,hm0⟩:=aV s.ws.length;have HM:=hid hm0;have hi0:(0:Int)<=(i:Int):=by omega
 have hi1:(i:Int)<(m:Int):=by omega
 have hi2:¬(i:Int)<0:=by omega
 have hi3:¬(m:Int)<=(i:Int):=by omega
 obtain⟨w1,hw1⟩:=aV (w.alloc (.cells #[.int .i64 (i:Int),.int .i64 2,.int .i64 t] 49));have bf:Hid (Below w.heap.size w w1):=hid ud
 have HE:Hid (∀X,BL w1 X->X.cell? ⟨w.heap.size,0,none⟩=some (.int .i64 (i:Int))/\X.cell? ⟨w.heap.size,1,none⟩=some (.int .i64 2)/\X.cell? ⟨w.heap.size,2,none⟩=some (.int .i64 t)):=hid (fun X hX=>by
  have h1:X.heap[w.heap.size]?=some (.cells #[.int .i64 (i:Int),.int .i64 2,.int .i64 t] 49 (0,0)):=(hX.block _ tr).trans uN;exact⟨aF h1 0,aF h1 1,aF h1 2⟩)
 have HW1:=hid hw1;have iK:=hid (fun n=>aG (Below.refl w1.heap.size w1) n);have hcf:=jl Tryz.func32 (by kernel_rfl) rfl;clear hw1 hm0 h hi hact;go_enter Tryz.func12,Tryz.ntmps12;go_upto_region 1 with fail;rw[<-HW1.out];obtain⟨e0,e1,e2⟩:=HE.out w1 ay;obtain⟨y0,y1,y2,y3,y4⟩:=(HP.out w1 bf.out).eV;rw[<-HM.out] at y2;go_quiet (fail);generalize hq:w1.drewN _=w2;have xU:Hid (BL w1 w2):=hid (hq▸iK.out _);have bK:=aJ bf xU.out;clear hq iK y0 y1 y2 y3 y4 e0 e1 e2;obtain⟨w3,hw3⟩:=aV (w2.alloc (.cells #[.func (.func 30) #[] #[],.func (.func 31) #[] #[],.func (.func 32) #[] #[],.func (.func 33) #[] #[],.func (.func 34) #[] #[],.func (.func 35) #[] #[]] 105));have bZ:Hid (Below w.heap.size w w3):=hid QZ;have QL:Hid (Below w1.heap.size w1 w3):=hid Om
 have HF:Hid (w3.cell? ⟨w2.heap.size,2,none⟩=some (.func (.func 32) #[] #[])):=hid (by
  have h1:w3.heap[w2.heap.size]?=some (.cells #[.func (.func 30) #[] #[],.func (.func 31) #[] #[],.func (.func 32) #[] #[],.func (.func 33) #[] #[],.func (.func 34) #[] #[],.func (.func 35) #[] #[]] 105 (0,0)):=by rw[hw3];exact JO ..
  exact aF h1 2)
 exact QK
theorem Mz{b jb gb gw cb cw:Nat}{J:Array Value}{B:Nat}{s:Wk.Pl}(i:Nat)(t:Int)(w:World)(h:bO b jb gb gw cb cw J B s w)(hi:i<s.ws.length)(xQ:s.ws.length<=1000000)(R:Int->World->World->Prop)
  (hact:∀X,BL w X->CP 33 #[.pointer (some ⟨b,0,none⟩),.pointer (some ⟨gw,i*5,none⟩),.agg #[.int .i64 (i:Int),.int .i64 3,.int .i64 t]] X fun e w'=>∃r,e=.returned (.int .i64 r)/\R r X w'):
  Calls Tryz.prog 12 #[.pointer (some ⟨b,0,none⟩),.agg #[.int .i64 (i:Int),.int .i64 3,.int .i64 t]] w fun e w'=>∃r X,BL w X/\e=.returned (.int .i64 r)/\R r X w':=by
 have HP:=hid (fun X (hX:BL w X)=>h.below hX);have QM:=hid hact;obtain⟨m,hm0⟩:=aV s.ws.length;have HM:=hid hm0;have hi0:(0:Int)<=(i:Int):=by omega
 have hi1:(i:Int)<(m:Int):=by omega
 have hi2:¬(i:Int)<0:=by omega
 have hi3:¬(m:Int)<=(i:Int):=by omega
 obtain⟨w1,hw1⟩:=aV (w.alloc (.cells #[.int .i64 (i:Int),.int .i64 3,.int .i64 t] 49));have bf:Hid (Below w.heap.size w w1):=hid ud
 have HE:Hid (∀X,BL w1 X->X.cell? ⟨w.heap.size,0,none⟩=some (.int .i64 (i:Int))/\X.cell? ⟨w.heap.size,1,none⟩=some (.int .i64 3)/\X.cell? ⟨w.heap.size,2,none⟩=some (.int .i64 t)):=hid (fun X hX=>by
  have h1:X.heap[w.heap.size]?=some (.cells #[.int .i64 (i:Int),.int .i64 3,.int .i64 t] 49 (0,0)):=(hX.block _ tr).trans uN;exact⟨aF h1 0,aF h1 1,aF h1 2⟩)
 have HW1:=hid hw1;have iK:=hid (fun n=>aG (Below.refl w1.heap.size w1) n);have hcf:=jl Tryz.func33 (by kernel_rfl) rfl;clear hw1 hm0 h hi hact;go_enter Tryz.func12,Tryz.ntmps12;go_upto_region 1 with fail;rw[<-HW1.out];obtain⟨e0,e1,e2⟩:=HE.out w1 ay;obtain⟨y0,y1,y2,y3,y4⟩:=(HP.out w1 bf.out).eV;rw[<-HM.out] at y2;go_quiet (fail);generalize hq:w1.drewN _=w2;have xU:Hid (BL w1 w2):=hid (hq▸iK.out _);have bK:=aJ bf xU.out;clear hq iK y0 y1 y2 y3 y4 e0 e1 e2;obtain⟨w3,hw3⟩:=aV (w2.alloc (.cells #[.func (.func 30) #[] #[],.func (.func 31) #[] #[],.func (.func 32) #[] #[],.func (.func 33) #[] #[],.func (.func 34) #[] #[],.func (.func 35) #[] #[]] 105));have bZ:Hid (Below w.heap.size w w3):=hid QZ;have QL:Hid (Below w1.heap.size w1 w3):=hid Om
 have HF:Hid (w3.cell? ⟨w2.heap.size,3,none⟩=some (.func (.func 33) #[] #[])):=hid (by
  have h1:w3.heap[w2.heap.size]?=some (.cells #[.func (.func 30) #[] #[],.func (.func 31) #[] #[],.func (.func 32) #[] #[],.func (.func 33) #[] #[],.func (.func 34) #[] #[],.func (.func 35) #[] #[]] 105 (0,0)):=by rw[hw3];exact JO ..
  exact aF h1 3)
 exact QK
theorem MB{b jb gb gw cb cw:Nat}{J:Array Value}{B:Nat}{s:Wk.Pl}(i:Nat)(t:Int)(w:World)(h:bO b jb gb gw cb cw J B s w)(hi:i<s.ws.length)(xQ:s.ws.length<=1000000)(R:Int->World->World->Prop)
  (hact:∀X,BL w X->CP 34 #[.pointer (some ⟨b,0,none⟩),.pointer (some ⟨gw,i*5,none⟩),.agg #[.int .i64 (i:Int),.int .i64 4,.int .i64 t]] X fun e w'=>∃r,e=.returned (.int .i64 r)/\R r X w'):
  Calls Tryz.prog 12 #[.pointer (some ⟨b,0,none⟩),.agg #[.int .i64 (i:Int),.int .i64 4,.int .i64 t]] w fun e w'=>∃r X,BL w X/\e=.returned (.int .i64 r)/\R r X w':=by
 have HP:=hid (fun X (hX:BL w X)=>h.below hX);have QM:=hid hact;obtain⟨m,hm0⟩:=aV s.ws.length;have HM:=hid hm0;have hi0:(0:Int)<=(i:Int):=by omega
 have hi1:(i:Int)<(m:Int):=by omega
 have hi2:¬(i:Int)<0:=by omega
 have hi3:¬(m:Int)<=(i:Int):=by omega
 obtain⟨w1,hw1⟩:=aV (w.alloc (.cells #[.int .i64 (i:Int),.int .i64 4,.int .i64 t] 49));have bf:Hid (Below w.heap.size w w1):=hid ud
 have HE:Hid (∀X,BL w1 X->X.cell? ⟨w.heap.size,0,none⟩=some (.int .i64 (i:Int))/\X.cell? ⟨w.heap.size,1,none⟩=some (.int .i64 4)/\X.cell? ⟨w.heap.size,2,none⟩=some (.int .i64 t)):=hid (fun X hX=>by
  have h1:X.heap[w.heap.size]?=some (.cells #[.int .i64 (i:Int),.int .i64 4,.int .i64 t] 49 (0,0)):=(hX.block _ tr).trans uN;exact⟨aF h1 0,aF h1 1,aF h1 2⟩)
 have HW1:=hid hw1;have iK:=hid (fun n=>aG (Below.refl w1.heap.size w1) n);have hcf:=jl Tryz.func34 (by kernel_rfl) rfl;clear hw1 hm0 h hi hact;go_enter Tryz.func12,Tryz.ntmps12;go_upto_region 1 with fail;rw[<-HW1.out];obtain⟨e0,e1,e2⟩:=HE.out w1 ay;obtain⟨y0,y1,y2,y3,y4⟩:=(HP.out w1 bf.out).eV;rw[<-HM.out] at y2;go_quiet (fail);generalize hq:w1.drewN _=w2;have xU:Hid (BL w1 w2):=hid (hq▸iK.out _);have bK:=aJ bf xU.out;clear hq iK y0 y1 y2 y3 y4 e0 e1 e2;obtain⟨w3,hw3⟩:=aV (w2.alloc (.cells #[.func (.func 30) #[] #[],.func (.func 31) #[] #[],.func (.func 32) #[] #[],.func (.func 33) #[] #[],.func (.func 34) #[] #[],.func (.func 35) #[] #[]] 105));have bZ:Hid (Below w.heap.size w w3):=hid QZ;have QL:Hid (Below w1.heap.size w1 w3):=hid Om
 have HF:Hid (w3.cell? ⟨w2.heap.size,4,none⟩=some (.func (.func 34) #[] #[])):=hid (by
  have h1:w3.heap[w2.heap.size]?=some (.cells #[.func (.func 30) #[] #[],.func (.func 31) #[] #[],.func (.func 32) #[] #[],.func (.func 33) #[] #[],.func (.func 34) #[] #[],.func (.func 35) #[] #[]] 105 (0,0)):=by rw[hw3];exact JO ..
  exact aF h1 4)
 exact QK
theorem JI{b jb gb gw cb cw:Nat}{J:Array Value}{B:Nat}{s:Wk.Pl}(i:Nat)(t:Int)(w:World)(h:bO b jb gb gw cb cw J B s w)(hi:i<s.ws.length)(xQ:s.ws.length<=1000000)(ht:0<=t/\t<=1000)(R:Int->World->World->Prop)
  (hact:∀X,BL w X->CP 35 #[.pointer (some ⟨b,0,none⟩),.pointer (some ⟨gw,i*5,none⟩),.agg #[.int .i64 (i:Int),.int .i64 5,.int .i64 t]] X fun e w'=>∃r,e=.returned (.int .i64 r)/\R r X w'):
  Calls Tryz.prog 12 #[.pointer (some ⟨b,0,none⟩),.agg #[.int .i64 (i:Int),.int .i64 5,.int .i64 t]] w fun e w'=>∃r X,BL w X/\e=.returned (.int .i64 r)/\R r X w':=by
 have HP:=hid (fun X (hX:BL w X)=>h.below hX);have QM:=hid hact;obtain⟨m,hm0⟩:=aV s.ws.length;have HM:=hid hm0;have hi0:(0:Int)<=(i:Int):=by omega
 have hi1:(i:Int)<(m:Int):=by omega
 have hi2:¬(i:Int)<0:=by omega
 have hi3:¬(m:Int)<=(i:Int):=by omega
 obtain⟨w1,hw1⟩:=aV (w.alloc (.cells #[.int .i64 (i:Int),.int .i64 5,.int .i64 t] 49));have bf:Hid (Below w.heap.size w w1):=hid ud
 have HE:Hid (∀X,BL w1 X->X.cell? ⟨w.heap.size,0,none⟩=some (.int .i64 (i:Int))/\X.cell? ⟨w.heap.size,1,none⟩=some (.int .i64 5)/\X.cell? ⟨w.heap.size,2,none⟩=some (.int .i64 t)):=hid (fun X hX=>by
  have h1:X.heap[w.heap.size]?=some (.cells #[.int .i64 (i:Int),.int .i64 5,.int .i64 t] 49 (0,0)):=(hX.block _ tr).trans uN;exact⟨aF h1 0,aF h1 1,aF h1 2⟩)
 have HW1:=hid hw1;have iK:=hid (fun n=>aG (Below.refl w1.heap.size w1) n);have hcf:=jl Tryz.func35 (by kernel_rfl) rfl;clear hw1 hm0 h hi hact;go_enter Tryz.func12,Tryz.ntmps12;go_upto_region 1 with fail;rw[<-HW1.out];obtain⟨e0,e1,e2⟩:=HE.out w1 ay;obtain⟨y0,y1,y2,y3,y4⟩:=(HP.out w1 bf.out).eV;rw[<-HM.out] at y2;go_quiet (fail);generalize hq:w1.drewN _=w2;have xU:Hid (BL w1 w2):=hid (hq▸iK.out _);have bK:=aJ bf xU.out;clear hq iK y0 y1 y2 y3 y4 e0 e1 e2;obtain⟨w3,hw3⟩:=aV (w2.alloc (.cells #[.func (.func 30) #[] #[],.func (.func 31) #[] #[],.func (.func 32) #[] #[],.func (.func 33) #[] #[],.func (.func 34) #[] #[],.func (.func 35) #[] #[]] 105));have bZ:Hid (Below w.heap.size w w3):=hid QZ;have QL:Hid (Below w1.heap.size w1 w3):=hid Om
 have HF:Hid (w3.cell? ⟨w2.heap.size,5,none⟩=some (.func (.func 35) #[] #[])):=hid (by
  have h1:w3.heap[w2.heap.size]?=some (.cells #[.func (.func 30) #[] #[],.func (.func 31) #[] #[],.func (.func 32) #[] #[],.func (.func 33) #[] #[],.func (.func 34) #[] #[],.func (.func 35) #[] #[]] 105 (0,0)):=by rw[hw3];exact JO ..
  exact aF h1 5)
 exact QK
theorem MC{b jb gb gw cb cw:Nat}{J:Array Value}{B:Nat}{s:Wk.Pl}(i:Nat)(k t:Int)(w:World)(h:bO b jb gb gw cb cw J B s w)(hi:i<s.ws.length)(f:Int->Int)(hr:0<=s.runs/\s.runs<=1000000)(JE: -1<=s.ws[i].task/\s.ws[i].task<s.book.length)
  (hrun:∀X,BL w X->∀q:Nat,q<s.book.length->CB 60 #[.pointer (some ⟨jb,0,none⟩),.int .i64 (q:Int)] X (.int .i64 (f (q:Int)))):
  Calls Tryz.prog 31 #[.pointer (some ⟨b,0,none⟩),.pointer (some ⟨gw,i*5,none⟩),.agg #[.int .i64 (i:Int),.int .i64 k,.int .i64 t]] w fun e w'=>e=.returned (.int .i64 (Wk.gV f s i).2)/\bO b jb gb gw cb cw J B (Wk.gV f s i).1 w'/\Turns (bL b gb gw) w w':=by
 have HL:=hid JE;have HP:=hid (fun X (hX:BL w X)=>h.below hX);have HI:=hid hi;have Xr:=hid h.ne;obtain⟨n,hn0⟩:=aV s.book.length;have HN:=hid hn0;obtain⟨m,hm0⟩:=aV s.ws.length;have HM:=hid hm0;have hi0:(0:Int)<=(i:Int):=by omega
 have hi1:(i:Int)<(m:Int):=by omega
 have AB:Hid (Wk.bU s (i:Int)=s.ws[i]'hi):=hid Oj;obtain⟨w1,hw1⟩:=aV (w.alloc (.cells #[.int .i64 (i:Int),.int .i64 k,.int .i64 t] 49));have bf:Hid (Below w.heap.size w w1):=hid ud
 have HE:Hid (∀X,BL w1 X->X.cell? ⟨w.heap.size,0,none⟩=some (.int .i64 (i:Int))/\X.cell? ⟨w.heap.size,1,none⟩=some (.int .i64 k)/\X.cell? ⟨w.heap.size,2,none⟩=some (.int .i64 t)):=hid (fun X hX=>by
  have h1:X.heap[w.heap.size]?=some (.cells #[.int .i64 (i:Int),.int .i64 k,.int .i64 t] 49 (0,0)):=(hX.block _ tr).trans uN;exact⟨aF h1 0,aF h1 1,aF h1 2⟩)
 have HW1:=hid hw1;have JD:=hid (fun X (hX:BL w X)=>(HP.out X hX).jK HI.out);obtain⟨ta,fi,co,lt,lc,hx⟩:∃ta fi co lt lc,s.ws[i]'hi=⟨ta,fi,co,lt,lc⟩:=⟨_,_,_,_,_,rfl⟩;have HX:Hid (s.ws[i]'HI.out=⟨ta,fi,co,lt,lc⟩):=hid hx;rw[hx] at AB
 have HC:Hid (∀X,BL w X->X.cell? ⟨gw,i*5,none⟩=some (.int .i64 ta)/\X.cell? ⟨gw,i*5+1,none⟩=some (.bool fi)/\X.cell? ⟨gw,i*5+2,none⟩=some (.int .i64 co)/\X.cell? ⟨gw,i*5+3,none⟩=some (.int .i64 lt)/\X.cell? ⟨gw,i*5+4,none⟩=some (.int .i64 lc)):=hid (fun X hX=>by
  have:=JD.out X hX;simp only[HX.out] at this;exact this)
 have zU:Hid (∀X,BL w X->Turns (bL b gb gw) w X):=hid (fun X hX=>Turns.aQ hX);have Gi:Hid (-1<=ta/\ta<(n:Int)):=hid ab2;clear hw1 hn0 hm0 hx JD h JE HL hi;have HRun:=hid hrun;have hr0:=hr.1;have hr1:=hr.2;clear hr hrun;go_enter Tryz.func31,Tryz.ntmps31;go_upto_region 1 with fail;rw[<-HW1.out];obtain⟨x0,x1,x2,x3,x4⟩:=HC.out w1 bf.out;obtain⟨y0,y1,y2,y3,y4⟩:=(HP.out w1 bf.out).eV;rw[<-HN.out] at y1;rw[<-HM.out] at y2;by_cases JE:ta= -1
 ·have HA:Hid (Wk.gV f s i=(s,8)):=hid (by unfold Wk.gV;rw[AB.out,if_pos (.inl JE)])
  subst JE;exact Fp
 ·obtain⟨q,hq⟩:∃q:Nat,ta=(q:Int):=⟨ta.toNat,by have:=Gi.out;omega⟩
  subst hq;have Jd:((q:Int)== -1)=false:=by simp
  cases fi
  ·have HA:Hid (Wk.gV f s i=({Wk.dD s i ⟨q,true,f q,lt,lc⟩ with runs:=s.runs+1},0)):=hid (by unfold Wk.gV;rw[AB.out,if_neg aZ])
   have Ns:=hid (fun X hX=>HRun.out X hX q (by have:=Gi.out;have:=HN.out;omega));have HPh:Hid (∀X,BL w X->X.cell? ⟨b,0,none⟩=some (.pointer (some ⟨jb,0,none⟩))/\X.cell? ⟨gw,i*5,none⟩=some (.int .i64 (q:Int))):=hid (fun X hX=>⟨(HP.out X hX).eV.1,(HC.out X hX).1⟩);have l8:∀xh:Held (fun V=>V.cell? ⟨b,0,none⟩=some (.pointer (some ⟨jb,0,none⟩))/\V.cell? ⟨gw,i*5,none⟩=some (.int .i64 (q:Int))),xh.1.cell? ⟨b,0,none⟩=some (.pointer (some ⟨jb,0,none⟩)):=fun xh=>xh.2.1;have kL:∀xh:Held (fun V=>V.cell? ⟨b,0,none⟩=some (.pointer (some ⟨jb,0,none⟩))/\V.cell? ⟨gw,i*5,none⟩=some (.int .i64 (q:Int))),xh.1.cell? ⟨gw,i*5,none⟩=some (.int .i64 (q:Int)):=fun xh=>xh.2.2;have iK:Hid (BL w (w1.drewN 1)):=hid (aG bf.out 1);go_upto_region 3 with fail;refine dU 14 (.quiet 0 (.quiet 1 (.quiet 2 (.quiet 3 (.quiet 4 (.quiet 5 (.quiet 6 (.quiet 7 (.quiet 8 (.quiet 9 (.one 10 (.quiet 11 (.quiet 12 (.one 13 .done)))))))))))))) (fun V=>V.cell? ⟨b,0,none⟩=some (.pointer (some ⟨jb,0,none⟩))/\V.cell? ⟨gw,i*5,none⟩=some (.int .i64 (q:Int))) lN (by kernel_rfl) (HPh.out _ iK.out) ?_;generalize w1.drewN 1=wq at*
   iterate 10 refine eB ?_
   refine aM rfl ?_;go_wp2_with fail;refine(Ns.out wq iK.out).mono ?_;rintro e w3 ⟨rfl,hb3⟩;have bZ:=aJ iK hb3;go_wp2_with fail;refine aD (fun V=>V.cell? ⟨b,0,none⟩=some (.pointer (some ⟨jb,0,none⟩))/\V.cell? ⟨gw,i*5,none⟩=some (.int .i64 (q:Int))) (fun _ h=>h) (HPh.out w3 bZ.out) ?_
   iterate 2 refine eB ?_
   clear hb3 x0 x1 x2 x3 x4 y0 y1 y2 y3 y4 iK Ns l8 kL;obtain⟨x0,x1,x2,x3,x4⟩:=HC.out w3 bZ.out;obtain⟨y0,y1,y2,y3,y4⟩:=(HP.out w3 bZ.out).eV;rw[<-HN.out] at y1;rw[<-HM.out] at y2;have f1:=bC.free (HP.out w3 bZ.out).lC (i*5+1);have f2:=bC.free (HP.out w3 bZ.out).lC (i*5+2);have Q8:=hid ((HP.out w3 bZ.out).vC HI.out (i:=1) aC (.bool true) ⟨q,true,co,lt,lc⟩ (by rw[HX.out];rfl))
   have HP3:Hid ((w3.setCell ⟨gw,i*5+1,none⟩ (.bool true)).cell? ⟨b,0,none⟩=some (.pointer (some ⟨jb,0,none⟩))/\(w3.setCell ⟨gw,i*5+1,none⟩ (.bool true)).cell? ⟨gw,i*5,none⟩=some (.int .i64 (q:Int))):=hid ⟨Q8.out.eV.1,by
    have h:=(Q8.out.jK (k:=i) Ka).1
    rw[h]
    simp⟩
   have ye:Hid (bO b jb gb gw cb cw J B (Wk.dD s i ⟨q,true,f q,lt,lc⟩) ((w3.setCell ⟨gw,i*5+1,none⟩ (.bool true)).setCell ⟨gw,i*5+2,none⟩ (.int .i64 (f (q:Int))))/\Turns (bL b gb gw) w ((w3.setCell ⟨gw,i*5+1,none⟩ (.bool true)).setCell ⟨gw,i*5+2,none⟩ (.int .i64 (f (q:Int))))):=hid (by
    have h1:=Q8.out.vC (k:=i) (i:=2) Ka aC (.int .i64 (f q)) ⟨q,true,f q,lt,lc⟩ Fy
    refine⟨?_,((zU.out w3 bZ.out).setCell _ _ (.inr (.inr rfl))).setCell _ _ (.inr (.inr rfl))⟩
    simpa [Wk.dD,List.set_set] using h1)
   refine aM rfl ?_;go_wp2_with fail;refine aD (fun V=>V.cell? ⟨b,0,none⟩=some (.pointer (some ⟨jb,0,none⟩))/\V.cell? ⟨gw,i*5,none⟩=some (.int .i64 (q:Int))) (fun _ h=>h) HP3.out ?_;refine aT ?_;try simp only[iW,iX]
   go_upto_region 4 with fail;generalize ((w3.setCell ⟨gw,i*5+1,none⟩ (.bool true)).setCell ⟨gw,i*5+2,none⟩ (.int .i64 (f (q:Int))))=w4 at*;clear x0 x1 x2 x3 x4 y0 y1 y2 y3 y4 f1 f2;obtain⟨y0,y1,y2,y3,y4⟩:=ye.out.1.eV;have y3':w4.cell? ⟨b,3,none⟩=some (.int .i64 s.runs):=y3;have f3:w4.frozen? ⟨b,3,none⟩=false:=bh ye.out.1.ptr 3
   have HZ:Hid (bO b jb gb gw cb cw J B {Wk.dD s i ⟨q,true,f q,lt,lc⟩ with runs:=s.runs+1} (w4.setCell ⟨b,3,none⟩ (.int .i64 (s.runs+1)))/\Turns (bL b gb gw) w (w4.setCell ⟨b,3,none⟩ (.int .i64 (s.runs+1)))):=hid
    ⟨ye.out.1.aht (s.runs+1) s.cW 3 _ rfl,ye.out.2.setCell _ _ (.inl rfl)⟩
   clear y3;go_wp2;go_ret;rw[HA.out];exact⟨rfl,HZ.out⟩
  ·have HA:Hid (Wk.gV f s i=(s,8)):=hid (by unfold Wk.gV;rw[AB.out,if_pos (.inr rfl)])
   exact Fp
theorem ME{w:World}{g:Nat}{x0 x1 x2:Value}{tmps:Array Value}(h:w.heap[g]?=some (.cells #[x0,x1,x2] 49 (0,0)))(hp:tmps[2]?=some (.pointer (some ⟨g,0,none⟩))):
  (results Tryz.f13 tmps).run Tryz.prog w=.ok (.agg #[x0,x1,x2]) w:=by
 have h0:=aF h 0;have h1:=aF h 1;have h2:=aF h 2;simp at h0 h1 h2;simp[results,Tryz.results13,go_sem,hp,h0,h1,h2]
theorem yO(a b c:Int)(w:World):Calls Tryz.prog 13 #[.agg #[.int .i64 a,.int .i64 b,.int .i64 c]] w fun e w'=>e=.returned (.agg #[.int .i64 a,.int .i64 b,.int .i64 c])/\BL w w':=by
 go_enter Tryz.func13,Tryz.ntmps13;go_wp2;refine bodyPost_ret (ME (g:=w.heap.size+1) ?h1 rfl) rfl ⟨rfl, ?h2⟩;case h1=>first|exact aP _ _ aZ|simp
 case h2=>first|exact(ay.alloc aH _).alloc aZ _|exact((ay.alloc aH _).alloc aZ _).setCell aZ _
theorem QR{x:ah.bF}{W:ah.cG}{s:Sub.S}(hc:aR.kC x W s=0):ah.okB x=true:=by
 unfold aR.kC at hc;by_cases h1:ah.okB x=true
 ·exact h1
 ·rw[if_neg h1] at hc;omega
def yP(n:Int):Prop:= -9223372036854775808<=n/\n<=9223372036854775807
def ZT(x:ah.bF)(W:ah.cG):Prop:=∀k i j:Nat,(ah.fd x k j).kind=7-> -1000<=aR.nV W k i j/\aR.nV W k i j<=1000
namespace Vm
open ah (cG bF)
theorem JJ(W:cG)(p:List Ins):∀(f at':Nat) (r:List Int) (n:Nat),(oN W p f at' r n).2.2=0\/(oN W p f at' r n).2.2=23
 |0,at',_,n=>by
  unfold oN;split
  ·exact .inl rfl
  ·exact .inr rfl
 |f+1,at',r,n=>by
  unfold oN;split
  ·exact .inl rfl
  ·split
   ·exact .inl rfl
   ·exact JJ W p f _ _ _
theorem CY{x:bF}{p:List Ins}(h1:d9 p=0)(h2:oM x p=true)(W:cG){n:Int}(hn:0<=n/\n<=1000000):(lZ x W p n).2.2=0\/(lZ x W p n).2.2=23:=by
 unfold lZ;rw[if_neg aC,if_neg aC,if_neg (by rw[h2];simp)];exact JJ W p _ _ _ _
end Vm
theorem CZ{x:ah.bF}{W:ah.cG}(h:ah.tF x W):ZT x W:=fun k i j _=>by
 unfold aR.nV;by_cases hk:k<W.length
 ·rw[Sub.aX hk]
  by_cases hi:i<W[k].length
  ·rw[Sub.aX hi]
   by_cases hj:j<(W[k][i]).length
   ·rw[Sub.aX hj]
    have:=((h.qv k hk _ (gY hi)).2 j hj).2;omega
   ·rw[Sub.iQ aC];omega
  ·rw[Sub.iQ (xs:=W[k]) aC];simp
 ·rw[Sub.iQ (xs:=W) aC];simp
theorem ZU{x:ah.bF}(hg:ah.zo x):ahj x:=by
 obtain⟨h1,h2⟩:=aR.kW (ah.AX hg);obtain⟨h3, -, -,h4⟩:=aR.jT h1;refine⟨hg.some,h3,fun k hk=>⟨?_,?_⟩⟩
 ·have h5:=(h2 k hk).1
  unfold ah.zh at h5;split at h5
  ·omega
  ·split at h5
   ·omega
   ·rename_i h6
    rw[not_or] at h6;omega
 ·rw[gm hk]
  exact(aR.kX (h4 _ (gY hk))).1
theorem Ft{x:ah.bF}{W:ah.cG}(h:ah.tF x W){l:List Sub.S}(hl:aR.oA x W l):l.length<=64:=by
 refine Nat.le_trans hl.le ?_;have:2 ^ ah.total W<=2 ^ 6:=Nat.pow_le_pow_right aC h.tot;omega
theorem yQ:∀{W:ah.cG},∀r∈W,r.length<=ah.total W
 |[],r,h=>by simp at h
 |a::W,r,h=>by
  have e:ah.total (a::W)=a.length+ah.total W:=by simp[ah.total]
  rcases kM.1 h with rfl|h
  ·omega
  ·have:=yQ r h;omega
end Go.Proofs.YteiakkfdchnddaaGreatDoor
