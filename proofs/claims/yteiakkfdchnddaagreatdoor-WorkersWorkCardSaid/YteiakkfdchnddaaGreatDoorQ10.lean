/- Part 10 of the walks and plain laws that the proof needs (packed). -/
import Derived.OrdersIn
import Derived.Laws.Bits64b
import Derived.Laws.CopyOwn
import Derived.Test.YteiakkfdchnddaaGreatDoorQ1
import Derived.Test.YteiakkfdchnddaaGreatDoorQ2
import Derived.Test.YteiakkfdchnddaaGreatDoorQ6
import Derived.Test.YteiakkfdchnddaaGreatDoorQ7
import Derived.Test.YteiakkfdchnddaaGreatDoorQ9
set_option linter.all false
set_option maxRecDepth 100000
set_option maxHeartbeats 8000000
namespace Go.Proofs.YteiakkfdchnddaaGreatDoor
open Go.RowKit
open Go.Maps (Keyed)
def adJ(v:Value):Option (DataW Nat×List MemPlace):=match v with
 | .map none=>some (.lit (.int .i64 (-1)),[])
 | .map (some b)=>some (.lit (.int .i64 (b:Int)),[])
 |_=>none
theorem U7{v:Value}{b:Nat}{ps:List MemPlace}(h:adJ v=some (.lit (.int .i64 (b:Int)),ps)):v=.map (some b):=by
 unfold adJ at h;split at h
 ·simp at h
 ·simp at h
  obtain⟨h1, -⟩:=h;have:b=_:=(Int.natCast_inj.1 h1).symm;rw[this]
 ·cases h
theorem adK:Maps.Keyed Tryz.prog 3:=Maps.int_keyed Tryz.underlying3
theorem U8:Tryz.prog.underlying 169=some (.map 3 174):=by kernel_rfl
theorem af7(w:World):(zeroValue 174).run Tryz.prog w=.ok (.map none) w:=by kernel_rfl
theorem adL{k:Int}(h:tN k):keyOf Tryz.prog 3 (.int .i64 k)=some (.int .i64 k):=Maps.keyOf_int_mk Tryz.underlying3 h.wf
theorem LL{k:Nat}(h:k<=1000000):tN (k:Int):=⟨by omega,by omega⟩
def nL(w:World)(b:Nat)(bs:List Nat):Prop:=
 ∃D:DataW Nat,w.ownsMap Tryz.prog 3 adJ b bs.length D/\∀k (h:k<bs.length),D.atKey (.int .i64 (k:Int)) (.lit (.int .i64 (-1)))=.lit (.int .i64 (bs[k]:Int))
theorem nL.made(w:World):nL (w.alloc (.map #[] 0)) w.heap.size []:=⟨.map [],World.ownsMap_made _ _ _ _,fun _ h=>absurd h aZ⟩
theorem nL.keep{w w':World}{b:Nat}{bs:List Nat}(h:nL w b bs)(hk:w'.heap[b]?=w.heap[b]?):nL w' b bs:=by
 exact U6
theorem nL.lt{w:World}{b:Nat}{bs:List Nat}(h:nL w b bs):b<w.heap.size:=by
 obtain⟨D,h1, -⟩:=h;exact h1.lt
theorem nL.look{w:World}{b:Nat}{bs:List Nat}(h:nL w b bs){k:Nat}(hk:k<bs.length)(hs:k<=1000000):
  (Instr.lookup 169 (.map (some b)) (.int .i64 (k:Int)) false).run Tryz.prog w=.ok (.map (some bs[k])) w:=by
 obtain⟨D,h1,h2⟩:=h;obtain⟨v,ps,hrun,hv⟩:=h1.lookup adK U8 (z:=.map none) (af7 w) (zd:=.lit (.int .i64 (-1))) (zp:=[]) rfl (adL (LL hs));rw[h2 k hk] at hv;rw[U7 hv] at hrun;exact hrun
theorem nL.store{w:World}{b:Nat}{bs:List Nat}(h:nL w b bs)(hs:bs.length<=1000000)(c:Nat):
  ∃w',(Instr.mapUpdate 169 (.map (some b)) (.int .i64 (bs.length:Int)) (.map (some c))).run Tryz.prog w=.ok () w'/\nL w' b (bs++[c])/\Turns (·=b) w w':=by
 obtain⟨D,h1,h2⟩:=h;have jI:bs.length<maxLen:=by have:maxLen=9223372036854775807:=rfl;omega
 obtain⟨w',hrun,how,hg⟩:=h1.update adK U8 jI (adL (LL hs)) (val:=.map (some c)) (d:=.lit (.int .i64 (c:Int))) (ps:=[]) rfl;refine⟨w',hrun,⟨_,by rw[rG];exact how,fun k hk=>?_⟩,Turns.iq hg (fun b' e=>by cases e;rfl)⟩;by_cases e:k=bs.length
 ·subst e
  rw[Maps.atKey_put_same h1.isMap (adK.key (adL (LL hs)))];simp
 ·have hk':k<bs.length:=by rw[rG] at hk;simp at hk;omega
  rw[Maps.atKey_put_other mV,h2 k hk',RW hk']
def mP(W:ah.cG)(s:Sub.S)(r:aR.Ref)(n:Nat)(a c:Int):Int:=if a=r.up then (aR.sE W s r c n:Nat) else 0
def jY(W:ah.cG)(s:Sub.S)(r:aR.Ref):Int->Int->Int:=mP W s r (W.getD r.kind []).length
theorem PZ(W:ah.cG)(s:Sub.S)(r:aR.Ref):mP W s r 0=fun _ _=>0:=by
 funext a c;unfold mP aR.sE;simp
theorem qE(W:ah.cG)(s:Sub.S)(r:aR.Ref)(i:Int)(n:Nat):aR.sE W s r i (n+1)=aR.sE W s r i n+if (Sub.keeps s r.kind n&&decide (aR.nV W r.kind n r.field=i))=true then 1 else 0:=by
 unfold aR.sE;rw[List.range_succ,List.filter_append,rG];congr 1;rw[List.filter_cons];split<;>simp
theorem U9(W:ah.cG)(s:Sub.S)(r:aR.Ref)(i:Int)(n:Nat):aR.sE W s r i n<=n:=by
 unfold aR.sE;exact Nat.le_trans (List.length_filter_le _ _) aZ
theorem Zb{W:ah.cG}{s:Sub.S}{r:aR.Ref}{n:Nat}(h:Sub.keeps s r.kind n=false):mP W s r (n+1)=mP W s r n:=by
 funext a c;unfold mP;rw[qE,h];simp
theorem Va{W:ah.cG}{s:Sub.S}{r:aR.Ref}{n:Nat}(h:Sub.keeps s r.kind n=true):mP W s r (n+1)=wV (mP W s r n) r.up (aR.nV W r.kind n r.field) (mP W s r n r.up (aR.nV W r.kind n r.field)+1):=by
 funext a c;unfold wV mP;rw[qE,h];by_cases ha:a=r.up
 ·subst ha
  by_cases hc:c=aR.nV W r.kind n r.field
  ·subst hc
   simp
  ·have h2:¬aR.nV W r.kind n r.field=c:=fun h=>hc h.symm
   simp[h2,hc]
 ·rw[if_neg ha,if_neg (fun h=>ha h.1),if_neg ha]
theorem Cc(W:ah.cG)(s:Sub.S)(r:aR.Ref)(n:Nat)(a c:Int):0<=mP W s r n a c/\mP W s r n a c<=n:=by
 unfold mP;have:=U9 W s r c n;split<;>omega
structure StV(B0 B1 B2 n:Nat)(rs:List aR.Ref)(W:ah.cG)(s:Sub.S)(w:World):Prop where
 NH:B0<=B1
 b12:B1<=B2
 box:∃ar cr aw cw gs,w.heap[B2+1]?=some (.cells #[.slice ar rs.length cr,.slice aw W.length cw,.slice (some ⟨gs,0,none⟩) s.length s.length,.map (some B2)] 171 (0,0))/\
  EZ (fun b=>B0<=b/\b<B1) w (.slice ar rs.length cr) rs/\cZ (·<B0) w (.slice aw W.length cw) W/\mz (fun b=>B1<=b/\b<B2) w (.slice (some ⟨gs,0,none⟩) s.length s.length) s
 maps:∃bs:List Nat,nL w B2 bs/\bs.length=rs.length/\bs.Nodup/\(∀b∈bs,B2+2<=b)/\∀k (h:k<bs.length) (h2:k<rs.length),dK w bs[k] n (jY W s rs[k])
end Go.Proofs.YteiakkfdchnddaaGreatDoor
namespace Go.Proofs.YteiakkfdchnddaaGreatDoor.aR
open ah (cG bF)
def mG(s:Sub.S)(k n:Nat):List Nat:=(List.range n).filter (Sub.keeps s k)
def eD(s:Sub.S)(k i:Nat):Nat:=(mG s k i).length
def sM(s:Sub.S)(k n a:Nat):Nat:=(mG s k n).getD a 0
theorem qF(s:Sub.S)(k n:Nat):mG s k (n+1)=mG s k n++if Sub.keeps s k n=true then [n] else []:=by
 unfold mG;rw[List.range_succ,List.filter_append,List.filter_cons];split<;>simp
theorem P4(s:Sub.S)(k n:Nat):eD s k (n+1)=eD s k n+if Sub.keeps s k n=true then 1 else 0:=by
 unfold eD;rw[qF,rG];split<;>simp
theorem A1(s:Sub.S)(k:Nat):∀n,eD s k n<=n
 |0=>aH
 |n+1=>by
  have:=A1 s k n;rw[P4];split<;>omega
theorem E2{s:Sub.S}{k i:Nat}(h:Sub.keeps s k i=true):∀{n:Nat},i<n->(mG s k n)[eD s k i]?=some i
 |0,hi=>by omega
 |n+1,hi=>by
  rw[qF];by_cases e:i=n
  ·subst e
   rw[if_pos h];unfold eD;simp
  ·have ih:=E2 h (n:=n) aC
   have hl:=(List.getElem?_eq_some_iff.1 ih).1;rw[List.getElem?_append_left hl];exact ih
theorem Cd{s:Sub.S}{k a i:Nat}:∀{n:Nat},(mG s k n)[a]?=some i->eD s k i=a/\Sub.keeps s k i=true/\i<n
 |0,h=>by simp[mG] at h
 |n+1,h=>by
  rw[qF] at h;by_cases g:a<(mG s k n).length
  ·rw[List.getElem?_append_left g] at h
   have:=Cd h;exact⟨this.1,this.2.1,by omega⟩
  ·rw[List.getElem?_append_right aC] at h
   split at h
   ·rename_i hk
    by_cases e:a-(mG s k n).length=0
    ·rw[e] at h
     simp at h;subst h;exact⟨by unfold eD;omega,hk,by omega⟩
    ·rw[List.getElem?_eq_none mV] at h
     cases h
   ·simp at h
theorem NI{s:Sub.S}{k i n:Nat}(h:Sub.keeps s k i=true)(hi:i<n):eD s k i<eD s k n:=
 (List.getElem?_eq_some_iff.1 (E2 h hi)).1
theorem A4{s:Sub.S}{k n a:Nat}(h:a<eD s k n):eD s k (sM s k n a)=a/\Sub.keeps s k (sM s k n a)=true/\sM s k n a<n:=by
 have e:(mG s k n)[a]?=some (sM s k n a):=by
  unfold sM;rw[jA,kK h];rfl
 exact Cd e
def tab(K:Nat)(n m:Nat->Nat)(f:Nat->Nat->Nat->Int):cG:=(List.range K).map fun k=>(List.range (n k)).map fun i=>(List.range (m k)).map fun j=>f k i j
theorem qG(K:Nat)(n m:Nat->Nat)(f:Nat->Nat->Nat->Int):(tab K n m f).length=K:=by simp[tab]
theorem LM{K:Nat}{n m:Nat->Nat}{f:Nat->Nat->Nat->Int}{k:Nat}(h:k<(tab K n m f).length):(tab K n m f)[k]=(List.range (n k)).map fun i=>(List.range (m k)).map fun j=>f k i j:=by simp[tab]
theorem Ce{K:Nat}{n m:Nat->Nat}{f:Nat->Nat->Nat->Int}{k:Nat}(h:k<K):(tab K n m f).getD k []=(List.range (n k)).map fun i=>(List.range (m k)).map fun j=>f k i j:=by
 rw[jA,kK (by rw[qG];exact h),LM];rfl
theorem Vb{K:Nat}{n m:Nat->Nat}{f:Nat->Nat->Nat->Int}{k:Nat}(h:k<K):((tab K n m f).getD k []).length=n k:=by rw[Ce h];simp
theorem wW{K:Nat}{n n' m:Nat->Nat}{f g:Nat->Nat->Nat->Int}(hn:∀k,k<K->n k=n' k)(h:∀k i j,k<K->i<n k->j<m k->f k i j=g k i j):tab K n m f=tab K n' m g:=by
 unfold tab;refine List.map_congr_left fun k hk=>?_;rw[List.mem_range] at hk;rw[<-hn k hk];refine List.map_congr_left fun i hi=>List.map_congr_left fun j hj=>?_;rw[List.mem_range] at hi hj;exact h k i j hk hi hj
def bV(W:cG)(k:Nat):Nat:=(W.getD k []).length
def sumOf(n:Nat)(u v:Nat->Int)(i:Int):Int:=((List.range n).map fun a=>if u a=i then v a else 0).sum
theorem LN(u v:Nat->Int)(i:Int):sumOf 0 u v i=0:=rfl
theorem vg(n:Nat)(u v:Nat->Int)(i:Int):sumOf (n+1) u v i=sumOf n u v i+if u n=i then v n else 0:=by
 unfold sumOf;rw[List.range_succ,List.map_append,List.sum_append];simp
def cell0(W:cG)(s:Sub.S)(k a j:Nat):Int:=nV W k (sM s k (bV W k) a) j
def rB(x:bF)(W:cG)(s:Sub.S)(k a j:Nat):Int:=if (ah.fd x k j).kind=1 then (eD s (ah.dV x k j).toNat (cell0 W s k a j).toNat:Nat) else cell0 W s k a j
def eW(x:bF)(k j:Nat):Nat:=(ah.gq x k (ah.fd x k j)).toNat
def rF(x:bF)(k j:Nat):Nat:=((ah.gy x k (ah.fd x k j)).headD 0).toNat
def oO(x:bF)(k j:Nat):Nat:=(ah.bB (ah.kd x (eW x k j)) (ah.fd x (eW x k j) (rF x k j)).up).toNat
def wX(x:bF)(W:cG)(s:Sub.S)(k a j:Nat):Int:=
 if (ah.fd x k j).kind=6 then sumOf (eD s (eW x k j) (bV W (eW x k j))) (fun b=>rB x W s (eW x k j) b (oO x k j)) (fun b=>rB x W s (eW x k j) b (rF x k j)) a else rB x W s k a j
def ji(x:bF)(W:cG)(s:Sub.S):cG:=tab W.length (fun k=>eD s k (bV W k)) (fun k=>(ah.kd x k).aA.length) (wX x W s)
theorem E3{x:bF}(h:ah.okB x=true){k j:Nat}(hk:k<x.ai.length)(hj:j<(ah.kd x k).aA.length)(h6:(ah.fd x k j).kind=6):
  eW x k j<x.ai.length/\rF x k j<(ah.kd x (eW x k j)).aA.length/\oO x k j<(ah.kd x (eW x k j)).aA.length/\(ah.fd x (eW x k j) (rF x k j)).kind=7/\(ah.fd x (eW x k j) (oO x k j)).kind=1/\
  ah.dV x (eW x k j) (oO x k j)=k/\k<eW x k j/\ah.gq x k (ah.fd x k j)=(eW x k j:Int)/\ah.gy x k (ah.fd x k j)=[(rF x k j:Int)]/\ah.bB (ah.kd x (eW x k j)) (ah.fd x (eW x k j) (rF x k j)).up=(oO x k j:Int):=by
 have hE:=((kW h).2 _ hk).2 _ hj;unfold ah.oI at hE;split at hE
 ·omega
 unfold ah.ze at hE;simp only[h6] at hE;by_cases ho:ah.gq x k (ah.fd x k j)<0
 ·simp[ho] at hE
 have hl:(ah.gy x k (ah.fd x k j)).length=1:=by
  apply Classical.byContradiction;intro hl;simp[ho,hl] at hE
 have hko:ah.gq x k (ah.fd x k j)=ah.cU x (ah.fd x k j).of/\(k:Int)<ah.cU x (ah.fd x k j).of:=by
  unfold ah.gq at ho ⊢;split
  ·rename_i h1;exact⟨rfl,h1.2⟩
  ·rename_i h1;rw[if_neg h1] at ho;omega
 obtain⟨o,Pp,ho2⟩:∃o:Nat,o<x.ai.length/\ah.cU x (ah.fd x k j).of=(o:Int):=by
  have h0:=ah.iE (fun q:ah.eZ=>decide (q.name=(ah.fd x k j).of)) x.ai;have hkI:ah.cU x (ah.fd x k j).of=ah.fV (fun q:ah.eZ=>decide (q.name=(ah.fd x k j).of)) x.ai 0:=rfl;rcases h0 with⟨e, -⟩|⟨o,ho,e, -⟩
  ·omega
  ·exact⟨o,ho,hkI.trans e⟩
 have hoth:eW x k j=o:=by unfold eW;rw[hko.1,ho2];simp
 obtain⟨c,hc⟩:=List.length_eq_one_iff.1 hl
 have hm:c∈ah.ql x k o (ah.fd x k j).name:=by
  have h0:c∈ah.gy x k (ah.fd x k j):=by rw[hc];simp
  unfold ah.gy at h0;rw[if_neg ho,hko.1,ho2] at h0;exact h0
 unfold ah.ql at hm;rw[List.mem_filter,List.mem_map] at hm;obtain⟨⟨sj,hsj,rfl⟩,hp⟩:=hm;simp only[kJ,lE] at hp;obtain⟨⟨p1, -⟩,p3⟩:=hp;rw[List.mem_range] at hsj;have LO:rF x k j=sj:=by unfold rF;rw[hc];simp
 obtain⟨u,hu1,lF,hu3,hu4⟩:∃u:Nat,ah.bB (ah.kd x o) (ah.fd x o sj).up=(u:Int)/\u<(ah.kd x o).aA.length/\(ah.fd x o u).kind=1/\ah.tU x o (ah.fd x o u)=k:=by
  unfold ah.dV at p3;split at p3
  ·simp only[p1,true_or,if_true] at p3
   split at p3
   ·rename_i hb
    obtain⟨b1,b2,b3⟩:=hb;have b4:=b1;unfold ah.hasB at b4;simp only[kJ,lE] at b4;obtain⟨u,hu⟩:∃u:Nat,ah.bB (ah.kd x o) (ah.fd x o sj).up=(u:Int):=⟨_,(Int.toNat_of_nonneg b4.1.2).symm⟩;rw[hu] at b3 b4 p3;exact⟨u,hu,by omega,b3,p3⟩
   ·omega
  ·omega
 have hled:oO x k j=u:=by unfold oO;rw[hoth,LO,hu1];simp
 have hup:ah.dV x o u=k:=by
  unfold ah.dV
  have hb:ah.hasB x o u=true:=by
   unfold ah.hasB;simp only[kJ,lE];omega
  rw[if_pos hb];simp only[hu3];simpa using hu4
 rw[hoth,LO,hled];exact⟨Pp,hsj,lF,p1,hu3,hup,by omega,by rw[hko.1,ho2],hc,hu1⟩
end Go.Proofs.YteiakkfdchnddaaGreatDoor.aR
namespace Go.Proofs.YteiakkfdchnddaaGreatDoor.aR
open ah (cG bF)
theorem P5{x:bF}{W:cG}{s:Sub.S}{k:Nat}(h:k<W.length):bV (ji x W s) k=eD s k (bV W k):=Vb h
theorem P6{x:bF}{W:cG}{s:Sub.S}{k a j:Nat}(h:(ah.fd x k j).kind=1):wX x W s k a j=(eD s (ah.dV x k j).toNat (cell0 W s k a j).toNat:Nat):=by
 unfold wX rB;rw[if_neg aC,if_pos h]
theorem Cf{x:bF}{W:cG}{s:Sub.S}(hv:Sub.valid (wrong (cN x) W) s=true){k i j:Nat}(hk:k<x.ai.length)(hj:j<(ah.kd x k).aA.length)(h1:(ah.fd x k j).kind=1)(hki:Sub.keeps s k i=true):
  Sub.keeps s (ah.dV x k j).toNat (nV W k i j).toNat=true:=by
 have h0:=Sub.kT.1 hv k i hki;unfold wrong at h0;rw[List.any_eq_false] at h0;have h2:=h0 _ (BI hk hj h1);unfold yu at h2;cases e:Sub.keeps s (ah.dV x k j).toNat (nV W k i j).toNat
 ·simp[e] at h2
 ·rfl
theorem Cg{f g:Nat->Nat}:∀{l:List Nat},(∀k∈l,f k<=g k)->(l.map f).sum<=(l.map g).sum
 |[],_=>aH
 |a::l,h=>by
  have h1:=h a aZ;have h2:=Cg (l:=l) (fun k hk=>h k (by simp[hk]));simp only[List.map_cons,List.sum_cons];omega
theorem P7(K:Nat)(n m:Nat->Nat)(f:Nat->Nat->Nat->Int):ah.total (tab K n m f)=((List.range K).map n).sum:=by
 unfold ah.total tab;congr 1;rw[List.map_map];refine List.map_congr_left fun k _=>?_;simp
theorem zS(W:cG):ah.total W=((List.range W.length).map (bV W)).sum:=by
 unfold ah.total;congr 1;refine List.ext_getElem aZ fun k h1 h2=>?_;rw[FD] at h1;rw[List.getElem_map,List.getElem_map,List.getElem_range];unfold bV;rw[Sub.aX h1]
theorem LP(x:bF)(W:cG)(s:Sub.S):ah.total (ji x W s)<=ah.total W:=by
 unfold ji;rw[P7,zS];exact Cg fun k _=>A1 _ _ _
theorem F8{x:bF}{W:cG}(hf:sF x W){k i j:Nat}(hk:k<x.ai.length)(hj:j<(ah.kd x k).aA.length)(h1:(ah.fd x k j).kind=1)(hi:i<bV W k):
  0<=ah.dV x k j/\ah.dV x k j<k/\0<=nV W k i j/\nV W k i j<ah.fW W (ah.dV x k j):=by
 have hm:=BI hk hj h1;obtain⟨-, -,r1,r2, -⟩:=hf.refs _ hm;have oL:k<W.length:=by rw[hf.len];exact hk
 have hi':i<W[k].length:=by unfold bV at hi;rwa [Sub.aX oL] at hi
 have h2:=hf.lead _ hm i oL hi';exact⟨r1,r2,h2⟩
theorem P8{x:bF}{W:cG}{s:Sub.S}(hf:sF x W)(hv:Sub.valid (wrong (cN x) W) s=true):eM x (ji x W s)=true:=by
 have hlen:=hf.len;unfold eM;simp only[kJ,lE,List.all_eq_true,List.mem_range];refine⟨⟨⟨?_,fun k hk r hr=>?_⟩,fun r hr l hl=>?_⟩,?_⟩
 ·unfold ji;rw[qG];exact hlen
 ·unfold ji at hk hr
  rw[qG] at hk;rw[Ce hk,List.mem_map] at hr;obtain⟨i, -,rfl⟩:=hr;simp
 ·obtain⟨q1,q2,q3,q4, -, -,q5,q6⟩:=hf.refs _ hr
  have hk:r.kind<W.length:=by omega
  unfold ji at hl;rw[Ce hk,List.mem_map] at hl;obtain⟨a,ha,rfl⟩:=hl;rw[List.mem_range] at ha;have hold:=A4 ha
  have e:((List.range (ah.kd x r.kind).aA.length).map fun j=>wX x W s r.kind a j).getD r.field 0=wX x W s r.kind a r.field:=by
   rw[Sub.aX (by simpa using q2)];simp
  rw[e,P6 q5,<-q6];have hlead:=F8 hf q1 q2 q5 hold.2.2;have hkp:=Cf hv q1 q2 q5 hold.2.1;rw[<-q6] at hlead hkp;have hu:ah.fW (ji x W s) r.up=eD s r.up.toNat (bV W r.up.toNat):=P5 aC
  have hl2:eD s r.up.toNat (cell0 W s r.kind a r.field).toNat<eD s r.up.toNat (bV W r.up.toNat):=NI hkp (by
   have h1:=hlead.2.2.2
   have h2:=hlead.2.2.1
   have e:ah.fW W r.up=bV W r.up.toNat:=rfl
   rw[e] at h1
   show (nV W r.kind (sM s r.kind (bV W r.kind) a) r.field).toNat<bV W r.up.toNat
   omega)
  omega
 ·have h1:=LP x W s
  have h2:=hf.tot;omega
end Go.Proofs.YteiakkfdchnddaaGreatDoor.aR
namespace Go.Proofs.YteiakkfdchnddaaGreatDoor.aR
open ah (cG bF)
theorem nM(W:cG)(k:Nat):(shape W).getD k 0=bV W k:=by
 unfold shape bV;rw[jA,List.getElem?_map,jA];cases W[k]?<;>rfl
theorem tO(W:cG):(shape W).length=W.length:=by simp[shape]
theorem yF{W:cG}{s:Sub.S}(h:Sub.Fit (shape W) s){k i:Nat}(hk:Sub.keeps s k i=true):k<W.length/\i<bV W k:=by
 have h1:=Sub.sB hk;rw[h.1,tO] at h1;rw[h.2,nM] at h1;exact h1
theorem yG{α β:Type}{f:α->β}{l:List α}(hi:∀a∈l,∀b∈l,f a=f b->a=b)(h:l.Nodup):(l.map f).Nodup:=by
 induction l with
 |nil=>exact List.nodup_nil
 |cons a l ih=>
  rw[List.nodup_cons] at h
  rw[List.map_cons,List.nodup_cons]
  refine⟨fun hm=>?_,ih (fun c hc d hd=>hi c (by simp[hc]) d (by simp[hd])) h.2⟩
  obtain⟨b,hb,e⟩:=List.mem_map.1 hm
  have:=hi b (by simp[hb]) a aZ e
  rw[this] at hb
  exact h.1 hb
def Ch(W:cG):Sub.S:=W.map fun l=>List.replicate l.length true
theorem LQ(W:cG)(k i:Nat):Sub.keeps (Ch W) k i=decide (i<bV W k):=by
 unfold Sub.keeps Ch bV;rw[jA (l:=W.map _),List.getElem?_map,jA (l:=W)];cases W[k]? with
 |none=>simp
 |some l=>
  simp only[Option.map_some,zOg]
  by_cases h:i<l.length
  ·rw[Sub.aX uO];simp[h]
  ·rw[Sub.iQ mV];simp[h]
theorem l6(W:cG):Sub.Fit (shape W) (Ch W):=by
 refine⟨by simp[Ch,shape],fun k=>?_⟩;rw[nM];unfold Ch bV;rw[jA,List.getElem?_map,jA];cases W[k]? with
 |none=>rfl
 |some l=>simp
theorem Zc{W:cG}{s:Sub.S}(h:Sub.Fit (shape W) s):Sub.le s (Ch W):=fun k i hk=>by
 rw[LQ];exact decide_eq_true (yF h hk).2
theorem Ci{α:Type}[DecidableEq α]:∀(n:Nat) (l:List (List Bool)),l.Nodup->(∀x∈l,x.length=n)->l.length<=2 ^ n
 |0,l,hn,h=>by
  have:=Sub.length_le_of_subset (m:=[[]]) hn (fun x hx=>by
   have:=h x hx;simp[List.eq_nil_of_length_eq_zero this])
  simpa using this
 |n+1,l,hn,h=>by
  have h0:=Ci (α:=α) n ((l.filter fun x=>x.headD false).map List.tail) (yG (fun a ha b hb e=>by
   rw[List.mem_filter] at ha hb;have h1:=h a ha.1;have h2:=h b hb.1;cases a<;>cases b<;>simp_all) (hn.filter _)) (fun x hx=>by
   obtain⟨y,hy,rfl⟩:=List.mem_map.1 hx;rw[List.mem_filter] at hy;rw[List.length_tail,h y hy.1];rfl)
  have h1:=Ci (α:=α) n ((l.filter fun x=> !x.headD false).map List.tail) (yG (fun a ha b hb e=>by
   rw[List.mem_filter] at ha hb;have h1:=h a ha.1;have h2:=h b hb.1;cases a<;>cases b<;>simp_all) (hn.filter _)) (fun x hx=>by
   obtain⟨y,hy,rfl⟩:=List.mem_map.1 hx;rw[List.mem_filter] at hy;rw[List.length_tail,h y hy.1];rfl)
  rw[FD] at h0 h1
  have h2:∀m:List (List Bool),m.length=(m.filter fun x=>x.headD false).length+(m.filter fun x=> !x.headD false).length:=fun m=>by
   induction m with
   |nil=>rfl
   |cons a m ih=>
    rw[List.filter_cons,List.filter_cons,List.length_cons]
    cases a.headD false
    ·simp only[Bool.not_false,if_true,Bool.false_eq_true,if_false,List.length_cons];omega
    ·simp only[Bool.not_true,if_true,Bool.false_eq_true,if_false,List.length_cons];omega
  have h3:=h2 l;rw[Nat.pow_succ];omega
theorem Cj:∀{sh:List Nat} {s t:Sub.S},s.map List.length=sh->t.map List.length=sh->s.flatten=t.flatten->s=t
 |[],s,t,hs,ht,_=>by
  have h1:s=[]:=by simpa using hs
  have h2:t=[]:=by simpa using ht
  rw[h1,h2]
 |n::sh,[],_,hs,_,_=>by simp at hs
 |n::sh,_::_,[],_,ht,_=>by simp at ht
 |n::sh,a::s,b::t,hs,ht,h=>by
  simp only[List.map_cons,List.cons.injEq] at hs ht;rw[List.flatten_cons,List.flatten_cons] at h;have h1:=List.append_inj h aC;rw[h1.1,Cj hs.2 ht.2 h1.2]
theorem jJ{W:cG}{s:Sub.S}(h:Sub.Fit (shape W) s):s.map List.length=shape W:=by
 have:=of_decide_eq_true (BH h);exact this.symm
theorem NJ{W:cG}{l:List Sub.S}(hn:l.Nodup)(h:∀s∈l,Sub.Fit (shape W) s):l.length<=2 ^ ah.total W:=by
 have:=Ci (α:=Nat) (ah.total W) (l.map List.flatten) (yG (fun a ha b hb e=>Cj (jJ (h a ha)) (jJ (h b hb)) e) hn) (fun x hx=>by
  obtain⟨s,hs,rfl⟩:=List.mem_map.1 hx;rw[List.length_flatten,jJ (h s hs)];rfl)
 rwa [FD] at this
end Go.Proofs.YteiakkfdchnddaaGreatDoor.aR
namespace Go.Proofs.YteiakkfdchnddaaGreatDoor.aR
open ah (cG bF)
abbrev wr(x:bF)(W:cG):Sub.S->Nat->Nat->Bool:=wrong (cN x) W
structure oA(x:bF)(W:cG)(l:List Sub.S):Prop where
 sorted:Sub.Sorted (shape W) l
 mem:∀t,t∈l↔Sub.Fit (shape W) t/\Sub.valid (wr x W) t=true
theorem oA.nodup{x:bF}{W:cG}{l:List Sub.S}(h:oA x W l):l.Nodup:=Sub.FU h.sorted
theorem oA.le{x:bF}{W:cG}{l:List Sub.S}(h:oA x W l):l.length<=2 ^ ah.total W:=NJ h.nodup fun s hs=>((h.mem s).1 hs).1
def gM(x:bF)(W:cG):Sub.S:=Sub.great (wr x W) (Ch W)
theorem vh(x:bF)(W:cG):Sub.Fit (shape W) (gM x W):=Sub.yt (l6 W)
theorem F9(x:bF)(W:cG):Sub.valid (wr x W) (gM x W)=true:=Sub.sC (l6 W)
theorem P9{x:bF}{W:cG}{t:Sub.S}(hf:Sub.Fit (shape W) t)(hv:Sub.valid (wr x W) t=true):Sub.le t (gM x W):=Sub.Ez (BG _ _) hv (Zc hf)
def NK(x:bF)(W:cG)(p:List Vm.Ins)(n:Int)(s:Sub.S):Int:=if (Vm.lZ x (ji x W s) p n).2.2=0 then (Vm.lZ x (ji x W s) p n).1 else -1
end Go.Proofs.YteiakkfdchnddaaGreatDoor.aR
namespace Go.Proofs.YteiakkfdchnddaaGreatDoor
open Go.RowKit
theorem iM.inner{α:Type}{RR:(Nat->Prop)->World->Value->α->Prop}(hR:fG RR){e:TypeId}{S:Nat->Prop}{w:World}{v:Value}{xs:List α}(h:iM RR e S w v xs){j:Nat}(hj:j<xs.length):
  ∃(u:Value) (Sj:Nat->Prop) (g cap:Nat),v=.slice (some ⟨g,0,none⟩) xs.length cap/\w.cell? ⟨g,j,none⟩=some u/\RR Sj w u xs[j]/\(∀b,Sj b->S b)/\¬Sj g/\S g/\
   ∀w' x',RR Sj w' u x'->aB (fun b=>S b/\¬Sj b) w w'->iM RR e S w' v (xs.set j x'):=by
 obtain⟨h1,us,Z,h2,h3,h4⟩:=h;have h2':=h2;obtain⟨q1,q2⟩:=h2';simp only[Nat.mul_one] at q1;rcases q2 with⟨rfl,h0⟩|⟨g,cap,cur,rfl,hb,hg,hn,hc,hs,ht⟩
 ·omega
 simp only[Nat.mul_one] at hs ht;have hju:j<us.length:=by omega
 refine⟨us[j],fun b=>S b/\some b≠(Value.slice (some ⟨g,0,none⟩) xs.length cap).ownBlock/\Z b=j,g,cap,rfl,?_,h4 j hju hj,fun b hb=>hb.1,fun hb=>hb.2.1 rfl,h1 g rfl,fun w' x' hx hk=>⟨h1,us,Z,?_,by simpa using h3,fun j' g1 g2=>?_⟩⟩
 ·rw[cell_of_row w g j cur e (0,0) hg]
  have h3':us[j]?=some us[j]:=kK hju;rw[<-h3',<-ht,List.getElem?_take,if_pos aC];simp
 ·have:=dm (S:=fun b=>S b/\some b=(Value.slice (some ⟨g,0,none⟩) xs.length cap).ownBlock) h2 (fun b hb=>⟨h1 b hb,hb.symm⟩) (fun b hb hlt=>hk b ⟨hb.1,fun h=>h.2.1 hb.2⟩ hlt)
  simpa using this
 ·by_cases e':j'=j
  ·subst e'
   simp only[List.getElem_set_self];exact hx
  ·rw[List.getElem_set_ne (fun h=>e' h.symm)]
   refine hR.keep (h4 j' g1 (by simpa using g2)) (fun b hb hlt=>hk b ⟨hb.1,fun h=>e' (hb.2.2.symm.trans h.2.2)⟩ hlt)
section
variable {P:Program} {ops:Array Oper} {md:Region.Mode} {lp n:Nat}
theorem lI{f:FuncId}{args:Array Value}{w:World}{R:Ending->World->Prop}:CallsIn (Fence.wide.inRound lp) n P f args w R↔Calls P f args w R:=callsIn_wide (n:=n)
def tP:Op->Bool
 | .defer .. =>false
 |_=>true
theorem af8{o:Oper}{a:Act}{w:World}{K K2:Act->World->Prop}{Q2:Exit->Act->World->Prop}(hd:tP o.op=true)(h:o.wp P a w K (QN K2)):o.wpIn (Fence.wide.inRound lp) n P a w K Q2:=by
 have hs:Oper.semAt (Fence.wide.inRound lp).round a.eval o=execOp a.eval o:=Oper.semAt_eq _ _ _ (fun c e=>by rw[e] at hd;simp[tP] at hd);unfold Oper.wpIn;refine⟨fun _ _=>trivial,?_⟩;rw[hs];unfold Oper.wp at h;generalize (execOp a.eval o).run P w=r at*;cases r with
 |ok x w'=>
  cases x with
  |value v=>exact h
  |skip=>exact h
  |defer d=>exact h
  |enter f args=>
   refine⟨fun h=>by simp[Fence.wide] at h,lI.2 (Calls.mono h ?_)⟩
   intro e w'' he
   cases e with
   |returned v=>exact he
   |panicked c=>exact he.elim
   |outgrown=>exact absurd he ja
  |row row args=>
   refine⟨fun h=>by simp[Fence.wide] at h,fun c cs _=>?_⟩
   obtain⟨v,w2,h1,h2⟩:=h c cs
   exact⟨v,w2,h1,stepsIn_wide.2 h2⟩
  |_=>exact h.elim
 |halt x w'=>
  cases x<;>first|exact h.elim|exact(show False from h).elim
theorem adM{i:Nat}{a:Act}{w:World}{K K' K2:Act->World->Prop}{Q2:Exit->Act->World->Prop}(hd:∀o,ops[i]?=some o->tP o.op=true)(hK:∀a w,K a w->K' a w)(h:wpOp P ops (QN K2) i K a w):wpOpIn (Fence.wide.inRound lp) n P ops Q2 i K' a w:=by
 refine wpOpIn_mono hK ?_;unfold wpOp at h;unfold wpOpIn;split
 ·rename_i ho;simp only[ho] at h;exact h
 ·rename_i o ho
  simp only[ho] at h;split
  ·rename_i hw
   rw[if_pos hw] at h;rcases h with h|⟨_,h⟩
   ·exact af8 (hd o ho) h
   ·exact absurd h ja
  ·rename_i hw
   rw[if_neg hw] at h;exact⟨fun _ _=>trivial,h⟩
theorem Vc{K2:Act->World->Prop}{Q2:Exit->Act->World->Prop}(hd:∀(i:Nat) (o:Oper),ops[i]?=some o->tP o.op=true)(hK:∀a w,K2 a w->Q2 .normal a w):∀(f:Nat) (listed:Array Bool) (a:Act) (w:World),
  wpAny P md ops (QN K2) f listed a w->wpAnyIn (Fence.wide.inRound lp) n P md ops Q2 f listed a w
 |0,_,_,_,h=>⟨h.1,hK _ _ h.2⟩
 |f+1,_listed,_a,_w,h=>⟨fun h0=>hK _ _ (h.1 h0),fun i hi=>adM (hd i) (fun a w h=>Vc hd hK f _ a w h) (h.2 i hi)⟩
def Region.LS(ops:Array Oper):Bool:=ops.all fun o=>tP o.op
theorem Region.LU{ops:Array Oper}(h:Region.LS ops=true):∀(i:Nat) (o:Oper),ops[i]?=some o->tP o.op=true:=by
 intro i o ho;unfold Region.LS at h;obtain⟨hlt,e⟩:=Array.getElem?_eq_some_iff.1 ho;rw[<-e];exact Array.all_eq_true.1 h i hlt
end
end Go.Proofs.YteiakkfdchnddaaGreatDoor
namespace Go.Proofs.YteiakkfdchnddaaGreatDoor
open Go.RowKit
def Marks(n0 nB:Nat)(ds:List Deferred)(w:World):Prop:=
 ∃Ds:List Nat,ds=Ds.map (fun D=>{target:=.collected D,args:=#[]})/\Ds.Nodup/\∀D∈Ds,n0<=D/\D<nB/\w.heap[D]?=some (.deferred (some []))
theorem Marks.nil(n0 nB:Nat)(w:World):Marks n0 nB [] w:=⟨[],rfl,List.nodup_nil,fun D h=>absurd h aZ⟩
theorem Marks.mono{n0 nB nB':Nat}{ds:List Deferred}{w:World}(h:Marks n0 nB ds w)(hn:nB<=nB'):Marks n0 nB' ds w:=by
 obtain⟨Ds,h1,h2,h3⟩:=h;exact⟨Ds,h1,h2,fun D hD=>⟨(h3 D hD).1,XO (h3 D hD).2.1 hn,(h3 D hD).2.2⟩⟩
theorem abj{p:Prop}(h:p:=by
  obtain⟨Ds,h1,h2,h3⟩:=h
  exact⟨Ds,h1,h2,fun D hD=>⟨(h3 D hD).1,(h3 D hD).2.1,ht.2 _ _ (h3 D hD).2.2 (fun ha=>hA _ _ (h3 D hD).2.1 ha trivial)⟩⟩):p:=h
theorem Marks.turn{A:Nat->Obj->Prop}{n0 n1 nB:Nat}{ds:List Deferred}{w w':World}(h:Marks n0 nB ds w)(ht:aS A n1 w w')(hA:∀b o,b<nB->A b o->¬book o):Marks n0 nB ds w':=by
 exact abj
theorem Marks.push{n0 nB:Nat}{ds:List Deferred}{w:World}(h:Marks n0 nB ds w){D:Nat}(hD:nB<=D)(hn:n0<=D)(hk:w.heap[D]?=some (.deferred (some []))):
  Marks n0 w.heap.size ({target:=.collected D,args:=#[]}::ds) w:=by
 obtain⟨Ds,h1,h2,h3⟩:=h;have hlt:=(Array.getElem?_eq_some_iff.1 hk).1;refine⟨D::Ds,by rw[h1];rfl,List.nodup_cons.2 ⟨fun hm=>?_,h2⟩,fun E hE=>?_⟩
 ·have:=(h3 D hm).2.1
  omega
 ·rcases kM.1 hE with rfl|hE
  ·exact⟨hn,hlt,hk⟩
  ·exact⟨(h3 E hE).1,by have:=(h3 E hE).2.1;omega,(h3 E hE).2.2⟩
theorem lJ{P:Program}{n n0:Nat}{fn:Func}{tmps:Array Value}{R:Ending->World->Prop}{v:Value}:∀(Ds:List Nat) (w:World),Ds.Nodup->(∀D∈Ds,n0<=D/\w.heap[D]?=some (.deferred (some [])))->
  (∀w',aS (bH n0) n0 w w'->(results fn tmps).run P w'=.ok v w'/\R (.returned v) w')->LeavesInM Fence.wide n P fn tmps R (Ds.map (fun D=>{target:=.collected D,args:=#[]})) .returning w
 |[],w,_,_,h=>⟨_,(h w (aS.refl _ _ _)).1,(h w (aS.refl _ _ _)).2⟩
 |D::Ds,w,hn,hD,h=>by
  obtain⟨hnd,hns⟩:=List.nodup_cons.1 hn;have hk:=(hD D List.mem_cons_self);have ht:aS (bH n0) n0 w (w.putObj D (.deferred none)):=aS.putObj _ hk.2 ⟨hk.1,trivial⟩ hk.1;refine⟨by simp,.inl ⟨D,_,rfl,run_takeDeferred hk.2,?_⟩⟩;refine lJ Ds _ hns (fun E hE=>⟨(hD E (List.mem_cons_of_mem _ hE)).1,?_⟩) (fun w' h'=>h w' (ht.trans h'));have hne:E≠D:=fun e=>hnd (e▸hE);exact(World.putObj_heap_other hne).trans (hD E (List.mem_cons_of_mem _ hE)).2
theorem abk{p:Prop}(h:p:=by
  obtain⟨Ds,rfl,hnd,hD⟩:=hm
  exact lJ Ds w hnd (fun D h=>⟨(hD D h).1,(hD D h).2.2⟩) h):p:=h
theorem jt{P:Program}{n n0:Nat}{fn:Func}{tmps:Array Value}{ds:List Deferred}{w:World}{R:Ending->World->Prop}{v:Value}{nB:Nat}(hm:Marks n0 nB ds w)
  (h:∀w',aS (bH n0) n0 w w'->(results fn tmps).run P w'=.ok v w'/\R (.returned v) w'):bodyPostM Fence.wide n P fn R .ret {tmps,defers:=ds} w:=by
 exact abk
def sN{α:Type}(P:Program)(n0 nB gf:Nat)(lb:Array Value)(encs:α->Array Value)(G:List α->α->World->Prop)(bA iA:Nat->Obj->Prop)(S:List α->World->Prop)(w:World):Prop:=
 ∀(l:Nat) (J Jx:List α->World->Prop) (W:World),BL w W->
  (∀pre A B,J pre A->aS iA n0 A B->J pre B)->(∀pre A B,Jx pre A->aS iA n0 A B->Jx pre B)->
  (∀pre x W1,J pre W1->G pre x W1->YieldAt Fence.wide 0 P l (encs x) W1 fun e W'=>
   aS (fun b o=>bA b o\/bH nB b o) n0 W1 W'/\((e=.returned (.bool true)/\J (pre++[x]) W')\/(e=.returned (.bool false)/\Jx (pre++[x]) W')))->
  J [] W->Calls P gf (#[.func (.yield l) #[] #[]]++lb) W fun e W'=>(∃v,e=.returned v)/\((∃xs,S xs W'/\J xs W')\/∃xs,Jx xs W')
def QS{α:Type}(bA:Nat->Obj->Prop)(n0:Nat)(I Ix:List α->World->Prop)(xs:List α)(W:World):Exit->Act->World->Prop
 | .normal,_,W3=>aS bA n0 W W3/\I xs W3
 | .ret,_,W3=>aS bA n0 W W3/\Ix xs W3
 |_,_,_=>False
abbrev sO(fn:FuncId)(tmps:Array Value)(ps:Array Tmp)(assign body:Code)(dfr:Nat)(st:LoopState)(pe:Option Code):Loop:=
 {state:=st,pending:=pe,fn,tmps,params:=ps,assign,body,defers:=dfr}
theorem af9{p:Prop}(h:p:=by
  obtain⟨rec,hrec⟩:∃rec:LoopState->Option Code->Loop,rec=sO fn tmps ps assign body dfr:=⟨_,rfl⟩
  rw[<-hrec] at hL1
  have NM:∀{A:Nat->Obj->Prop} {X Y:World} {st:LoopState} {pe:Option Code},(∀b o,A b o->¬book o)->aS A n0 X Y->X.heap[l]?=some (.loop (rec st pe))->Y.heap[l]?=some (.loop (rec st pe)):=
   fun hA ht hl=>ht.2 _ _ hl (fun h=>hA _ _ h trivial)
  have Zd:∀{X:World} {o:Obj} (o':Obj),X.heap[l]?=some o->book o->aS (bH nB) n0 X (X.putObj l o'):=fun o' h hb=>aS.putObj _ h ⟨hlB,hb⟩ aC
  refine(hseq l (fun pre W=>I pre W/\W.heap[l]?=some (.loop (rec .ready none))/\E W) (fun pre W=>Ix pre W/\W.heap[l]?=some (.loop (rec .done (some .ret)))/\E W) W1 hb1
   (fun pre A B hj ht=>⟨hI _ _ _ hj.1 (ht.mono fun b o h=>.inl h),NM hiA ht hj.2.1,hE _ _ _ hiA ht hj.2.2⟩) (fun pre A B hj ht=>⟨hIx _ _ _ hj.1 (ht.mono fun b o h=>.inl h),NM hiA ht hj.2.1,hE _ _ _ hiA ht hj.2.2⟩) ?_ ⟨h0,hL1,hE0⟩).mono ?_
  ·rintro pre x W ⟨hi,hl,hE1⟩ hG
   have hy:=run_yield (P:=P) (args:=encs x) hl (by rw[hrec];exact hps x);rw[hrec] at hy;refine⟨fn,_,assign,body,hy,roundIn_of_wpIn trivial (wpIn_mono (lm pre x W (by rw[hl,hrec]) hi hG) ?_)⟩;rintro e a1 W2 hp;cases e with
   |normal=>
    obtain⟨ht1,hbody⟩:=hp
    have hl2:=NM Vd ht1 hl
    have Ua:=hE _ _ _ Vd ht1 hE1
    have hlt2:l<W2.heap.size:=(Array.getElem?_eq_some_iff.1 hl2).1
    have hput:aS (bH nB) n0 W2 (W2.putObj l (.loop (rec .busy none))):=Zd _ hl2 trivial
    have hbr:(Instr.beginRound l).run P W2=.ok () (W2.putObj l (.loop (rec .busy none))):=by
     have:=run_beginRound (P:=P) hl2 (by rw[hrec]);rw[hrec] at this ⊢;exact this
    have hl3:(W2.putObj l (.loop (rec .busy none))).heap[l]?=some (.loop (rec .busy none)):=World.putObj_heap_same hlt2
    refine⟨_,hbr,wpIn_mono (hbody _ hput aZ ⟨_,hl3⟩) ?_⟩
    rintro e a3 W3 hq
    have fin:∀(I':List α->World->Prop) (hI':∀pre A B,I' pre A->aS (fun b o=>iA b o\/bH nB b o) n0 A B->I' pre B) (jp:Option Code),aS bA n0 (W2.putObj l (.loop (rec .busy none))) W3/\I' (pre++[x]) W3->
      (Instr.endRound l jp).run P W3=.ok (.bool jp.isNone) (W3.putObj l (.loop (rec (if jp.isNone then .ready else .done) jp)))/\
      I' (pre++[x]) (W3.putObj l (.loop (rec (if jp.isNone then .ready else .done) jp)))/\
      (W3.putObj l (.loop (rec (if jp.isNone then .ready else .done) jp))).heap[l]?=some (.loop (rec (if jp.isNone then .ready else .done) jp))/\
      E (W3.putObj l (.loop (rec (if jp.isNone then .ready else .done) jp)))/\
      aS (fun b o=>bA b o\/bH nB b o) n0 W (W3.putObj l (.loop (rec (if jp.isNone then .ready else .done) jp))):=by
     rintro I' hI' jp ⟨ht3,hi3⟩;have hl4:=NM Vd ht3 hl3;have acI:l<W3.heap.size:=(Array.getElem?_eq_some_iff.1 hl4).1
     have hend:(Instr.endRound l jp).run P W3=.ok (.bool jp.isNone) (W3.putObj l (.loop (rec (if jp.isNone then .ready else .done) jp))):=by
      have:=run_endRound (P:=P) jp hl4;rw[hrec] at this ⊢;exact this
     have abl:aS (bH nB) n0 W3 (W3.putObj l (.loop (rec (if jp.isNone then .ready else .done) jp))):=Zd _ hl4 trivial
     exact⟨hend,hI' _ _ _ hi3 (abl.mono fun b o h=>.inr h),World.putObj_heap_same acI,hEl _ _ (hE _ _ _ Vd ht3 (hEl _ _ Ua)),
      (((ht1.mono fun b o h=>.inl h).trans (hput.mono fun b o h=>.inr h)).trans (ht3.mono fun b o h=>.inl h)).trans (abl.mono fun b o h=>.inr h)⟩
    cases e with
    |normal=>
     obtain⟨h1,h2,h3,h4,h5⟩:=fin I hI none hq
     exact⟨_,_,h1,h5,.inl ⟨rfl,h2,h3,h4⟩⟩
    |ret=>
     obtain⟨h1,h2,h3,h4,h5⟩:=fin Ix hIx (some .ret) hq
     exact⟨_,_,h1,h5,.inr ⟨rfl,h2,h3,h4⟩⟩
    |_=>exact hq.elim
   |_=>exact hp.elim
  ·rintro e W2 ⟨hv,h⟩
   refine⟨hv,?_⟩;rcases h with⟨xs,hSx,hi,hl,Ua⟩|⟨xs,hi,hl,Ua⟩
   ·have hend:=run_endLoop (P:=P) hl (by rw[hrec];simp)
    have hput:∀o',aS (bH nB) n0 W2 (W2.putObj l o'):=fun o'=>Zd o' hl trivial;exact⟨_,_,hend,hEl _ _ Ua,.inl ⟨by rw[hrec],xs,hS _ _ _ hSx (hput _),hI _ _ _ hi ((hput _).mono fun b o h=>.inr h)⟩⟩
   ·have hend:=run_endLoop (P:=P) hl (by rw[hrec];simp)
    have hput:∀o',aS (bH nB) n0 W2 (W2.putObj l o'):=fun o'=>Zd o' hl trivial;exact⟨_,_,hend,hEl _ _ Ua,.inr ⟨by rw[hrec],xs,hIx _ _ _ hi ((hput _).mono fun b o h=>.inr h)⟩⟩):p:=h
theorem Ck{P:Program}{α:Type}{n0 nB:Nat}{ps:Array Tmp}{assign body:Code}{fn:FuncId}{tmps:Array Value}{dfr l gf:Nat}{lb:Array Value}{w W1:World}
  {encs:α->Array Value}(hps:∀x,(encs x).size=ps.size){G:List α->α->World->Prop}{bA iA:Nat->Obj->Prop}{S:List α->World->Prop}(hseq:sN P n0 nB gf lb encs G bA iA S w)
  (hb1:BL w W1)(hL1:W1.heap[l]?=some (.loop (sO fn tmps ps assign body dfr .ready none)))(hlB:nB<=l)(hn:n0<=nB)(hiA:∀b o,iA b o->¬book o)(Vd:∀b o,bA b o->¬book o)
  (I Ix:List α->World->Prop)(hI:∀pre A B,I pre A->aS (fun b o=>iA b o\/bH nB b o) n0 A B->I pre B)(hIx:∀pre A B,Ix pre A->aS (fun b o=>iA b o\/bH nB b o) n0 A B->Ix pre B)
  (hS:∀xs A B,S xs A->aS (bH nB) n0 A B->S xs B)
  (E:World->Prop)(hE:∀(A:Nat->Obj->Prop) X Y,(∀b o,A b o->¬book o)->aS A n0 X Y->E X->E Y)(hEl:∀X o,E X->E (X.putObj l o))(h0:I [] W1)(hE0:E W1)
  (lm:∀pre x W,W.heap[l]?=some (.loop (sO fn tmps ps assign body dfr .ready none))->I pre W->G pre x W->assign.wpIn (Fence.wide.inRound l) 0 P (Exit.then (fun a₁ W1=>aS bA n0 W W1/\∀W2,aS (bH nB) n0 W1 W2->W2.heap.size=W1.heap.size->(∃r,W2.heap[l]?=some (.loop r))->
    body.wpIn (Fence.wide.inRound l) 0 P (QS bA n0 I Ix (pre++[x]) W2) a₁ W2) (fun _ _ _=>False))
   {tmps:=(ps.zip (encs x)).foldl (fun t (p,v)=>t.setIfInBounds p v) tmps,defers:=[]} W):
  Calls P gf (#[.func (.yield l) #[] #[]]++lb) W1 fun e W2=>(∃v,e=.returned v)/\∃jump W4,(Instr.endLoop l).run P W2=.ok jump W4/\E W4/\
   ((jump=none/\∃xs,S xs W4/\I xs W4)\/(jump=some .ret/\∃xs,Ix xs W4)):=by
 exact af9
theorem abm{p:Prop}(h:p:=by
  have hI1:I [] W1:=hI _ _ _ h0 zT78
  refine⟨w.heap.size+1,[{target:=.collected w.heap.size,args:=#[]}],W1,{target:=.fn (.func gf) lb,args:=#[.func (.yield (w.heap.size+1)) #[] #[]]},W1,gf,
   #[.func (.yield (w.heap.size+1)) #[] #[]]++lb,W1,?_,?_,fun _ _=>trivial,?_,fun h=>by simp[Fence.wide] at h,?_⟩
  ·rw[<-hW1];exact run_enterLoop_outer _ _ _ _ _
  ·simp only[resolve,hg]
   simp[go_sem]
  ·simp[invoke,go_sem,eg]
  ·rw[callsIn_wide]
   refine(Ck (l:=w.heap.size+1) hps hseq hb1 hL1 aC hn0 hiA Vd I Ix hI hIx hS (fun W=>W.heap[w.heap.size]?=some (.deferred (some []))) (fun A X Y hA ht h=>ht.2 _ _ h (fun h=>hA _ _ h trivial))
    (fun X o h=>(World.putObj_heap_other aC).trans h) hI1 hK1 (fun pre x W hl=>lm (w.heap.size+1) pre x W ⟨_,hl⟩)).mono ?_
   rintro e W2 ⟨⟨v,rfl⟩,jump,W4,hend,hE,h⟩;refine⟨jump,W4,hend,?_⟩;rcases h with⟨rfl,xs,h1,h2⟩|⟨rfl,xs,h1⟩
   ·exact hdone _ xs _ aH h1 h2 hE
   ·exact wpIn_ret (hstop _ xs _ aH h1 hE)):p:=h
theorem l7{P:Program}{α:Type}{n n0:Nat}{g:Operand}{ps:Array Tmp}{assign body:Code}{Q:Exit->Act->World->Prop}{a:Act}{w:World}
  {gf:Nat}{lb:Array Value}(hg:a.eval g=.func (.func gf) #[] lb)(eg:∀args w,(callFunc gf args).run P w=.ok (.enter gf args) w)
  {encs:α->Array Value}(hps:∀x,(encs x).size=ps.size){G:List α->α->World->Prop}{bA iA:Nat->Obj->Prop}{S:List α->World->Prop}(hseq:sN P n0 w.heap.size gf lb encs G bA iA S w)
  (hn0:n0<=w.heap.size)(hiA:∀b o,iA b o->¬book o)(Vd:∀b o,bA b o->¬book o)
  (I Ix:List α->World->Prop)(hI:∀pre A B,I pre A->aS (fun b o=>iA b o\/bH w.heap.size b o) n0 A B->I pre B)(hIx:∀pre A B,Ix pre A->aS (fun b o=>iA b o\/bH w.heap.size b o) n0 A B->Ix pre B)
  (hS:∀xs A B,S xs A->aS (bH w.heap.size) n0 A B->S xs B)(h0:I [] w)
  (lm:∀l pre x W,(∃r,W.heap[l]?=some (.loop r))->I pre W->G pre x W->assign.wpIn (Fence.wide.inRound l) 0 P (Exit.then (fun a₁ W1=>aS bA n0 W W1/\∀W2,aS (bH w.heap.size) n0 W1 W2->W2.heap.size=W1.heap.size->(∃r,W2.heap[l]?=some (.loop r))->
    body.wpIn (Fence.wide.inRound l) 0 P (QS bA n0 I Ix (pre++[x]) W2) a₁ W2) (fun _ _ _=>False))
   {tmps:=(ps.zip (encs x)).foldl (fun t (p,v)=>t.setIfInBounds p v) a.tmps,defers:=[]} W)
  (hdone:∀D xs W,w.heap.size<=D->S xs W->I xs W->W.heap[D]?=some (.deferred (some []))->Q .normal {a with defers:={target:=.collected D,args:=#[]}::a.defers} W)
  (hstop:∀D xs W,w.heap.size<=D->Ix xs W->W.heap[D]?=some (.deferred (some []))->Q .ret {a with defers:={target:=.collected D,args:=#[]}::a.defers} W):
  (Code.rangeFunc g ps assign body).wpIn Fence.wide n P Q a w:=by
 refine wpIn_rangeFunc ?_;intro fn hfn;obtain⟨W1,hW1⟩:∃W1,(w.alloc (.deferred (some []))).alloc (.loop (sO fn a.tmps ps assign body w.heap.size .ready none))=W1:=⟨_,rfl⟩
 have hL1:W1.heap[w.heap.size+1]?=some (.loop (sO fn a.tmps ps assign body w.heap.size .ready none)):=by
  rw[<-hW1];have:=JO (w.alloc (.deferred (some []))) (.loop (sO fn a.tmps ps assign body w.heap.size .ready none));rwa [World.size_alloc] at this
 have hK1:W1.heap[w.heap.size]?=some (.deferred (some [])):=by
  rw[<-hW1];exact(Below.heap_alloc _ _ _ aZ).trans (JO w _)
 have hb1:BL w W1:=by rw[<-hW1];exact((Below.refl _ w).alloc aH _).alloc aZ _
 exact abm
theorem gQ.rA{α:Type}{R:World->Value->α->Prop}{S:Nat->Prop}{w:World}{a:Option Addr}{n cap:Nat}{xs:List α}(h:gQ R S w (.slice a n cap) xs){j:Nat}(hj:j<xs.length):
  ∃u,R w u xs[j]/\∀X,aB S w X->X.cell? ⟨bD a,bJ a+j,none⟩=some u:=by
 obtain⟨a',cap',hv,h1,h2,h3,h4,h5⟩:=h;cases hv;obtain⟨u,hu,hr⟩:=h5 j hj;refine⟨u,hr,fun X hX=>?_⟩;have hlt:bD a<w.heap.size:=xN w ⟨bD a,bJ a+j,none⟩ hu;have:=hX (bD a) (h4 aC) hlt;unfold World.cell? at hu ⊢;simp only at hu ⊢;rw[this];exact hu
namespace Sub
def iU(s:S)(k:Nat):List (Nat×Nat):=(List.range k).flatMap fun j=>wC j (s.getD j [])
def mH(k:Nat)(l:List Bool)(i:Nat):List (Nat×Nat):=(List.range i).filterMap fun a=>if l.getD a false then some (k,a) else none
theorem Cl(s:S):iU s 0=[]:=rfl
theorem lu(s:S)(k:Nat):iU s (k+1)=iU s k++wC k (s.getD k []):=by simp[iU,List.range_succ]
theorem yH(s:S):iU s s.length=kept s:=rfl
theorem vm(k:Nat)(l:List Bool):mH k l 0=[]:=rfl
theorem nN(k:Nat)(l:List Bool)(i:Nat):mH k l (i+1)=mH k l i++if l.getD i false=true then [(k,i)] else []:=by
 unfold mH;rw[List.range_succ,List.filterMap_append];congr 1;rw[List.filterMap_cons,List.filterMap_nil];cases l.getD i false<;>rfl
theorem pT(k:Nat)(l:List Bool):mH k l l.length=wC k l:=rfl
theorem E4(k:Nat)(l:List Bool){i:Nat}:∀{n:Nat},i<=n->mH k l i<+:mH k l n
 |0,h=>by
  obtain rfl:i=0:=by omega
  exact List.prefix_refl _
 |n+1,h=>by
  by_cases e:i=n+1
  ·rw[e];exact List.prefix_refl _
  ·rw[nN]
   exact(E4 k l aC).trans (List.prefix_append _ _)
theorem E5(s:S){i:Nat}:∀{n:Nat},i<=n->iU s i<+:iU s n
 |0,h=>by
  obtain rfl:i=0:=by omega
  exact List.prefix_refl _
 |n+1,h=>by
  by_cases e:i=n+1
  ·rw[e];exact List.prefix_refl _
  ·rw[lu]
   exact(E5 s aC).trans (List.prefix_append _ _)
theorem Cm{s:S}{k i:Nat}(hk:k<s.length)(hi:i<=(s.getD k []).length):iU s k++mH k (s.getD k []) i<+:kept s:=by
 have h1:iU s (k+1)<+:kept s:=E5 s aC;rw[lu] at h1;refine List.IsPrefix.trans ?_ h1;rw[<-pT];exact(List.prefix_append_right_inj _).2 (E4 k _ hi)
end Sub
theorem abn{p:Prop}(h:p:=by
  have H2:=hid hj2
  clear ht2 hk2 hj2 Dm hyy HSU
  gi_wp2
  refine bodyPost_ret (results_none rfl _ _ _) rfl ?_
  exact⟨⟨_,rfl⟩,.inr ⟨_,H2.out⟩⟩):p:=h
theorem abo{p:Prop}(h:p:=by
  obtain rfl:s.length=k:=by omega
  have H2:=hid HR.out.2
  gi_wp2
  go_end0
  exact⟨⟨_,rfl⟩,.inl ⟨_,rfl,by rw[<-Sub.yH];exact H2.out⟩⟩):p:=h
theorem E6(s:Sub.S)(n0 nB b l:Nat)(v:Value)(S:Nat->Prop)(W0:World)(bA:Nat->Obj->Prop)(Kp:World->Prop)(hKp:∀X Y,Kp X->aS (fun b o=>bA b o\/bH nB b o) n0 X Y->Kp Y)
  (hK1:∀X,Kp X->X.heap[b]?=some (.cells #[v] 61 (0,0)))(hK2:∀X,Kp X->aB S W0 X)(hs:cQ S W0 v s)
  (J Jx:List (Nat×Nat)->World->Prop)(hJ:∀pre X Y,J pre X->aS (fun _ _=>False) n0 X Y->J pre Y)(W:World)
  (hY:∀pre (x:Nat×Nat) W1,J pre W1->pre++[x]<+:Sub.kept s->YieldAt Fence.wide 0 Tryz.prog l #[.agg #[.int .i64 (x.1:Int),.int .i64 (x.2:Int)]] W1 fun e W'=>
   aS (fun b o=>bA b o\/bH nB b o) n0 W1 W'/\((e=.returned (.bool true)/\J (pre++[x]) W')\/(e=.returned (.bool false)/\Jx (pre++[x]) W')))
  (hkp:Kp W)(h0:J [] W):
  Calls Tryz.prog 86 #[.func (.yield l) #[] #[],.pointer (some ⟨b,0,none⟩)] W fun e W'=>(∃v,e=.returned v)/\((∃xs,xs=Sub.kept s/\J xs W')\/∃xs,Jx xs W'):=by
 have c0:=(one_cell (hK1 W hkp)).1;obtain⟨a,cap,rfl,hok,hc,hm⟩:=hs.form;have HS:=hid hs;have HK0:=hid (And.intro hkp h0);have HY:=hid hY;have HDJ:=hid (fun pre X m (h:J pre X)=>hJ pre X (X.drewN m) h ((aS.refl _ _ _).drewN m));have HDK:=hid (fun X m (h:Kp X)=>hKp X (X.drewN m) h ((aS.refl _ _ _).drewN m));have vF:=hid hK2;have Du:=hid hKp;clear hY hkp h0 hK1 hK2 hs hKp hJ;rw[<-callsIn_wide (n:=1)];refine callsIn_of_wp Tryz.func86 rfl trivial ?_ rfl;simp only[Tryz.ntmps86,List.size_toArray,List.length_cons,List.length_nil,Nat.reduceAdd,Nat.reduceSub,Array.replicate_succ,Array.replicate_zero,List.push_toArray,List.append_toArray,List.nil_append,List.cons_append];gi_wp2;clear c0;gi_loopw [9] (fun c wr=>∃k:Nat,k<=s.length/\c=.int .i64 k/\Hid (Kp wr/\J (Sub.iU s k) wr)) (fun c _=>s.length-(intOf c).toNat);case atStart=>exact⟨0,by omega,rfl,hid ⟨HK0.out.1,by rw[Sub.Cl];exact HK0.out.2⟩⟩
 case round=>
  obtain⟨k,hk,rfl,HR⟩:=hrel;by_cases hlt:k<s.length
  ·obtain⟨u,hu1,lF⟩:=HS.out.rA hlt
   have x0:=lF wr (vF.out wr HR.out.1);obtain⟨a1,c1,rfl,adN,hc1,hm1⟩:=hu1.form;have HB:=hid hu1;have HG:Hid (s.getD k []=s[k]):=hid (Sub.aX hlt);have hk0:(0:Int)<=(k:Int):=by omega
   have hk1:(k:Int)<(s.length:Int):=by omega
   clear hu1 lF;obtain⟨nr,zQ⟩:=aV (s[k].length);rw[<-zQ] at HB adN hc1 x0;have Qa:=hid zQ;clear zQ;gi_wp2;clear x0;generalize Ry:wr=Wb at*;gi_loopw [16] (fun c wr=>∃i:Nat,i<=nr/\c=.int .i64 i/\Hid (Kp wr/\J (Sub.iU s k++Sub.mH k s[k] i) wr)) (fun c _=>nr-(intOf c).toNat);case atStart=>exact⟨0,by omega,rfl,hid ⟨HR.out.1,by rw[Sub.vm,List.append_nil];exact HR.out.2⟩⟩
   case round=>
    obtain⟨i,hi,rfl,LV⟩:=hrel;by_cases hit:i<nr
    ·have hi0:(0:Int)<=(i:Int):=by omega
     have hi1:(i:Int)<(nr:Int):=by omega
     have hik:i<s[k].length:=by have:=Qa.out;omega
     obtain⟨ub,Ze,lF⟩:=HB.out.rA hik;obtain rfl:ub=_:=Ze;have x0:=lF wr (vF.out wr LV.out.1);have hsu:=Sub.nN k s[k] i;rw[Sub.aX hik] at hsu;have hpre:=Sub.Cm (s:=s) (k:=k) (i:=i+1) hlt (by rw[HG.out];omega);rw[HG.out] at hpre;clear lF;generalize s[k][i]=kp at*;cases kp with
     |true=>
      rw[if_pos rfl] at hsu
      rw[hsu,<-List.append_assoc] at hpre
      obtain⟨fn,tmps,assign,body,hyy,hR⟩:=YieldAt.oV (m':=0) rfl (HY.out _ (k,i) wr LV.out.2 hpre)
      have Dm:=hid hR
      have HSU:=hid hsu
      clear hsu hpre hR
      gi_wp2
      refine(RoundIn.oV rfl Dm.out).mono ?_
      rintro e W2 ⟨ht2,hres⟩
      have hk2:=Du.out _ _ LV.out.1 ht2
      rw[List.append_assoc,<-HSU.out] at hres
      rcases hres with⟨rfl,hj2⟩|⟨rfl,hj2⟩
      ·have H2:=hid (And.intro hk2 hj2)
       clear ht2 hk2 hj2 Dm hyy HSU;gi_wp2;go_roundw;case rel=>exact⟨i+1,by omega,by go_num,H2⟩
       simp[intOf];omega
      ·exact abn
     |false=>
      rw[if_neg aZ] at hsu
      have H2:Hid (Kp wr/\J (Sub.iU s k++Sub.mH k s[k] (i+1)) wr):=hid ⟨LV.out.1,by rw[hsu,List.append_nil];exact LV.out.2⟩
      clear hsu hpre
      gi_wp2
      refine⟨by simp,?_⟩
      gi_wp2
      go_roundw
      case rel=>exact⟨i+1,by omega,by go_num,H2⟩
      simp[intOf];omega
    ·obtain rfl:nr=i:=by omega
     have H2:Hid (Kp wr/\J (Sub.iU s (k+1)) wr):=hid ⟨LV.out.1,by
      have:=LV.out.2
      rw[Sub.lu,HG.out,<-Sub.pT,<-Qa.out]
      exact this⟩
     gi_wp2;go_roundw;case rel=>exact⟨k+1,by omega,by go_num,H2⟩
     simp[intOf];omega
  ·exact abo
theorem sP(a:Option Addr)(n c:Nat)(w:World):Calls Tryz.prog 58 #[.slice a n c] w fun e w'=>e=.returned (.func (.func 86) #[] #[.pointer (some ⟨w.heap.size,0,none⟩)])/\w'=w.alloc (.cells #[.slice a n c] 61):=by
 go_enter Tryz.func58,Tryz.ntmps58;go_wp2;go_ret;exact⟨rfl,rfl⟩
theorem abp{p:Prop}(h:p:=by
  intro l J Jx W hbW hJ hJx hY h0
  refine E6 s n0 nB b l v S w bA (fun X=>aS (fun b o=>bA b o\/bH nB b o) n0 w X) (fun X Y h1 h2=>h1.trans h2) (fun X h=>h.2 _ _ hb ?_) hk hs J Jx hJ W hY (aS.aQ hbW hn0) h0
  rintro (h|h)
  ·exact Vd _ h
  ·simp[bH,book] at h):p:=h
theorem pU(s:Sub.S)(n0 nB b:Nat)(v:Value)(S:Nat->Prop)(bA:Nat->Obj->Prop)(w:World)(hn0:n0<=w.heap.size)(hs:cQ S w v s)
  (hb:w.heap[b]?=some (.cells #[v] 61 (0,0)))(Vd:∀o,¬bA b o)(hk:∀X,aS (fun b o=>bA b o\/bH nB b o) n0 w X->aB S w X):
  sN (α:=Nat×Nat) Tryz.prog n0 nB 86 #[.pointer (some ⟨b,0,none⟩)] (fun x=> #[.agg #[.int .i64 (x.1:Int),.int .i64 (x.2:Int)]]) (fun pre x _=>pre++[x]<+:Sub.kept s) bA (fun _ _=>False) (fun xs _=>xs=Sub.kept s) w:=by
 exact abp
theorem pV(b o j:Nat):(⟨b,o,none⟩:Addr).add j=⟨b,o+j,none⟩:=by
 unfold Addr.add;split
 ·rename_i h;subst h;rfl
 ·rfl
theorem Qb(n:Nat)(hn:n<=1000000)(w:World):Calls Tryz.prog 81 #[.int .u64 1,.int .u64 n] w fun e w'=>e=.returned (.tuple #[.int .u64 0,.int .u64 n])/\w=w':=by
 have hm1:bits .and .u64 1 4294967295=1:=by decide
 have hm0:bits .and .u64 0 4294967295=0:=by decide
 have hmn:bits .and .u64 (n:Int) 4294967295=n:=by
  have h:=bits_and_u64_nat n 4294967295 aC aC;have e:n&&&4294967295=n % 4294967296:=Nat.and_two_pow_sub_one_eq_mod n 32;rw[e,Nat.mod_eq_of_lt aC] at h;exact h
 have hd:(n:Int) / 4294967296=0:=by omega
 have hw:IntKind.u64.wrap (n:Int)=n:=by rw[IntKind.wrap_u64];omega
 have hw0:IntKind.u64.wrap 0=0:=by decide
 go_enter Tryz.func81,Tryz.ntmps81;go_wp2;go_ret2;exact⟨rfl,rfl⟩
theorem Cn(n:Nat)(hn:n<=1000000)(w:World):Calls Tryz.prog 51 #[.int .u64 1,.int .u64 n] w fun e w'=>e=.returned (.tuple #[.int .u64 0,.int .u64 n])/\w=w':=by
 go_enter Tryz.func51,Tryz.ntmps51;go_wp2_with (go_at_call 81;refine(Qb n hn _).mono ?_;rintro e w' ⟨rfl,rfl⟩);go_ret2;exact⟨rfl,rfl⟩
def mQ(n m:Nat):List Bool:=List.replicate m true++List.replicate (n-m) false
theorem wY(n m:Nat)(h:m<=n):(mQ n m).length=n:=by simp[mQ];omega
theorem zT(n m c:Nat)(_h:m+c<=n):splice ((mQ n m).map Value.bool) m ((List.replicate c true).map Value.bool)=(mQ n (m+c)).map Value.bool:=by
 have e1:(mQ n m).take m=List.replicate m true:=by unfold mQ;simp
 have e2:(mQ n m).drop (m+c)=List.replicate (n-(m+c)) false:=by
  unfold mQ;rw[List.drop_append,List.drop_of_length_le aZ];simp;omega
 unfold splice;rw[<-List.map_take,FD,List.length_replicate,<-List.map_drop,<-List.map_append,<-List.map_append,e1,e2];congr 1;unfold mQ;rw[<-List.append_assoc,List.replicate_append_replicate]
theorem Zf(n m i:Nat)(h:i<m)(hm:m<=n):(mQ n m)[i]'(by rw[wY n m hm];omega)=true:=by
 unfold mQ;rw[RW uO];simp
theorem abq{p:Prop}(h:p:=by
  clear hg4 hB4 FY HM Qc Qd HN XF E7
  go_wp2
  refine rO ⟨eO.of trivial,?_⟩
  refine ko ?_
  go_wp2
  go_roundw
  case rel=>exact⟨m+c,by omega,by omega,by go_num,HI4⟩
  simp[intOf]
  omega):p:=h
theorem LW(n:Nat)(hn:n<=1000000)(b:Nat)(w:World)(hc:w.cell? ⟨b,0,none⟩=some (.bool true)):
  Calls Tryz.prog 47 #[.slice (some ⟨b,0,none⟩) 1 1,.int .i64 n] w fun e w'=>∃x,e=.returned x/\jx (w.heap.size<=·) w' x (List.replicate n true)/\BL w w':=by
 have hmk:=fun W=>KJ (P:=Tryz.prog) (t:=129) (e:=4) (b:=1) (by kernel_rfl) (by kernel_rfl) aC n aC W;have HMul:=hid (fun W=>Cn n hn W);have hwn:IntKind.u64.wrap (n:Int)=n:=by rw[IntKind.wrap_u64];omega
 have hn1:(0:Int)<=n:=by omega
 have W9:(n:Int)<=1000000:=by omega
 obtain⟨c0,hc0⟩:=aV (Nat.min 1 n);have hc1:c0<=1:=by rw[hc0];exact Nat.min_le_left _ _
 have hc2:c0<=n:=by rw[hc0];exact Nat.min_le_right _ _
 have hc3:0<n->1<=c0:=fun h=>by rw[hc0];exact Nat.le_min.2 ⟨aH,h⟩
 obtain⟨cs,hcs⟩:=aV ((List.replicate c0 true).map Value.bool);have hcl:cs.length=c0:=by rw[hcs];simp
 have Ve:Hid (splice ((mQ n 0).map Value.bool) 0 cs=(mQ n c0).map Value.bool):=hid (by rw[hcs];have:=zT n 0 c0 aC;rwa [Nat.zero_add] at this)
 have HA0:Hid (∀j v,cs[j]?=some v->j=0/\Value.bool true=v):=hid (fun j v hj=>by
  have h1:=(List.getElem?_eq_some_iff.1 hj).1;rw[hcs,List.getElem?_map,List.getElem?_replicate,if_pos aC] at hj;exact⟨by omega,by simpa using hj⟩)
 have abr:Hid (∀v∈cs,v.oneCell'=true):=hid (by rw[hcs];simp[Value.oneCell']);have Zg:=hid hcl;have Xl:=hid hc0;clear hcs hcl hc0;have HG0:=hid (aP (k:=w.heap.size) w (.cells ((List.replicate n (Value.bool false)).toArray) 4) rfl);have hcW:(w.alloc (.cells ((List.replicate n (Value.bool false)).toArray) 4)).cell? ⟨b,0,none⟩=some (.bool true):=cell_later (ay.alloc aH _) hc;have HCW:=hid hcW;have hb0:BL w (w.alloc (.cells ((List.replicate n (Value.bool false)).toArray) 4)):=ay.alloc aH _;have HB0:=hid hb0;have hz:(mQ n 0).map Value.bool=(List.replicate n false).map Value.bool:=by simp[mQ]
 have HZ:Hid ((List.replicate n (Value.bool false)).toArray=((mQ n 0).map Value.bool).toArray):=hid (by rw[hz,List.map_replicate]);clear hcW hb0 hc hz;go_enter Tryz.func47,Tryz.ntmps47;have d1:decide ((n:Int)<0)=false:=decide_eq_false aC;have d2:decide (9223372036854775807<(n:Int))=false:=decide_eq_false aC;have DQ:Hid ((w.alloc (.cells ((List.replicate n (Value.bool false)).toArray) 4)).heap[w.heap.size]?=some (.cells ((mQ n 0).map Value.bool).toArray 4 (0,0))):=hid (by rw[HG0.out,HZ.out])
 go_wp2_with (first
  |(go_at_call 51;refine(HMul.out _).mono ?_;rintro e w' ⟨rfl,rfl⟩)
  |(refine wpList_copy_splice (o:=⟨some 33,_,_,_,_,_⟩) rfl (.tmp 31) (.tmp 32) 129 129 rfl 4 (by kernel_rfl) (by kernel_rfl) (some ⟨w.heap.size,0,none⟩) (some ⟨b,0,none⟩) n n 1 1 rfl rfl w.heap.size 0 ((mQ n 0).map Value.bool) 4 DQ.out cs (by rw[Zg.out,Xl.out]) (fun _=>⟨rfl,_,rfl,fun j v hj=>by
     obtain⟨rfl,rfl⟩:=HA0.out j v hj
     exact HCW.out⟩) (by rw[FD,wY n 0 (Nat.zero_le _),Zg.out];omega) abr.out w.heap.size w HB0.out aH ?_))
 intro w2 HG2 Ah;have hg2:=HG2.out;rw[Ve.out] at hg2;have E7:(cs.length:Int)=(c0:Int):=by rw[Zg.out]
 rw[E7];have HI:=hid (And.intro hg2 Ah);clear hg2 Ah HG2 hmk HMul Ve HA0 abr Zg Xl E7;go_wp2;go_loopw [8] (fun c wr=>∃m:Nat,(m<n->1<=m)/\m<=n/\c=.int .i64 m/\Hid (wr.heap[w.heap.size]?=some (.cells ((mQ n m).map Value.bool).toArray 4 (0,0))/\BL w wr)) (fun c _=>n-(intOf c).toNat);case atStart=>exact⟨c0,fun h=>hc3 aC,hc2,rfl,HI⟩
 case round=>
  obtain⟨m,hm1,hm2,rfl,HM⟩:=hrel;by_cases hlt:m<n
  ·have hlt':(m:Int)<n:=by omega
   have hm0:(0:Int)<=m:=by omega
   obtain⟨c,hc⟩:=aV (min (n-m) m);obtain⟨cs,hcs⟩:=aV ((List.replicate c true).map Value.bool);have hcl:cs.length=c:=by rw[hcs];simp
   have HN:Hid (splice ((mQ n m).map Value.bool) m cs=(mQ n (m+c)).map Value.bool):=hid (by rw[hcs];exact zT n m c aC)
   have Qc:Hid (∀j v,cs[j]?=some v->wr.cell? ((⟨w.heap.size,0,none⟩:Addr).add j)=some v):=hid (fun j v hj=>by
    rw[hcs,List.getElem?_map,List.getElem?_replicate] at hj
    have hjc:j<c:=by
     by_cases h:j<c
     ·exact h
     ·rw[if_neg h] at hj;simp at hj
    rw[if_pos hjc] at hj;have hv:Value.bool true=v:=by simpa using hj
    rw[<-hv,pV,cell_of_row _ _ _ _ _ (0,0) HM.out.1];have hl:=wY n m hm2;have h1:=Zf n m j aC hm2;simp only[Nat.zero_add,List.getElem?_toArray,List.getElem?_map];rw[kK aC,h1];rfl)
   have hone:∀v∈cs,v.oneCell'=true:=by rw[hcs];simp[Value.oneCell']
   have Qd:=hid hone;have XF:=hid hcl;have Xd:=hid hc;have hc1:m+c<=n:=by omega
   have hc2:1<=c:=by omega
   clear hcs hcl hone hc;go_wp2;refine fU 8 [(true,0),(true,1),(true,2),(true,3),(true,4),(true,5),(true,6),(false,7)] (fun _=>True) lN (by kernel_rfl) trivial ?_;intro hne;refine jc 7 qg ?_;simp only[List.take_succ_cons,List.take_zero];repeat (go_big_quiet_step (fail))
   refine fS ?_;refine dW rfl ?_
   refine wpList_copy_splice rfl (.tmp 41) (.tmp 44) 129 129 rfl 4 (by kernel_rfl) (by kernel_rfl) (some ⟨w.heap.size,m,none⟩) (some ⟨w.heap.size,0,none⟩) (n-m) (n-m) m n rfl rfl w.heap.size m ((mQ n m).map Value.bool) 4 HM.out.1 cs (by rw[XF.out,Xd.out];exact Nat.min_comm _ _)
    (fun _=>⟨rfl,_,rfl,fun j v hj=>Qc.out j v hj⟩) (by rw[FD,wY n m hm2,XF.out];exact hc1) Qd.out w.heap.size w (aG HM.out.2 1) aH ?_
   intro w4 FY hB4;have hg4:=FY.out;rw[HN.out] at hg4;have HI4:=hid (And.intro hg4 hB4);have E7:goInt cs.length=.int .i64 (c:Int):=by rw[XF.out];rfl
   rw[E7];exact abq
  ·obtain rfl:m=n:=by omega
   have hfin:(mQ m m).map Value.bool=(List.replicate m true).map Value.bool:=by simp[mQ]
   have h1:=HM.out.1;rw[hfin] at h1;have hB:=HM.out.2
   have HR:Hid (jx (w.heap.size<=·) wr (.slice (some ⟨w.heap.size,0,none⟩) m m) (List.replicate m true)):=hid ⟨by
    refine⟨by simp,.inr ⟨w.heap.size,m,_,by simp,Nat.zero_le _,h1,?_,?_,?_,?_⟩⟩
    ·simp
    ·unfold maxLen;omega
    ·simp
    ·simp,fun b' hb'=>by simp[Value.ownBlock] at hb';omega⟩
   have HB:=hid hB;clear hfin h1 hB HM;go_wp2;go_ret;exact⟨_,rfl,HR.out,HB.out⟩
theorem yI(W:ah.cG)(hl:W.length<=1000)(hw:∀r∈W,r.length<=1000000)(v:Value)(T:Nat->Prop)(w:World)(hv:cZ T w v W):
  Calls Tryz.prog 21 #[v] w fun e w'=>∃g,e=.returned (.slice (some ⟨g,0,none⟩) W.length W.length)/\mz (w.heap.size<=·) w' (.slice (some ⟨g,0,none⟩) W.length W.length) (kV W)/\BL w w':=by
 obtain⟨wU,cs,rfl,hss, -, -⟩:=hv.form;have HV:=hid hv;have HW:=hid hw;clear hv hw;have hmk:=fun X=>tG (P:=Tryz.prog) (t:=61) (e:=129) (b:=24) (by kernel_rfl) (by kernel_rfl) aC W.length aC X;obtain⟨n,hn⟩:=aV W.length;rw[<-hn] at hss hmk hl ⊢;have HN:=hid hn;clear hn;go_enter Tryz.func21,Tryz.ntmps21;go_wp2;clear hmk;obtain⟨g0,hg0⟩:=aV w.heap.size;have HO0:Hid (mz (w.heap.size<=·) (w.alloc (.cells (iw n) 129)) (.slice (some ⟨g0,0,none⟩) n n) (List.replicate n [])):=hid (by rw[hg0];exact E1 w _ aC);rw[<-hg0];clear hg0;go_loopw [11] (fun kk wr=>∃(k:Nat) (xs:Sub.S),k<=n/\kk=.int .i64 k/\Hid (xs.length=n)/\Hid (∀j,j<k->xs[j]?=(kV W)[j]?)/\Hid (mz (w.heap.size<=·) wr (.slice (some ⟨g0,0,none⟩) n n) xs)/\Hid (BL w wr)) (fun kk _=>n-(intOf kk).toNat);case atStart=>exact⟨0,List.replicate n [],Nat.zero_le _,rfl,hid aZ,hid (fun j h=>absurd h aC),HO0,hid (ay.alloc aH _)⟩
 case round=>
  obtain⟨k,xs,hk,rfl,HL,HX,HO,HB⟩:=hrel;obtain⟨wo,rfl⟩:=aV (wr:World);by_cases hlt:k<n
  ·have hk0:(0:Int)<=k:=by omega
   have hk1:(k:Int)<n:=by omega
   have hks:k<W.length:=by rw[<-HN.out];exact hlt
   have hkx:k<xs.length:=by rw[HL.out];exact hlt
   obtain⟨u,hu,hz,hr⟩:=gQ.at (by rw[HN.out];exact HV.out.keep (aB.below HB.out):cZ T wo (.slice wU n cs) W) hks;obtain⟨ar,cr,rfl, -, -, -⟩:=hr.form;obtain⟨nr,zQ⟩:=aV (W[k].length);have hn6:nr<=1000000:=by rw[zQ];exact HW.out _ (gY hks)
   rw[<-zQ] at hu;have HSk:Hid ((kV W)[k]?=some (List.replicate nr true)):=hid (by unfold kV;rw[List.getElem?_map,kK hks,zQ];rfl);clear zQ;obtain⟨w1,hw1⟩:=aV (wo.alloc (.cells #[.bool true] 4));have hb1:BL wo w1:=by rw[hw1];exact ay.alloc aH _
   have HCl:=hid (LW nr hn6 wo.heap.size w1 (by rw[hw1];exact(one_cell (aP _ _ rfl)).1));have bf:=hid hb1;have HW1:=hid hw1;clear hw1 hb1;have h1:=HO.out;rw[show (Value.slice (some ⟨g0,0,none⟩) n n)=.slice (some ⟨g0,0,none⟩) xs.length n by rw[HL.out]] at h1;obtain⟨g,Yg,uu,TT,e1,e2,e3,O1,hcg,hfg,GD,Nh, -,hback⟩:=iM.borrow fN h1 k hkx
   have hgg:g0=g:=by
    exact Ic
   subst hgg;have Rl:=hid (fun w2 u'=>hback w2 u' (List.replicate nr true));have TD:=hid Nh;have HSg:=hid O1;clear e1 e2 e3 GD Nh hback hcg hfg h1 hr O1;generalize hrr:List.replicate nr true=r at*;have hrl:r.length=nr:=by rw[<-hrr];simp
   have HRl:=hid hrl;clear hrr hrl;go_wp2_with fail;rw[<-HW1.out];refine HCl.out.mono ?_;rintro e w2 ⟨x,rfl,hx,hb⟩;obtain⟨ax,cx,rfl, -, -, -⟩:=(jx.sl hx).form;have hb2:BL wo w2:=cO bf.out hb;have hz1:=bf.out.size;obtain⟨k1,k2,k3,k4⟩:=Rl.out w2 (.slice ax r.length cx) (Turns.aQ hb2) (fN.mono hx (fun b _ (hb:w1.heap.size<=b)=>.inr (show wo.heap.size<=b by omega)))
   have uD:Hid (mz (w.heap.size<=·) (w2.setCell ⟨g0,k,none⟩ (.slice ax r.length cx)) (.slice (some ⟨g0,0,none⟩) n n) (xs.set k r)):=hid (by
    have:=dP.mono k3 (fun b _ hb=>gX HB.out.size b hb)
    rw[HL.out] at this
    exact this)
   have Bv:Hid (BL w (w2.setCell ⟨g0,k,none⟩ (.slice ax r.length cx))):=hid (HB.out.trans (k4.below HB.out.size (fun b hb=>by
    rcases hb with hb|hb
    ·exact(TD.out b hb).1
    ·rw[hb];exact HSg.out)))
   have HX9:Hid (∀j,j<k+1->(xs.set k r)[j]?=(kV W)[j]?):=hid (fun j hj=>by
    by_cases e:j=k
    ·subst e;rw[List.getElem?_set_self aC,HSk.out]
    ·rw[List.getElem?_set_ne aC];exact HX.out j aC)
   have EY:Hid ((xs.set k r).length=n):=hid (by rw[List.length_set];exact HL.out);have acO:dI (some ⟨g0,0,none⟩) n:=fun _=>⟨_,_,rfl⟩;clear k3 k4 hx hb hb2 Rl HSk HX hkx;go_wp2;go_roundw;case rel=>exact⟨k+1,xs.set k r,by omega,by go_num,EY,HX9,uD,Bv⟩
   simp[intOf];omega
  ·obtain rfl:n=k:=by omega
   have HE:Hid (xs=kV W):=hid (List.ext_getElem? (fun j=>by
    by_cases hj:j<n
    ·exact HX.out j hj
    ·rw[List.getElem?_eq_none (by rw[HL.out];omega),List.getElem?_eq_none (by simp only[kV,FD];rw[<-HN.out];omega)]))
   go_wp2;go_ret;exact⟨g0,rfl,by rw[<-HE.out];exact HO.out,HB.out⟩
theorem iI{W:ah.cG}{k:Nat}(h:k<W.length):W[k].length<=ah.total W:=by
 have h1:=Bz W (k+1);rw[Gu h] at h1;simp only[ah.total,List.map_append,List.sum_append,List.map_cons,List.map_nil,List.sum_cons,List.sum_nil] at h1 ⊢;omega
theorem wZ(W:ah.cG)(u:Int):ah.fW W u<=ah.total W:=by
 unfold ah.fW;by_cases h:u.toNat<W.length
 ·rw[Sub.aX h];exact iI h
 ·rw[Sub.iQ aC];exact Nat.zero_le _
theorem Ga{W:ah.cG}{k i j:Nat}(hk:k<W.length)(hi:i<W[k].length)(hj:j<W[k][i].length):aR.nV W k i j=W[k][i][j]:=by
 unfold aR.nV;rw[Sub.aX hk,Sub.aX hi,Sub.aX hj]
theorem uK.aga{S S':Nat->Prop}{B:Nat}{e:TypeId}{w:World}{v:Value}{xs:List aR.Ref}(h:bC 4 PU S B e w v xs):bC 4 PU S' B e w v xs:=by
 obtain⟨jB,h1,h2,h3,h4⟩:=h;refine⟨jB,h1,h2,h3,fun j a b=>?_⟩;have h5:=h4 j a b;unfold PU at h5 ⊢;exact h5
theorem abt{p:Prop}(h:p:=by
  refine eB ?_
  refine aM rfl ?_
  go_wp2_with fail
  refine aD (fun V=>Turns (·=w5.heap.size) wr V) (fun _ h=>h) GF.out ?_
  refine eB ?_
  refine aT ?_
  try simp only[iW,iX]
  clear hqa Jd hqc hqd
  go_wp2
  go_roundw
  case rel=>exact⟨i+1,by omega,by go_num,Ba,Gb⟩
  simp[intOf]
  omega):p:=h
theorem yJ(x:ah.bF)(W:ah.cG)(s:Sub.S)(hfw:aR.sF x W)(hsh:W.map List.length=s.map List.length)(v u t:Value)(S T U:Nat->Prop)(w:World)(hv:fA S w v x)(hW:cZ T w u W)(hs:cQ U w t s):
  Calls Tryz.prog 45 #[v,u,t] w fun e w'=>∃B0 B1 B2,e=.returned (.pointer (some ⟨B2+1,0,none⟩))/\StV B0 B1 B2 512 (aR.cN x) W s w'/\w.heap.size<=B0/\BL w w':=by
 obtain⟨ak,ck,al,cl,ar,cr,rfl, -⟩:=hv.form;have Vf:=cZ.mono (S':=(·<w.heap.size)) hW (fun b hb _=>hb);have hlen:=hfw.len;have hkn:=hfw.ai;have hsl:s.length=W.length:=by simpa using (congrArg List.length hsh).symm
 have LX:Hid (∀k (h1:k<W.length) (h2:k<s.length),s[k].length=W[k].length):=hid (fun k h1 h2=>by
  have:=congrArg (fun l=>l[k]?) hsh;have e:W[k].length=s[k].length:=by simpa [h1,h2] using this
  exact e.symm)
 have Qe:Hid (∀k (h1:k<W.length),W[k].length<=512):=hid (fun k h1=>by
  have h2:=ah.pI h1 [];have h3:=hfw.tot;have h4:W[k].length<=ah.total W:=iI h1;omega)
 obtain⟨w1,hw1⟩:=aV (di w x.aI (.slice ak x.ai.length ck) (.slice al x.aN.length cl) (.slice ar x.aO.length cr));have bf:=r9 hw1;have hX1:=aW (show w1.heap[w.heap.size]?=some (.cells #[.int .i64 x.aI,.slice ak x.ai.length ck,.slice al x.aN.length cl,.slice ar x.aO.length cr] 27 (0,0)) by rw[hw1];exact fE ..);unfold di at hw1;have HW1:=hid hw1;clear hw1;obtain⟨⟨y0,y1,y2,y3⟩, -⟩:=hX1
 have Xj:=hid (Cb x hfw.ai (fun k hk=>by
  obtain⟨j,hj,rfl⟩:=List.getElem_of_mem hk;rw[<-gm hj];exact hfw.aA j) _ S w1 (hv.keep (aB.below bf.out)))
 have HCp:=hid (fun(X:World) (hX:BL w X)=>zR s aC (fun r hr=>by
  obtain⟨j,hj,rfl⟩:=List.getElem_of_mem hr;have:=LX.out j aC hj;have:=Qe.out j aC;omega) t U X (hs.keep (aB.below hX)))
 obtain⟨aw,cw,rfl,hsw, -, -⟩:=Vf.form;obtain⟨wU,cs,rfl,hss, -, -⟩:=hs.form;have Ak:=hid hlen;have NP:=hid hsl;have Ve:=hid (cQ.mono (S':=(·<w.heap.size)) hs (fun b hb _=>hb));clear hlen hsl hsh hW hv hs;have hmm:= @run_makeMap Tryz.prog;go_enter Tryz.func45,Tryz.ntmps45;go_upto_region 1 with fail;rw[<-HW1.out];go_wp2_with fail;refine Xj.out.mono ?_;rintro e w2 ⟨aq,cq,rs,rfl,hr60,Qf,hrf,hb2⟩;have LY:=(uK.aga (S':=fun _=>False) hrf).sl dN (T:=fun b=>w1.heap.size<=b/\b<w2.heap.size) (fun b _ h=>h.elim) (fun b hb=>hrf.lt b hb);have eC:Hid (BL w1 w2):=hid hb2;have bK:=aJ bf hb2;have hsq:dI aq rs.length:=by obtain⟨_,_,e,g, -⟩:=LY.form;cases e;exact g
 have DK:=hid Qf;clear hrf hb2 Qf y0 y1 y2 y3;go_wp2_with fail;refine(HCp.out w2 bK.out).mono ?_;rintro e w3 ⟨gs,rfl,hsf,hb3⟩;have HSub:=hid (dP.mono (S':=fun b=>w2.heap.size<=b/\b<w3.heap.size) hsf (fun b hlt hb=>⟨hb,hlt⟩));have HRv:=hid (dO.keep dN LY (aB.below hb3));have bZ:=aJ bK hb3;have HWv:=hid (Vf.keep (aB.below bZ.out));have hz23:=hb3.size;have agb:=eC.out.size;have hz01:=bf.out.size;clear hsf LY Vf hb3;obtain⟨w4,hw4⟩:=aV ((w3.alloc (.map #[] 0)).alloc (.cells #[.slice aq rs.length cq,.slice aw W.length cw,.slice (some ⟨gs,0,none⟩) s.length s.length,.map (some w3.heap.size)] 171));have jM:Hid (Below w3.heap.size w3 w4):=hid (by rw[hw4];exact(ay.alloc aH _).alloc aZ _);have HX4:Hid (w4.heap[w3.heap.size+1]?=some (.cells #[.slice aq rs.length cq,.slice aw W.length cw,.slice (some ⟨gs,0,none⟩) s.length s.length,.map (some w3.heap.size)] 171 (0,0))):=hid (by rw[hw4];exact aP _ _ aZ)
 have Y0:Hid (nL w4 w3.heap.size []):=hid (by rw[hw4];exact(nL.made w3).keep (by
  have:w3.heap.size<(w3.alloc (.map #[] 0)).heap.size:=by simp
  exact(ay.alloc aH _).block _ this))
 have Dq:=hid hw4;clear hw4;obtain⟨⟨x0,x1,x2,x3⟩, -⟩:=aW HX4.out;go_upto_region 2 with fail;rw[<-Dq.out];go_wp2;clear x0 x1 x2 x3;go_loopw [25] (fun rr wr=>∃(r:Nat) (bs:List Nat),r<=rs.length/\rr=.int .i64 r/\Hid (bs.length=r)/\Hid (nL wr w3.heap.size bs)/\Hid bs.Nodup/\Hid (∀b∈bs,w3.heap.size+2<=b)/\Hid (∀k (h:k<bs.length) (h2:k<rs.length),dK wr bs[k] 512 (jY W s rs[k]))/\Hid (wr.heap[w3.heap.size+1]?=some (.cells #[.slice aq rs.length cq,.slice aw W.length cw,.slice (some ⟨gs,0,none⟩) s.length s.length,.map (some w3.heap.size)] 171 (0,0)))/\Hid (BL w3 wr)) (fun rr _=>rs.length-(intOf rr).toNat);case atStart=>exact⟨0,[],Nat.zero_le _,rfl,hid rfl,Y0,hid List.nodup_nil,hid (fun _ h=>absurd h aZ),hid (fun k h=>absurd h aZ),HX4,jM⟩
 case round=>
  obtain⟨r,bs,hr,rfl,JQ,HO,HNd,K9,Ro,Xm,nj⟩:=hrel;by_cases hlt:r<rs.length
  ·have hr0:(0:Int)<=(r:Int):=by omega
   have hr1:(r:Int)<(rs.length:Int):=by omega
   have qC:=aJ bZ nj.out;obtain⟨-,us,Nf,hcs,Y9⟩:=dO.at (dO.keep dN HRv.out (aB.aQ nj.out (fun b hb=>by have h:=hb.2;omega))) hlt;obtain rfl:us=_:=Y9;have y0:wr.cell? ⟨bD aq,bJ aq+r*4,none⟩=some (.int .i64 (rs[r].kind:Int)):=hcs 0 _ rfl;have y1:wr.cell? ⟨bD aq,bJ aq+r*4+1,none⟩=some (.int .i64 (rs[r].field:Int)):=hcs 1 _ rfl;have y2:wr.cell? ⟨bD aq,bJ aq+r*4+2,none⟩=some (.int .i64 rs[r].up):=hcs 2 _ rfl;have y3:wr.cell? ⟨bD aq,bJ aq+r*4+3,none⟩=some (.int .i64 rs[r].least):=hcs 3 _ rfl;have hmem:rs[r]∈aR.cN x:=by rw[<-DK.out];exact gY hlt
   obtain⟨q1,q2,q3,q4,q5,q6, -, -⟩:=hfw.refs _ hmem;have xS:=hid (hfw.lead _ hmem);have Ky:Hid (rs[r]?=some rs[r]):=hid (kK hlt);clear hcs Nf hmem;have agc:=hid (fun(X:World) (hX:∀k (h:k<bs.length),X.heap[bs[k]]?=wr.heap[bs[k]]?) k (h:k<bs.length) (h2:k<rs.length)=>(Ro.out k h h2).keep (hX k h));generalize HRq:rs[r]=rf at*;obtain⟨rk,rj,ru,rl⟩:=rf;simp only at y0 y1 y2 y3 q1 q2 q3 q4 q5 q6 xS;obtain⟨m,rfl⟩:∃m:Nat,ru=(m:Int):=⟨ru.toNat,by omega⟩;have HRq2:=hid HRq;clear HRq;obtain⟨w5,hw⟩:=aV (wr.alloc (.cells #[.int .i64 (rk:Int),.int .i64 (rj:Int),.int .i64 (m:Int),.int .i64 rl] 173));have B6:Hid (w5.heap[wr.heap.size]?=some (.cells #[.int .i64 (rk:Int),.int .i64 (rj:Int),.int .i64 (m:Int),.int .i64 rl] 173 (0,0))):=hid GN;have jR:BL wr w5:=by rw[hw];exact ay.alloc aH _
   have AZ:=hid hw;clear hw;have HHb5:=hid jR;go_upto_region 5 with fail;rw[<-AZ.out];clear y0 y1 y2 y3;obtain⟨w6,hw⟩:=aV (w5.alloc (.map #[] 0));have tX:BL wr w6:=by rw[hw];exact jR.alloc jR.size _
   have Lz:Hid (dK w6 w5.heap.size 0 (fun _ _=>0)):=hid (by rw[hw];exact dK.made w5);have HO6:=hid (HO.out.keep (tX.block _ HO.out.lt));have hst:=HO6.out.store (by rw[JQ.out];omega) w5.heap.size;rw[JQ.out] at hst;obtain⟨w7,hrun,ho7,rI⟩:=hst;have x3:w5.cell? ⟨w3.heap.size+1,3,none⟩=some (.map (some w3.heap.size)):=aF ((jR.block _ (aj Xm.out)).trans Xm.out) 3;rw[hw] at hrun;go_upto_region 6 with fail;have agd:BL w5 w6:=by rw[hw];exact ay.alloc aH _
   have Rk:wr.heap.size<w5.heap.size:=by rw[AZ.out];simp
   have hz6:w5.heap.size<w6.heap.size:=by rw[hw];simp
   have hz7:=rI.size;have KR:=aj Xm.out;have HO7:=hid ho7;have hL6:BL w3 w6:=cO nj.out tX;have Dt:Hid (BL w3 w7):=hid (hL6.trans (rI.below hL6.size (fun b hb=>Nat.le_of_eq hb.symm)));have lM:=aJ bZ Dt.out;have Gy:Hid (∀b,b<wr.heap.size->b≠w3.heap.size->w7.heap[b]?=wr.heap[b]?):=hid (fun b h1 h2=>(rI.block b h2 aC).trans (tX.block b h1));have HX7:Hid (w7.heap[wr.heap.size]?=some (.cells #[.int .i64 (rk:Int),.int .i64 (rj:Int),.int .i64 (m:Int),.int .i64 rl] 173 (0,0))):=hid ((rI.block wr.heap.size (show ¬wr.heap.size=w3.heap.size by omega) aC).trans ((agd.block _ Rk).trans B6.out));have GI:Hid (dK w7 w5.heap.size 0 (mP W s ⟨rk,rj,(m:Int),rl⟩ 0)):=hid (by rw[PZ];exact Lz.out.keep (rI.block w5.heap.size (show ¬w5.heap.size=w3.heap.size by omega) hz6));have agf:Hid (w7.heap[w3.heap.size+1]?=some (.cells #[.slice aq rs.length cq,.slice aw W.length cw,.slice (some ⟨gs,0,none⟩) s.length s.length,.map (some w3.heap.size)] 171 (0,0))):=hid ((Gy.out _ KR aC).trans Xm.out);have oL:rk<W.length:=by rw[Ak.out];exact q1
   have hks:rk<s.length:=by rw[NP.out];exact oL
   have hk0:(0:Int)<=(rk:Int):=by omega
   have hk1:(rk:Int)<(W.length:Int):=by omega
   have hk2:(rk:Int)<(s.length:Int):=by omega
   obtain⟨uk,M4,hzuk,hrow⟩:=(HWv.out.keep (aB.aQ Dt.out (fun b hb=>by have h':b<w.heap.size:=hb;omega))).at oL;obtain⟨ua,uc,rfl,hsu, -, -⟩:=hrow.form;obtain⟨bk,hbk,hzbk,pW⟩:=(Ve.out.keep (aB.below lM.out)).at hks;obtain⟨ba,bc,rfl,hsb, -, -⟩:=pW.form;have HRw:=hid hrow;have HZs:Hid (bD wU<w.heap.size):=hid (by obtain⟨_,_,h0,_⟩:=Ve.out.at hks;exact h0);have HBt:=hid pW;have HRl:Hid (s[rk].length=W[rk].length):=hid (LX.out rk oL hks);have Je:W[rk].length<=512:=Qe.out rk oL;have Vg:Hid (∀i (h:i<W[rk].length),rj<W[rk][i].length):=hid (fun i h=>by rw[hfw.qv rk oL _ (gY h)];exact q2)
   have HLd2:Hid (∀i (h:i<W[rk].length),tN (aR.nV W rk i rj)):=hid (fun i h=>by
    have h1:=xS.out i oL h;have h2:=wZ W (m:Int);have h3:=hfw.tot;exact⟨by omega,by omega⟩)
   have Zh:tN (m:Int):=by have:=hfw.ai;exact⟨by omega,by omega⟩
   have Qg:=hid Zh;clear hrow pW Zh hfw;obtain⟨⟨y0,y1,y2,y3⟩, -⟩:=aW HX7.out;obtain⟨nr,zQ⟩:=aV (W[rk].length);obtain⟨nb,hnb⟩:=aV (s[rk].length);rw[<-zQ] at HRw HRl Je hsu M4;rw[<-hnb] at HBt HRl hsb hbk;have Qa:=hid zQ;have HNb:=hid hnb;clear zQ hnb hw rI ho7 hrun tX agd hL6;go_wp2;clear y0 y1 y2 y3;generalize Ry:wr=Wb at*;go_loopw [42] (fun ii wq=>∃i:Nat,i<=nr/\ii=.int .i64 i/\Hid (dK wq w5.heap.size i (mP W s ⟨rk,rj,(m:Int),rl⟩ i))/\Hid (Turns (·=w5.heap.size) w7 wq)) (fun ii _=>nr-(intOf ii).toNat);case atStart=>exact⟨0,Nat.zero_le _,rfl,GI,hid (Turns.refl _ _)⟩
   case round=>
    obtain⟨i,hi,rfl,HCq,Rz⟩:=hrel;have PO:Hid (∀b,b<w7.heap.size->b≠w5.heap.size->wr.heap[b]?=w7.heap[b]?):=hid (fun b h1 h2=>Rz.out.block b h2 h1);by_cases hit:i<nr
    ·have hi0:(0:Int)<=(i:Int):=by omega
     have hi1:(i:Int)<(nr:Int):=by omega
     have hi2:(i:Int)<(nb:Int):=by have:=HRl.out;omega
     have Dv:i<W[rk].length:=by have:=Qa.out;omega
     have hib:i<s[rk].length:=by have:=HNb.out;have:=HRl.out;omega
     obtain⟨ui,hui,hzui,hri⟩:=(qQ.keep HRw.out (Rz.out.keep (fun b hb e=>by have h1:b<w.heap.size:=hb;have h2:b=w5.heap.size:=e;omega))).at Dv;obtain⟨ia,ic,rfl,hsi, -, -⟩:=hri.form;have hj0:(0:Int)<=(rj:Int):=by omega
     have hj1:(rj:Int)<(W[rk][i].length:Int):=by have:=Vg.out i Dv;omega
     obtain⟨uv,huv,hzuv,huvr⟩:=hri.at (Vg.out i Dv);obtain rfl:uv=_:=huvr;obtain⟨ub,Ze,hzub,hubr⟩:=(nG.keep HBt.out (Rz.out.keep (fun b hb e=>by have h1:b<w.heap.size:=hb;have h2:b=w5.heap.size:=e;omega))).at hib;obtain rfl:ub=_:=hubr;have hat:aR.nV W rk i rj=W[rk][i][rj]:=Ga oL Dv (Vg.out i Dv);have Qh:Hid (tN (W[rk][i][rj])):=hid (by rw[<-hat];exact HLd2.out i Dv);have Du:Hid (Sub.keeps s rk i=s[rk][i]):=hid (by unfold Sub.keeps;rw[Sub.aX hks,Sub.aX hib])
     have Dn:Hid (s[rk][i]=false->dK wr w5.heap.size (i+1) (mP W s ⟨rk,rj,(m:Int),rl⟩ (i+1))):=hid (fun h=>by
      rw[Zb (r:=⟨rk,rj,(m:Int),rl⟩) (by rw[Du.out];exact h)];exact HCq.out.mono aC)
     have adO:Hid (s[rk][i]=true->mP W s ⟨rk,rj,(m:Int),rl⟩ (i+1)=wV (mP W s ⟨rk,rj,(m:Int),rl⟩ i) (m:Int) (W[rk][i][rj]) (mP W s ⟨rk,rj,(m:Int),rl⟩ i (m:Int) (W[rk][i][rj])+1)):=hid (fun h=>by
      rw[Va (r:=⟨rk,rj,(m:Int),rl⟩) (by rw[Du.out];exact h),hat])
     have HX8:=hid ((PO.out _ (aj HX7.out) aC).trans HX7.out);have agh:=hid ((PO.out _ (aj agf.out) aC).trans agf.out);have Qi:=hid (HO7.out.keep (PO.out _ aC aC))
     have HHq:Hid (∀X,Turns (·=w5.heap.size) wr X->X.cell? ⟨bD ia,bJ ia+rj,none⟩=some (.int .i64 W[rk][i][rj])):=hid (fun X hX=>by
      obtain⟨u,e,h⟩:=hri.rA (Vg.out i Dv);rw[h X (hX.keep (fun b hb e=>by have h1:b<w.heap.size:=hb;have h2:b=w5.heap.size:=e;omega)),show u=_ from e])
     clear hri hat Du;generalize W[rk][i][rj]=v at*;generalize W[rk][i].length=ln at*;generalize s[rk][i]=kp at*;obtain⟨⟨y0,y1,y2,y3⟩, -⟩:=aW HX8.out;have hbk2:wr.cell? ⟨bD wU,bJ wU+rk,none⟩=some (.slice ba nb bc):=(World.cell?_of_block (w:=w7) (a:=⟨bD wU,bJ wU+rk,none⟩) (PO.out (bD wU) hzbk (by have:=HZs.out;omega))).trans hbk;cases kp with
     |false=>
      have HC9:=hid (Dn.out rfl)
      clear Dn adO
      go_wp2
      go_roundw
      case rel=>exact⟨i+1,by omega,by go_num,HC9,Rz⟩
      simp[intOf];omega
     |true=>
      have HY:=hid (adO.out rfl)
      clear Dn adO
      obtain⟨F,hF⟩:=aV (mP W s ⟨rk,rj,(m:Int),rl⟩ i)
      rw[<-hF] at HY HCq
      have hfr:0<=F (m:Int) v/\F (m:Int) v<=i:=by rw[hF];exact Cc ..
      clear hF
      obtain⟨fc,hfc⟩:=aV (F (m:Int) v)
      rw[<-hfc] at HY hfr
      have hf0:=hfr.1
      have hf1:=hfr.2
      have HFc:=hid hfc
      clear hfr hfc
      go_upto_region 10 with fail
      have hqa:∀xh:Held (fun V=>Turns (·=w5.heap.size) wr V),xh.1.cell? ⟨w3.heap.size+1,3,none⟩=some (.map (some w3.heap.size)):=fun xh=>(aW ((xh.2.block _ (show ¬w3.heap.size+1=w5.heap.size by omega) (aj agh.out)).trans agh.out)).1.2.2.2
      have Jd:∀xh:Held (fun V=>Turns (·=w5.heap.size) wr V),xh.1.cell? ⟨Wb.heap.size,1,none⟩=some (.int .i64 (rj:Int)):=fun xh=>(aW ((xh.2.block _ (show ¬Wb.heap.size=w5.heap.size by omega) (aj HX8.out)).trans HX8.out)).1.2.1
      have hqc:∀xh:Held (fun V=>Turns (·=w5.heap.size) wr V),xh.1.cell? ⟨Wb.heap.size,2,none⟩=some (.int .i64 (m:Int)):=fun xh=>(aW ((xh.2.block _ (show ¬Wb.heap.size=w5.heap.size by omega) (aj HX8.out)).trans HX8.out)).1.2.2.1
      have hqd:∀xh:Held (fun V=>Turns (·=w5.heap.size) wr V),xh.1.cell? ⟨bD ia,bJ ia+rj,none⟩=some (.int .i64 v):=fun xh=>HHq.out xh.1 xh.2
      refine dS 18 (.quiet 0 (.quiet 4 (.quiet 6 (.quiet 7 (.quiet 8 (.quiet 9 (.quiet 10 (.quiet 11 (.quiet 12 (.quiet 13 (.one 1 (.quiet 2 (.quiet 3 (.one 5 (.two 14 16 (.quiet 15 (.one 16 (.quiet 17 .done))) (.quiet 17 (.one 14 (.quiet 15 .done)))))))))))))))))) (fun V=>Turns (·=w5.heap.size) wr V) lN (by kernel_rfl) (Turns.aQ (aG ay 1)) ?_
      have F6:Hid (Turns (·=w5.heap.size) wr (wr.drewN 1)):=hid (Turns.aQ (aG ay 1))
      have wS:Hid (dK (wr.drewN 1) w5.heap.size i F):=hid (HCq.out.keep rfl)
      have DJ:Hid (nL (wr.drewN 1) w3.heap.size (bs++[w5.heap.size])):=hid (Qi.out.keep rfl)
      generalize wr.drewN 1=w8 at*
      obtain⟨jR,e5⟩:∃h:r<(bs++[w5.heap.size]).length,(bs++[w5.heap.size])[r]=w5.heap.size:=by
       have:=JQ.out;subst this;exact⟨by simp,by simp⟩
      have hl5:=DJ.out.look jR aC
      rw[e5] at hl5
      have agi:=wS.out.look Qg.out Qh.out
      rw[<-HFc.out] at agi
      unfold rA at agi
      obtain⟨v0,st,w9,adP,hC9,hT9,hst⟩:=wS.out.entry aC Qg.out Qh.out
      unfold rA at adP
      have abu:=hC9.look Qg.out Qh.out
      rw[<-HFc.out] at abu
      unfold rA at abu
      have Vh:tN (fc+1):=⟨by omega,by omega⟩
      obtain⟨oh,Vi,Vj,Vk⟩:=hst w9 (fc+1) Vh rfl
      have agj:(Instr.entryStore 174 (.map (some w5.heap.size)) (.int .i64 (st:Int)) (.int .i64 (fc+1))).run Tryz.prog w9=.ok () oh:=Vi
      clear Vi
      have GF:=hid (F6.out.trans hT9)
      have Gb:Hid (Turns (·=w5.heap.size) w7 oh):=hid (Rz.out.trans (GF.out.trans Vk))
      have Ba:Hid (dK oh w5.heap.size (i+1) (mP W s ⟨rk,rj,(m:Int),rl⟩ (i+1))):=hid (by rw[HY.out];exact Vj)
      clear jR e5 hC9 hT9 hst Vj Vk Vh
      iterate 10 refine eB ?_
      refine aM rfl ?_
      go_wp2_with fail
      refine aD (fun V=>Turns (·=w5.heap.size) wr V) (fun _ h=>h) F6.out ?_
      iterate 2 refine eB ?_
      refine aM rfl ?_
      go_wp2_with fail
      refine aD (fun V=>Turns (·=w5.heap.size) wr V) (fun _ h=>h) F6.out ?_
      refine dG rfl rfl ?_ ?_
      ·go_wp2_with fail
       refine aD (fun V=>Turns (·=w5.heap.size) wr V) (fun _ h=>h) F6.out ?_;exact abt
      ·go_wp2_with fail
       refine aD (fun V=>Turns (·=w5.heap.size) wr V) (fun _ h=>h) GF.out ?_;exact abt
    ·obtain rfl:nr=i:=by omega
     have HKq':=PO;have hBw:BL w3 wr:=Dt.out.trans (Rz.out.below Dt.out.size (fun b hb=>by have h2:b=w5.heap.size:=hb;have:=nj.out.size;omega));have Oy:=hid hBw;have HKb:Hid (∀b,b<Wb.heap.size->b≠w3.heap.size->wr.heap[b]?=Wb.heap[b]?):=hid (fun b h1 h2=>(PO.out b aC aC).trans (Gy.out b h1 h2));have HXn:Hid (wr.heap[w3.heap.size+1]?=some (.cells #[.slice aq rs.length cq,.slice aw W.length cw,.slice (some ⟨gs,0,none⟩) s.length s.length,.map (some w3.heap.size)] 171 (0,0))):=hid ((HKb.out _ KR aC).trans Xm.out);have Ea:Hid (nL wr w3.heap.size (bs++[w5.heap.size])):=hid (HO7.out.keep (PO.out _ aC aC))
     have HLt:Hid (∀b∈bs,b<Wb.heap.size):=hid (fun b hb=>by
      obtain⟨k,hk,rfl⟩:=List.getElem_of_mem hb;exact(Ro.out k hk (by have:=JQ.out;omega)).lt)
     have Vl:Hid (bs++[w5.heap.size]).Nodup:=hid (List.nodup_append.2 ⟨HNd.out,by simp,fun a ha b hb e=>by
      rw[nU] at hb;have:=HLt.out a ha;omega⟩)
     have Rq:Hid (∀b∈bs++[w5.heap.size],w3.heap.size+2<=b):=hid (fun b hb=>by
      rcases List.mem_append.1 hb with hb|hb
      ·exact K9.out b hb
      ·rw[nU] at hb
       omega)
     have mZ:Hid ((bs++[w5.heap.size]).length=r+1):=hid (by rw[rG,JQ.out];rfl)
     have HCn3:Hid (∀k (h:k<(bs++[w5.heap.size]).length) (h2:k<rs.length),dK wr (bs++[w5.heap.size])[k] 512 (jY W s rs[k])):=hid (fun k h h2=>by
      by_cases hk:k<bs.length
      ·have:=agc.out wr (fun k h=>HKb.out _ (HLt.out _ (gY h)) (by have:=K9.out _ (gY h);omega)) k hk h2
       rw[RW hk];exact this
      ·have hkr:k=r:=by have:=mZ.out;have:=JQ.out;omega
       subst hkr
       have e1:(bs++[w5.heap.size])[k]=w5.heap.size:=by
        have:=JQ.out;subst this;simp
       rw[e1,HRq2.out];have h3:=HCq.out.mono (m:=512) Je;unfold jY;rw[show (W.getD rk []).length=nr by rw[Sub.aX oL,Qa.out]];exact h3)
     clear HKq' hBw Ro agc HCq Rz PO HKb HLt;go_wp2;go_roundw;case rel=>exact⟨r+1,bs++[w5.heap.size],by omega,by go_num,mZ,Ea,Vl,Rq,HCn3,HXn,Oy⟩
     simp[intOf];omega
  ·obtain rfl:rs.length=r:=by omega
   go_wp2;go_ret;refine⟨w1.heap.size,w2.heap.size,w3.heap.size,rfl,?_,hz01,cO bZ.out nj.out⟩;rw[<-DK.out];exact⟨agb,hz23,⟨aq,cq,aw,cw,gs,Xm.out,dO.keep dN HRv.out (aB.aQ nj.out (fun b hb=>by have h:=hb.2;omega)),(cZ.mono HWv.out (fun b _ h=>show b<w1.heap.size by have h':b<w.heap.size:=h;omega)).keep (aB.aQ nj.out (fun b hb=>by have h':b<w1.heap.size:=hb;omega)),dP.keep HSub.out (aB.aQ nj.out (fun b hb=>hb.2))⟩,⟨bs,HO.out,JQ.out,HNd.out,K9.out,Ro.out⟩⟩
theorem qH{w:World}{F:Nat}{x0 x1:Value}{t:TypeId}(h:w.heap[F]?=some (.cells #[x0,x1] t (0,0))):
  (w.cell? ⟨F,0,none⟩=some x0/\w.cell? ⟨F,1,none⟩=some x1)/\∀i,w.frozen? ⟨F,i,none⟩=false:=
 ⟨⟨aF h 0,aF h 1⟩,bh h⟩
theorem abv{p:Prop}(h:p:=by
  iterate 2
   go_wp2
   go_quiet (fail)
  go_wp2
  go_roundw
  case rel=>exact⟨j+1,by omega,by go_num,Zi,hid (by repeat (first|exact jQ.out|refine aG ?_ _))⟩
  simp[intOf]
  omega):p:=h
theorem E8(x:ah.bF)(W:ah.cG)(s:Sub.S)(hfw:aR.sF x W)(hsh:W.map List.length=s.map List.length)(B0 B1 B2 n:Nat)(k i:Nat)(hk:k<W.length)(hi:i<W[k].length)(w:World)(h:StV B0 B1 B2 n (aR.cN x) W s w):
  Calls Tryz.prog 73 #[.pointer (some ⟨B2+1,0,none⟩),.agg #[.int .i64 (k:Int),.int .i64 (i:Int)]] w fun e w'=>e=.returned (.bool (aR.wrong (aR.cN x) W s k i))/\BL w w':=by
 have hrf:=hfw.refs;have LI:=hfw.lead;have hrc:=hfw.qv;have Aj:=hfw.tot;have hkn:=hfw.ai;have hlen:=hfw.len;obtain⟨ar,cr,aw,cw,gs,xk,LY,Vf,hsf⟩:=h.box;obtain⟨bs,ho,hbl, -, -,hcn⟩:=h.maps;have DW:=mz.sl hsf;have Zj:=h.NH;have Au:=h.b12;have h60:=hfw.many;clear h hfw;generalize aR.cN x=rs at*;have Ah:B2+1<w.heap.size:=aj xk;have hsl:s.length=W.length:=by simpa using (congrArg List.length hsh).symm
 have LX:Hid (∀k (h1:k<W.length) (h2:k<s.length),s[k].length=W[k].length):=hid (fun k h1 h2=>by
  have:=congrArg (fun l=>l[k]?) hsh;have e:W[k].length=s[k].length:=by simpa [h1,h2] using this
  exact e.symm)
 have Qe:Hid (∀k (h1:k<W.length),W[k].length<=512):=hid (fun k h1=>by
  have h4:W[k].length<=ah.total W:=iI h1;omega)
 obtain⟨ao,co,eo,hso, -, -⟩:=LY.form;cases eo;obtain⟨aw',cw',ew,hsw, -, -⟩:=Vf.form;cases ew;obtain⟨as',cs',es,hss, -, -⟩:=DW.form;cases es;obtain⟨w1,hw1⟩:=aV (w.alloc (.cells #[.int .i64 (k:Int),.int .i64 (i:Int)] 146));have bf:Hid (Below w.heap.size w w1):=hid ud;have LZ:Hid (w1.heap[w.heap.size]?=some (.cells #[.int .i64 (k:Int),.int .i64 (i:Int)] 146 (0,0))):=hid RM;have zG:Hid (∀V,BL w V->V.heap[B2+1]?=some (.cells #[.slice ar rs.length cr,.slice aw W.length cw,.slice (some ⟨gs,0,none⟩) s.length s.length,.map (some B2)] 171 (0,0))):=hid (fun V hV=>(hV.block _ Ah).trans xk);have HRv:Hid (∀V,BL w V->EZ (fun b=>B0<=b/\b<B1) V (.slice ar rs.length cr) rs):=hid (fun V hV=>dO.keep dN LY (aB.below hV));have HWv:Hid (∀V,BL w V->cZ (·<B0) V (.slice aw W.length cw) W):=hid (fun V hV=>Vf.keep (aB.below hV));have Zk:Hid (∀V,BL w V->cQ (fun b=>B1<=b/\b<B2) V (.slice (some ⟨gs,0,none⟩) s.length s.length) s):=hid (fun V hV=>DW.keep (aB.below hV));have HOv:Hid (∀V,BL w V->nL V B2 bs):=hid (fun V hV=>ho.keep (hV.block _ aC));have HCv:Hid (∀V,BL w V->∀j (h:j<bs.length) (h2:j<rs.length),dK V bs[j] n (jY W s rs[j])):=hid (fun V hV j h h2=>(hcn j h h2).keep (hV.block _ (hcn j h h2).lt));have HW1:=hid hw1;have Ak:=hid hlen;have NP:=hid hsl;have JQ:=hid hbl;have Ld:=hid hsh;have Xj:=hid hrf;have xS:=hid LI;have Vg:=hid hrc;have hz1:w.heap.size<w1.heap.size:=by rw[hw1];simp
 have hk0:(0:Int)<=(k:Int):=by omega
 have hi0:(0:Int)<=(i:Int):=by omega
 clear hw1 hlen hsl hbl hsh hrf LI hrc ho hcn DW Vf LY hsf xk;obtain⟨⟨x0,x1,x2,x3⟩, -⟩:=aW (zG.out w1 bf.out);go_enter Tryz.func73,Tryz.ntmps73;go_upto_region 1 with fail;rw[<-HW1.out];go_wp2;clear x0 x1 x2 x3;go_loopw [12] (fun jj wr=>∃j:Nat,j<=rs.length/\jj=.int .i64 j/\Hid ((rs.take j).any (aR.yu W s k i)=false)/\Hid (BL w1 wr)) (fun jj _=>rs.length-(intOf jj).toNat);case atStart=>exact⟨0,Nat.zero_le _,rfl,hid aZ,hid ay⟩
 case round=>
  obtain⟨j,hj,rfl,Dn,nj⟩:=hrel;have qC:=aJ bf nj.out;by_cases hlt:j<rs.length
  ·have hj0:(0:Int)<=(j:Int):=by omega
   have hj1:(j:Int)<(rs.length:Int):=by omega
   obtain⟨-,us,Nf,hcs,Y9⟩:=dO.at (HRv.out wr qC.out) hlt;obtain rfl:us=_:=Y9;have y0:wr.cell? ⟨bD ar,bJ ar+j*4,none⟩=some (.int .i64 (rs[j].kind:Int)):=hcs 0 _ rfl;have y1:wr.cell? ⟨bD ar,bJ ar+j*4+1,none⟩=some (.int .i64 (rs[j].field:Int)):=hcs 1 _ rfl;have y2:wr.cell? ⟨bD ar,bJ ar+j*4+2,none⟩=some (.int .i64 rs[j].up):=hcs 2 _ rfl;have y3:wr.cell? ⟨bD ar,bJ ar+j*4+3,none⟩=some (.int .i64 rs[j].least):=hcs 3 _ rfl;have hmem:rs[j]∈rs:=gY hlt;obtain⟨q1,q2,q3,q4,q5,q6, -, -⟩:=Xj.out _ hmem;have HLj:=hid (xS.out _ hmem);have Av:Hid ((rs.take (j+1)).any (aR.yu W s k i)=aR.yu W s k i rs[j]):=hid (by rw[Gu hlt,List.any_append,Dn.out];simp);have Vn:Hid (aR.yu W s k i rs[j]=true->aR.wrong rs W s k i=true):=hid (fun h=>List.any_eq_true.2 ⟨_,hmem,h⟩);have HCj:Hid (∀V,BL w V->dK V (bs[j]' RP) n (jY W s rs[j])):=hid (fun V hV=>HCv.out V hV j _ hlt);clear hcs Nf hmem;generalize rs[j]=rf at*;obtain⟨rk,rj,ru,rl⟩:=rf;simp only at y0 y1 y2 y3 q1 q2 q3 q4 q5 q6;obtain⟨m,rfl⟩:∃m:Nat,ru=(m:Int):=⟨ru.toNat,by omega⟩;obtain⟨w5,hw⟩:=aV (wr.alloc (.cells #[.int .i64 (rk:Int),.int .i64 (rj:Int),.int .i64 (m:Int),.int .i64 rl] 173));have B6:Hid (w5.heap[wr.heap.size]?=some (.cells #[.int .i64 (rk:Int),.int .i64 (rj:Int),.int .i64 (m:Int),.int .i64 rl] 173 (0,0))):=hid GN;have jQ:Hid (Below w1.heap.size w1 w5):=hid Xz;have fF:=aJ bf jQ.out;have AZ:=hid hw;clear hw;go_upto_region 4 with fail;rw[<-AZ.out];clear y0 y1 y2 y3;obtain⟨⟨y0,y1,y2,y3⟩, -⟩:=aW B6.out;obtain⟨⟨x0,x1,x2,x3⟩, -⟩:=aW (zG.out w5 fF.out);obtain⟨⟨a0,a1⟩, -⟩:=qH ((jQ.out.block _ hz1).trans LZ.out);have rJ:Hid (aR.yu W s k i ⟨rk,rj,(m:Int),rl⟩=((decide (rk=k)&& !Sub.keeps s m (aR.nV W k i rj).toNat)||(decide ((m:Int)=k)&&decide ((aR.EI W s ⟨rk,rj,(m:Int),rl⟩ i:Int)<rl)))):=hid rfl;by_cases hkk:rk=k
   ·subst hkk
    have hmW:m<W.length:=by have:=Ak.out;omega
    have hms:m<s.length:=by rw[NP.out];exact hmW
    have hm0:(0:Int)<=(m:Int):=by omega
    have hm1:(m:Int)<(s.length:Int):=by omega
    have hk1:(rk:Int)<(W.length:Int):=by omega
    obtain⟨uk,M4, -,hrow⟩:=(HWv.out w5 fF.out).at hk;obtain⟨ua,uc,rfl,hsu, -, -⟩:=hrow.form;obtain⟨ui,hui, -,hri⟩:=hrow.at hi;obtain⟨ia,ic,rfl,hsi, -, -⟩:=hri.form;have Yf:rj<W[rk][i].length:=by rw[Vg.out rk hk _ (gY hi)];exact q2
    obtain⟨uv,huv, -,rfl⟩:=hri.at Yf;have hat:aR.nV W rk i rj=W[rk][i][rj]:=Ga hk hi Yf;have LI:0<=aR.nV W rk i rj/\aR.nV W rk i rj<ah.fW W (m:Int):=HLj.out i hk hi;rw[hat] at LI;obtain⟨bk,hbk, -,pW⟩:=(Zk.out w5 fF.out).at hms;obtain⟨ba,bc,rfl,hsb, -, -⟩:=pW.form;rw[gZ,ig,Nat.zero_add] at hbk
    have hle:ah.fW W (m:Int)=s[m].length:=by
     rw[LX.out m hmW hms];unfold ah.fW;rw[Int.toNat_natCast,Sub.aX hmW]
    obtain⟨v,hv⟩:∃v:Nat,W[rk][i][rj]=(v:Int):=⟨W[rk][i][rj].toNat,by omega⟩;have hvs:v<s[m].length:=by omega
    obtain⟨ub,Ze, -,rfl⟩:=pW.at hvs;have Du:Hid (Sub.keeps s m (aR.nV W rk i rj).toNat=s[m][v]):=hid (by unfold Sub.keeps;rw[hat,hv,Int.toNat_natCast,Sub.aX hms,Sub.aX hvs]);have hv0:(0:Int)<=(v:Int):=by omega
    have hv1:(v:Int)<(s[m].length:Int):=by omega
    have hj2:(0:Int)<=(rj:Int):=by omega
    have hj3:(rj:Int)<(W[rk][i].length:Int):=by omega
    have hi1:(i:Int)<(W[rk].length:Int):=by omega
    rw[hv] at huv;have HHi:=hid hi;have HHk:=hid hk;clear hrow hri pW hat LI hle hv;generalize s[m][v]=kp at*;clear hvs;generalize s[m].length=ns at*;generalize W[rk][i].length=ln at*;cases kp with
    |false=>
     have adQ:Hid (aR.wrong rs W s rk i=true):=hid (Vn.out (by rw[rJ.out,Du.out];simp))
     clear rJ Du Av Vn
     go_wp2
     go_quiet (fail)
     go_wp2
     go_ret
     exact⟨by rw[adQ.out];rfl,aG fF.out _⟩
    |true=>
     have hmk:¬(m:Int)=(rk:Int):=by omega
     have Zi:Hid ((rs.take (j+1)).any (aR.yu W s rk i)=false):=hid (by rw[Av.out,rJ.out,Du.out];simp[hmk])
     clear rJ Du Av Vn
     exact abv
   ·have hkk2:¬(rk:Int)=(k:Int):=by omega
    by_cases hmk:(m:Int)=(k:Int)
    ·obtain rfl:m=k:=by omega
     obtain⟨lf,hlf⟩:=aV (aR.EI W s ⟨rk,rj,(m:Int),rl⟩ i);have DX:Hid (aR.yu W s m i ⟨rk,rj,(m:Int),rl⟩=decide ((lf:Int)<rl)):=hid (by rw[rJ.out,hlf];simp[hkk])
     have Y8:Hid (∀V,BL w V->(Instr.lookup 174 (.map (some (bs[j]' RP))) (.agg #[.int .i64 (m:Int),.int .i64 (i:Int)]) false).run Tryz.prog V=.ok (.int .i64 (lf:Int)) V):=hid (fun V hV=>by
      have h1:=(HCj.out V hV).look (a:=(m:Int)) (c:=(i:Int)) ⟨by omega,by omega⟩ ⟨by omega,by have:=Qe.out m hk;omega⟩;have h2:jY W s ⟨rk,rj,(m:Int),rl⟩ (m:Int) (i:Int)=(lf:Int):=by rw[hlf];unfold jY mP aR.EI;rw[if_pos rfl]
      rw[h2] at h1;exact h1)
     have HLo:Hid (∀V,BL w V->(Instr.lookup 169 (.map (some B2)) (.int .i64 (j:Int)) false).run Tryz.prog V=.ok (.map (some (bs[j]' RP))) V):=hid (fun V hV=>(HOv.out V hV).look RP aC);clear hlf rJ;generalize (bs[j]' RP)=bj at*;go_wp2;go_quiet (fail);go_upto_region 6 with fail;have Rk:=jQ.out.size;have hqx0:=dL w5 ⟨B2+1,0,none⟩ (.slice ar rs.length cr) fun xh=>(aW (zG.out xh.1 (cO fF.out xh.2))).1.1;have Vo:=dL w5 ⟨B2+1,1,none⟩ (.slice aw W.length cw) fun xh=>(aW (zG.out xh.1 (cO fF.out xh.2))).1.2.1;have adR:=dL w5 ⟨B2+1,2,none⟩ (.slice (some ⟨gs,0,none⟩) s.length s.length) fun xh=>(aW (zG.out xh.1 (cO fF.out xh.2))).1.2.2.1;have adS:=dL w5 ⟨B2+1,3,none⟩ (.map (some B2)) fun xh=>(aW (zG.out xh.1 (cO fF.out xh.2))).1.2.2.2;have l8:=dL w5 ⟨wr.heap.size,0,none⟩ (.int .i64 (rk:Int)) fun xh=>(aW ((xh.2.block _ (aj B6.out)).trans B6.out)).1.1;have kL:=dL w5 ⟨wr.heap.size,1,none⟩ (.int .i64 (rj:Int)) fun xh=>(aW ((xh.2.block _ (aj B6.out)).trans B6.out)).1.2.1;have l9:=dL w5 ⟨wr.heap.size,2,none⟩ (.int .i64 (m:Int)) fun xh=>(aW ((xh.2.block _ (aj B6.out)).trans B6.out)).1.2.2.1;have mR:=dL w5 ⟨wr.heap.size,3,none⟩ (.int .i64 rl) fun xh=>(aW ((xh.2.block _ (aj B6.out)).trans B6.out)).1.2.2.2;have Co:=dL w5 ⟨w.heap.size,0,none⟩ (.int .i64 (m:Int)) fun xh=>(qH ((xh.2.block _ (show w.heap.size<w5.heap.size by omega)).trans ((jQ.out.block _ hz1).trans LZ.out))).1.1;have Cp:=dL w5 ⟨w.heap.size,1,none⟩ (.int .i64 (i:Int)) fun xh=>(qH ((xh.2.block _ (show w.heap.size<w5.heap.size by omega)).trans ((jQ.out.block _ hz1).trans LZ.out))).1.2;refine dS 16 (.quiet 0 (.quiet 1 (.quiet 2 (.quiet 3 (.quiet 4 (.quiet 5 (.quiet 6 (.quiet 10 (.quiet 12 (.quiet 14 (.quiet 15 (.one 7 (.quiet 8 (.quiet 9 (.one 11 (.one 13 .done)))))))))))))))) (BL w5) lN (by kernel_rfl) (aG (aG ay _) 1) ?_;generalize hw8:World.drewN _ 1=w8;have wS:Hid (Below w5.heap.size w5 w8):=hid (by rw[<-hw8];exact aG (aG ay _) 1);clear hw8;have oT:=aJ fF wS.out;have J6:=aJ jQ wS.out;have hlo:=HLo.out w8 oT.out;have hlk:=Y8.out w8 oT.out;clear x0 x1 x2 x3 y0 y1 y2 y3 a0 a1
     iterate 11 refine eB ?_
     refine aM rfl ?_;go_wp2_with fail;refine aD (BL w5) (fun _ h=>h) wS.out ?_
     iterate 2 refine eB ?_
     iterate 2
      refine aM rfl ?_
      go_wp2_with fail
      refine aD (BL w5) (fun _ h=>h) wS.out ?_
     refine aT ?_;try simp only[iW,iX]
     clear hqx0 Vo adR adS l8 kL l9 mR Co Cp hlo hlk;by_cases hlr:(lf:Int)<rl
     ·have adQ:Hid (aR.wrong rs W s m i=true):=hid (Vn.out (by rw[DX.out];exact decide_eq_true hlr))
      go_wp2;go_ret;exact⟨by rw[adQ.out];rfl,oT.out⟩
     ·have Zi:Hid ((rs.take (j+1)).any (aR.yu W s m i)=false):=hid (by rw[Av.out,DX.out];exact decide_eq_false hlr)
      go_wp2;go_roundw;case rel=>exact⟨j+1,by omega,by go_num,Zi,J6⟩
      simp[intOf];omega
    ·have DX:Hid (aR.yu W s k i ⟨rk,rj,(m:Int),rl⟩=false):=hid (by rw[rJ.out];simp[hkk,hmk])
     have Zi:Hid ((rs.take (j+1)).any (aR.yu W s k i)=false):=hid (by rw[Av.out,DX.out]);clear rJ DX Av Vn
     exact abv
  ·obtain rfl:rs.length=j:=by omega
   have HW0:Hid (aR.wrong rs W s k i=false):=hid (by have:=Dn.out;rw[List.take_length] at this;exact this);go_wp2;go_ret;exact⟨by rw[HW0.out];rfl,qC.out⟩
section
variable {P:Program} {ops:Array Oper} {md:Region.Mode}
def xq:Op->Bool
 | .move _| .assign _| .pick .. | .load .. | .binOp .. | .unOp .. | .build .. | .fieldAddr .. | .field .. | .indexAddr .. | .index .. | .slice .. | .extract .. | .convert .. | .makeFunc .. | .makeInterface .. | .nilCheck .. | .lookup .. =>true
 | .call {callee:=.builtin .len, .. }| .call {callee:=.builtin .cap, .. }| .call {callee:=.builtin .min, .. }| .call {callee:=.builtin .max, .. }=>true
 |_=>false
theorem Gc{o:Oper}{x:Operand}(ho:o.op=.nilCheck x){ρ:Operand->Value}{w w':World}{nx:Next}(hn:∀v,nx≠ .value v):(execOp ρ o).run P w≠ .ok nx w':=by
 unfold execOp;rw[ho];dsimp only;split
 ·simp[go_sem]
 ·simp[go_sem]
 ·simp[go_sem]
 ·split
  ·simp[go_sem]
  ·rename_i t v _
   intro e;simp only[Sem.run_bind] at e;cases h1:Sem.run P program w with
   |halt a b=>rw[h1] at e;cases e
   |ok p w1=>
    rw[h1] at e
    simp only[Result.andThen] at e
    generalize Sem.run P (nilAhead (p.types.size+Made.depth) t v _) w1=r at e
    cases r with
    |halt a b=>cases e
    |ok q w2=>
     simp only at e
     split at e
     ·simp[go_sem] at e
     ·cases e;exact hn _ rfl
  ·intro e;cases e;exact hn _ rfl
 ·intro e;cases e;exact hn _ rfl
theorem yK{o:Oper}(h:xq o.op=true){ρ:Operand->Value}{w w':World}{nx:Next}(hn:∀v,nx≠ .value v):(execOp ρ o).run P w≠ .ok nx w':=by
 by_cases hc:∃x,o.op=.nilCheck x
 ·obtain⟨x,ho⟩:=hc
  exact Gc ho hn
 unfold execOp;generalize o.op=op at*;unfold xq at h;split at h
 all_goals first
  |exact absurd ⟨_,rfl⟩ hc
  |exact tv hn
  |exact Bd hn
  |(intro e;cases e;exact hn _ rfl)
  |(simp only[resolve,invoke,builtin];exact tv hn)
  |(exact absurd h aZ)
def Region.kI(md:Region.Mode)(ops:Array Oper)(n:Nat):Nat->je->Array Bool->Bool
 |0,.done,listed=>Region.seqB md ops (ops.size-n) n listed
 |f+1,.one c s,listed=>decide (Region.ready md ops listed=[c])&&decide (c<n)&&Region.kI md ops n f s (listed.setIfInBounds c true)
 |f+1,.two c d s t,listed=>decide (Region.ready md ops listed=[c,d])&&decide (c<n)&&decide (d<n)&&Region.kI md ops n f s (listed.setIfInBounds c true)&&Region.kI md ops n f t (listed.setIfInBounds d true)
 |f+1,.three c d e s t u,listed=>decide (Region.ready md ops listed=[c,d,e])&&decide (c<n)&&decide (d<n)&&decide (e<n)&&Region.kI md ops n f s (listed.setIfInBounds c true)&&Region.kI md ops n f t (listed.setIfInBounds d true)&&Region.kI md ops n f u (listed.setIfInBounds e true)
 |f+1,.quiet q s,listed=>(Region.ready md ops listed).contains q&&Region.free md ops listed q&&decide (q<n)&&((ops[q]?).map (fun o=>xq o.op)).getD false&&Region.kI md ops n f s (listed.setIfInBounds q true)
 |_,_,_=>false
def Region.pX(md:Region.Mode)(ops:Array Oper)(n:Nat)(s:je):Bool:=
 Region.noSelect ops&&decide (n<ops.size)&&Region.sinkB md ops n&&Region.chainB md ops n&&Region.kI md ops n n s (Array.replicate ops.size false)
theorem eX{n:Nat}{Lq:Act->World->Prop}(hsel:Region.noSelect ops=true)(hs:Region.sinkB md ops n=true)(hc:Region.chainB md ops n=true)(hn:n<ops.size):
  ∀(f:Nat) (s:je) (φ:World->Prop) (listed:Array Bool) (a:Act) (w:World),φ w->HeadInv md ops n listed->Region.kI md ops n f s listed=true->bQ P ops Lq ops.toList s φ a w->
  j9 P md ops (eO φ) n (fun listed' a' w'=>Region.seqB md ops (ops.size-n) n listed'=true/\Lq a' w') f listed a w
 |0,.done,φ,listed,a,w,hC,inv,hB,h=>by
  simp only[Region.kI] at hB;exact⟨hB,h⟩
 |f+1,.quiet k s,φ,listed,a,w,hC,inv,hB,h=>by
  simp only[Region.kI,kJ,lE] at hB;obtain⟨⟨⟨⟨hr,hf⟩,hkn⟩,hq⟩,hB⟩:=hB;have hks:k<ops.size:=by omega
  obtain⟨o,h0⟩:∃o,ops[k]?=some o:=⟨ops[k],by simp[hks]⟩;have h0':ops.toList[k]?=some o:=by simpa using h0
  simp only[bQ,h0'] at h;have h:=h ⟨⟨w,hC⟩⟩;have JR:eO φ w:=⟨⟨w,hC⟩,rfl⟩;have Q7:xq o.op=true:=by rw[h0] at hq;simpa using hq
  unfold wpQuiet at h;split at h
  ·rename_i hw
   obtain⟨v,h1,h2⟩:=h
   have hy:gG P ops (eO φ) o v a:=.inl ⟨hw,fun w1 hC1=>by
    have g:=h1 w1 hC1;unfold Oper.quietAt at g;generalize hr1:(execOp a.eval o).run P w1=r at g ⊢;cases r with
    |ok nx w2=>
     cases nx with
     |value u=>obtain⟨e1,e2⟩:=g;rw[e1,e2]
     |_=>exact absurd hr1 (yK Q7 (by intro v;simp))
    |halt x w2=>exact g.elim⟩
   exact iC h0 hsel hs hc hn hkn (fun listed' a' w' hL=>oq hL.1 aH) JR inv hf hr hy
    (eX hsel hs hc hn f s φ _ _ w hC (inv.set Fw hkn) hB h2)
  ·rename_i hw
   exact iC h0 hsel hs hc hn hkn (fun listed' a' w' hL=>oq hL.1 aH) JR inv hf hr (.inr ⟨by simpa using hw,rfl⟩)
    (eX hsel hs hc hn f s φ _ _ w hC (inv.set Fw hkn) hB h)
 |f+1,.one k s,φ,listed,a,w,hC,inv,hB,h=>by
  simp only[Region.kI,kJ,lE] at hB;obtain⟨⟨hr,hkn⟩,hB⟩:=hB;simp only[bQ] at h;refine⟨by rw[hr];simp,fun i hi=>?_⟩;rw[hr] at hi;obtain rfl:i=k:=by simpa using hi
  exact⟨hkn,eF h fun φ' a' w' hw' h3=>eX hsel hs hc hn f s φ' _ a' w' hw' (inv.set qh hkn) hB h3⟩
 |f+1,.two k j s t,φ,listed,a,w,hC,inv,hB,h=>by
  simp only[Region.kI,kJ,lE] at hB;obtain⟨⟨⟨⟨hr,hkn⟩,hjn⟩,R9⟩,Ah⟩:=hB;simp only[bQ] at h;refine⟨by rw[hr];simp,fun i hi=>?_⟩;rw[hr] at hi;by_cases e:i=k
  ·subst e
   exact⟨hkn,eF h.1 fun φ' a' w' hw' h3=>eX hsel hs hc hn f s φ' _ a' w' hw' (inv.set qh hkn) R9 h3⟩
  ·obtain rfl:i=j:=by simpa [e] using hi
   exact⟨hjn,eF h.2 fun φ' a' w' hw' h3=>eX hsel hs hc hn f t φ' _ a' w' hw' (inv.set qh hjn) Ah h3⟩
 |f+1,.three k j m s t u,φ,listed,a,w,hC,inv,hB,h=>by
  simp only[Region.kI,kJ,lE] at hB;obtain⟨⟨⟨⟨⟨⟨hr,hkn⟩,hjn⟩,hmn⟩,R9⟩,Ah⟩,hB3⟩:=hB;simp only[bQ] at h;refine⟨by rw[hr];simp,fun i hi=>?_⟩;rw[hr] at hi;by_cases e:i=k
  ·subst e
   exact⟨hkn,eF h.1 fun φ' a' w' hw' h3=>eX hsel hs hc hn f s φ' _ a' w' hw' (inv.set qh hkn) R9 h3⟩
  ·by_cases e':i=j
   ·subst e'
    exact⟨hjn,eF h.2.1 fun φ' a' w' hw' h3=>eX hsel hs hc hn f t φ' _ a' w' hw' (inv.set qh hjn) Ah h3⟩
   ·obtain rfl:i=m:=by simpa [e,e'] using hi
    exact⟨hmn,eF h.2.2 fun φ' a' w' hw' h3=>eX hsel hs hc hn f u φ' _ a' w' hw' (inv.set qh hmn) hB3 h3⟩
 |0,.quiet ..,_,_,_,_,_,_,hB,_=>by simp[Region.kI] at hB
 |0,.one ..,_,_,_,_,_,_,hB,_=>by simp[Region.kI] at hB
 |0,.two ..,_,_,_,_,_,_,hB,_=>by simp[Region.kI] at hB
 |0,.three ..,_,_,_,_,_,_,hB,_=>by simp[Region.kI] at hB
 |_+1,.done,_,_,_,_,_,_,hB,_=>by simp[Region.kI] at hB
theorem dU{id:Nat}{Q:Exit->Act->World->Prop}{a:Act}{w:World}{l:List Oper}(n:Nat)(s:je)(φ:World->Prop)(hm:P.follows .mixedOrders=true)(hB:Region.pX .any l.toArray n s=true)(hC:φ (w.drewN 1))
  (h:bQ P l.toArray (fun a' w'=>wpList P l.toArray Q (l.drop n) a' w') l s φ a (w.drewN 1)):(Code.region id l.toArray true).wp P Q a w:=by
 simp only[Region.pX,kJ,lE] at hB;obtain⟨⟨⟨⟨hsel,hn⟩,hs⟩,hc⟩,hlex⟩:=hB
 have inv0:HeadInv .any l.toArray n (Array.replicate l.toArray.size false):=
  ⟨by simp,fun j oj _ hl=>RK,fun t _ ht=>getD_in RT (getD_replicate_false _ _)⟩
 have H:=eX (md:=.any) (Lq:=fun a' w'=>wpList P l.toArray Q (l.drop n) a' w') hsel hs hc hn n s φ _ a _ hC inv0 hlex uO;exact Sb
end
theorem sQ{P:Program}{id:Nat}{Q:Exit->Act->World->Prop}{a:Act}{l:List Oper}(w:World)(n:Nat)(s:je)(hm:P.follows .mixedOrders=true)(hB:Region.pX .any l.toArray n s=true)(h:∀wq,Hid (Below w.heap.size w wq)->bQ P l.toArray (fun a' w'=>wpList P l.toArray Q (l.drop n) a' w') l s (BL w) a wq):(Code.region id l.toArray true).wp P Q a w:=dU n s _ hm hB (aG (Below.refl _ _) 1) (h _ (aG (Below.refl _ _) 1))
structure Aw(B0 B1 B2 M n:Nat)(rs:List aR.Ref)(W:ah.cG)(s:Sub.S)(w:World):Prop where
 NH:B0<=B1
 b12:B1<=B2
 Xn:B2+2<=M
 box:∃ar cr aw cw gs,w.heap[B2+1]?=some (.cells #[.slice ar rs.length cr,.slice aw W.length cw,.slice (some ⟨gs,0,none⟩) s.length s.length,.map (some B2)] 171 (0,0))/\
  EZ (fun b=>B0<=b/\b<B1) w (.slice ar rs.length cr) rs/\cZ (·<B0) w (.slice aw W.length cw) W/\mz (fun b=>B1<=b/\b<B2) w (.slice (some ⟨gs,0,none⟩) s.length s.length) s
 maps:∃bs:List Nat,nL w B2 bs/\bs.length=rs.length/\bs.Nodup/\(∀b∈bs,B2+2<=b/\b<M)/\∀k (h:k<bs.length) (h2:k<rs.length),dK w bs[k] n (jY W s rs[k])
theorem Aw.toV{B0 B1 B2 M n:Nat}{rs:List aR.Ref}{W:ah.cG}{s:Sub.S}{w:World}(h:Aw B0 B1 B2 M n rs W s w):StV B0 B1 B2 n rs W s w where
 NH:=h.NH
 b12:=h.b12
 box:=h.box
 maps:=by
  obtain⟨bs,h1,h2,h3,h4,h5⟩:=h.maps;exact⟨bs,h1,h2,h3,fun b hb=>(h4 b hb).1,h5⟩
theorem StV.toD{B0 B1 B2 n:Nat}{rs:List aR.Ref}{W:ah.cG}{s:Sub.S}{w:World}(h:StV B0 B1 B2 n rs W s w):Aw B0 B1 B2 w.heap.size n rs W s w where
 NH:=h.NH
 b12:=h.b12
 Xn:=by
  obtain⟨ar,cr,aw,cw,gs,h1, -⟩:=h.box;exact aj h1
 box:=h.box
 maps:=by
  obtain⟨bs,h1,h2,h3,h4,h5⟩:=h.maps;refine⟨bs,h1,h2,h3,fun b hb=>⟨h4 b hb,?_⟩,h5⟩;obtain⟨k,hk,rfl⟩:=List.getElem_of_mem hb;exact(h5 k hk aC).lt
theorem Aw.sR{B0 B1 B2 M n:Nat}{rs:List aR.Ref}{W:ah.cG}{s:Sub.S}{w w':World}(h:Aw B0 B1 B2 M n rs W s w)(hk:aB (·<M) w w'):Aw B0 B1 B2 M n rs W s w' where
 NH:=h.NH
 b12:=h.b12
 Xn:=h.Xn
 box:=by
  have h1:=h.NH;have h2:=h.b12;have h3:=h.Xn;obtain⟨ar,cr,aw,cw,gs,g1,g2,g3,g4⟩:=h.box;refine⟨ar,cr,aw,cw,gs,?_,dO.keep dN g2 (fun b hb hlt=>hk b (by have:=hb.2;show b<M;omega) hlt),g3.keep (fun b (hb:b<B0) hlt=>hk b (by show b<M;omega) hlt),dP.keep g4 (fun b hb hlt=>hk b (by have:=hb.2;show b<M;omega) hlt)⟩;rw[hk _ (by show B2+1<M;omega) (aj g1)];exact g1
 maps:=by
  have h3:=h.Xn;obtain⟨bs,g1,g2,g3,g4,g5⟩:=h.maps;exact⟨bs,g1.keep (hk _ (by show B2<M;omega) g1.lt),g2,g3,g4,fun k a b=>(g5 k a b).keep (hk _ (g4 _ (gY a)).2 (g5 k a b).lt)⟩
theorem Aw.mono{B0 B1 B2 M n m:Nat}{rs:List aR.Ref}{W:ah.cG}{s:Sub.S}{w:World}(h:Aw B0 B1 B2 M n rs W s w)(hm:n<=m):Aw B0 B1 B2 M m rs W s w where
 NH:=h.NH
 b12:=h.b12
 Xn:=h.Xn
 box:=h.box
 maps:=by
  obtain⟨bs,g1,g2,g3,g4,g5⟩:=h.maps;exact⟨bs,g1,g2,g3,g4,fun k a b=>(g5 k a b).mono hm⟩
theorem aS.abw{A:Nat->Obj->Prop}{n0 M:Nat}{w w':World}(h:aS A n0 w w')(hA:∀b o,b<M->¬A b o):aB (·<M) w w':=fun b hb hlt=>by
 have ho:w.heap[b]?=some w.heap[b]:=Array.getElem?_eq_getElem hlt;rw[ho,h.2 b _ ho (hA b _ hb)]
theorem aS.eG{A:Nat->Obj->Prop}{n0:Nat}{S:Nat->Prop}{w w':World}(h:Turns S w w')(hn:n0<=w.heap.size)(h0:∀b,S b->n0<=b)(hA:∀b o,S b->w.heap[b]?=some o->A b o):aS A n0 w w':=
 ⟨h.below hn h0,fun b o ho hb=>(h.block b (fun hS=>hb (hA b o hS ho)) (aj ho)).trans ho⟩
theorem dK.obj{w:World}{b n:Nat}{f:Int->Int->Int}(h:dK w b n f){o:Obj}(ho:w.heap[b]?=some o):¬book o:=by
 obtain⟨D,⟨es,clock,hb, -⟩, -⟩:=h;rw[hb] at ho;cases ho;simp[book]
theorem vo(W:ah.cG)(s:Sub.S)(r:aR.Ref)(k i:Nat)(c:Int):∀n,aR.sE W (Sub.drop s k i) r c n+(if r.kind=k/\i<n/\Sub.keeps s k i=true/\aR.nV W k i r.field=c then 1 else 0)=aR.sE W s r c n
 |0=>by simp[aR.sE]
 |n+1=>by
  have ih:=vo W s r k i c n;rw[qE,qE,Sub.iG];by_cases e:r.kind=k/\n=i
  ·obtain⟨rfl,rfl⟩:=e
   rw[if_neg aC] at ih;have h1:n<n+1:=by omega
   cases hk:Sub.keeps s r.kind n<;>simp[h1]<;>omega
  ·have h2:(decide (r.kind=k)&&decide (n=i))=false:=by simpa using e
   rw[h2];by_cases hr:r.kind=k
   ·have hni:n≠i:=fun h=>e ⟨hr,h⟩
    have h3:(i<n+1)↔i<n:=by omega
    simp only[h3];simp only[Bool.not_false,Bool.and_true];omega
   ·simp only[hr,false_and,if_false] at ih ⊢
    simp only[Bool.not_false,Bool.and_true];omega
theorem Gd{W:ah.cG}{s:Sub.S}{r:aR.Ref}{k i:Nat}(h:r.kind≠k):jY W (Sub.drop s k i) r=jY W s r:=by
 funext a c;unfold jY mP;have:=vo W s r k i c (W.getD r.kind []).length;rw[if_neg (by simp[h]),Nat.add_zero] at this;rw[this]
theorem DY{W:ah.cG}{s:Sub.S}{r:aR.Ref}{k i:Nat}(h:r.kind=k)(hi:i<(W.getD k []).length)(hk:Sub.keeps s k i=true):
  jY W (Sub.drop s k i) r=wV (jY W s r) r.up (aR.nV W k i r.field) (jY W s r r.up (aR.nV W k i r.field)-1):=by
 subst h;funext a c;unfold wV jY mP;have:=vo W s r r.kind i c (W.getD r.kind []).length;by_cases ha:a=r.up
 ·subst ha
  by_cases hc:c=aR.nV W r.kind i r.field
  ·subst hc
   rw[if_pos ⟨rfl,hi,hk,rfl⟩] at this;rw[if_pos rfl,if_pos ⟨rfl,rfl⟩,if_pos rfl];omega
  ·rw[if_neg (fun h=>hc h.2.2.2.symm),Nat.add_zero] at this
   rw[if_pos rfl,if_neg (fun h=>hc h.2),if_pos rfl,this]
 ·rw[if_neg ha,if_neg (fun h=>ha h.1),if_neg ha]
end Go.Proofs.YteiakkfdchnddaaGreatDoor
