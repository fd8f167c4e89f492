/- Part 11 of the walks and plain laws that the proof needs (packed). -/
import Derived.Deep.LoopGhost
import Derived.StringKeys
import Derived.Laws.IdiomStrings
import Derived.Laws.BytesArg
import Derived.Shelf.SlSortCmp.NoneTotal
import Derived.Ground.SlsfProg
import Derived.Test.YtibacilhkciihaaGreatDoorCards
import Derived.Test.YtibacilhkciihaaGreatDoorTie
import Derived.WalkKit
import Derived.ProofKit
import Derived.OpenShut
import Derived.Deep.DeepHandedRow
import Derived.Lib.LaidTab
import Derived.Stop.LaidErr
import Derived.MakeChecks
import Derived.LaidMore
import Derived.LaidSub
import Derived.Maps.OwnSet
import Derived.Test.YtibacilhkciihaaGreatDoorQ1
import Derived.Test.YtibacilhkciihaaGreatDoorQ3
import Derived.Test.YtibacilhkciihaaGreatDoorQ4
import Derived.Test.YtibacilhkciihaaGreatDoorQ6
import Derived.Test.YtibacilhkciihaaGreatDoorQ7
import Derived.Test.YtibacilhkciihaaGreatDoorQ8
import Derived.Test.YtibacilhkciihaaGreatDoorQ9
import Derived.Test.YtibacilhkciihaaGreatDoorQ10
set_option linter.all false
set_option maxRecDepth 100000
set_option maxHeartbeats 8000000
namespace Go.Proofs.YtibacilhkciihaaGreatDoor
open Go.RowKit
namespace Sub
def lV(W:S->Nat->Nat->Bool):List (Nat×Nat)->S->Bool
 |[],_=>false
 |x::l,s=>W s x.1 x.2||lV W l (if W s x.1 x.2 then drop s x.1 x.2 else s)
theorem Cj(W:S->Nat->Nat->Bool)(x:Nat×Nat):∀(l:List (Nat×Nat)) (s:S),pass W (l++[x]) s=if W (pass W l s) x.1 x.2 then drop (pass W l s) x.1 x.2 else pass W l s
 |[],s=>rfl
 |y::l,s=>by
  show pass W (l++[x]) _=_
  rw[Cj W x l];rfl
theorem zj(W:S->Nat->Nat->Bool)(x:Nat×Nat):∀(l:List (Nat×Nat)) (s:S),lV W (l++[x]) s=(lV W l s||W (pass W l s) x.1 x.2)
 |[],s=>by simp[lV,pass]
 |y::l,s=>by
  show (W s y.1 y.2||lV W (l++[x]) _)=_
  rw[zj W x l,<-Bool.or_assoc];rfl
theorem FL{W:S->Nat->Nat->Bool}:∀{l:List (Nat×Nat)} {s:S},lV W l s=false->pass W l s=s
 |[],_,_=>rfl
 |x::l,s,h=>by
  unfold lV at h;rw[Bool.or_eq_false_iff] at h;obtain⟨h1,h2⟩:=h;unfold pass;rw[h1] at h2 ⊢;exact FL h2
theorem Ck{W:S->Nat->Nat->Bool}:∀{l:List (Nat×Nat)} {s:S},(∀x∈l,keeps s x.1 x.2=true)->lV W l s=true->pass W l s≠s
 |[],_,_,h=>by cases h
 |x::l,s,hk,h=>by
  intro e;unfold lV at h;unfold pass at e;cases hw:W s x.1 x.2
  ·rw[hw] at h e
   exact Ck (fun y hy=>hk y (by simp[hy])) lD e
  ·rw[hw] at e
   have h1:=oq (W:=W) l (drop s x.1 x.2);rw[if_pos rfl] at e;rw[e] at h1;have:=h1 x.1 x.2 (hk x bp);rw[lK] at this;simp at this
theorem zl{W:S->Nat->Nat->Bool}{k i:Nat}:∀{l:List (Nat×Nat)} {s:S},(k,i)∉l->keeps s k i=true->keeps (pass W l s) k i=true
 |[],_,_,h=>h
 |x::l,s,hn,h=>by
  unfold pass;refine zl (fun hm=>hn (by simp[hm])) ?_;split
  ·rw[lK,h]
   have:¬(k=x.1/\i=x.2):=fun e=>hn (by rw[e.1,e.2];simp);simp only[Bool.true_and,Bool.not_eq_true',Bool.and_eq_false_iff,decide_eq_false_iff_not];omega
  ·exact h
theorem size_drop{s:S}{k i:Nat}(h:keeps s k i=true):size (drop s k i)<size s:=KG (KF s k i) h (by rw[lK];simp)
end Sub
theorem Jf{W:ah.eE}{t:Sub.S}(h:Sub.Fit (bV.shape W) t):Sub.size t<=ah.total W:=by
 unfold Sub.size Sub.kept;rw[List.length_flatMap,bV.FD];have hl:t.length=W.length:=by have:=h.1;rw[bV.uH] at this;exact this
 rw[hl];refine bV.FC fun k _=>?_;have h2:=h.2 k;rw[bV.rJ] at h2;rw[<-h2];unfold Sub.A4;exact Nat.le_trans (List.length_filterMap_le _ _) bp
attribute [local go_sem] Oper.semAt_some
theorem RA(N:Nat)(t:Array Value)(h:t.size=N):∃u:Nat->Value,t=((List.range N).map u).toArray:=by
 refine⟨fun i=>t.getD i undef,?_⟩;apply Array.ext
 ·simp[h]
 ·intro i h1 h2
  simp at h2;simp[Array.getD,h1]
theorem Vk:List.range 24=[0,1,2,3,4,5,6,7,8,9,10,11,12,13,14,15,16,17,18,19,20,21,22,23]:=fH
structure GrI(B0 B1 B2 M N w0 bt:Nat)(rs:List bV.Ref)(W:ah.eE)(s0 s:Sub.S)(bb:Bool)(ds:List Deferred)(w X:World):Prop where
 lt:w0<bt
 fit:Sub.Fit (bV.shape W) s
 size:Sub.size s<=Sub.size s0
 same:Sub.great (bV.wrong rs W) s=Sub.great (bV.wrong rs W) s0
 done:bb=false->Sub.great (bV.wrong rs W) s=s
 st:zi B0 B1 B2 M (N-Sub.size s) rs W s X
 ptr:X.heap[w0]?=some (.cells #[.pointer (some ⟨B2+1,0,none⟩)] 112 (0,0))
 again:X.heap[bt]?=some (.cells #[.bool bb] 4 (0,0))
 below:Below B1 w X
 marks:Marks w0 X.heap.size ds X
theorem Dt(x:ah.cA)(W:ah.eE)(s:Sub.S)(hfw:bV.sK x W)(hfit:Sub.Fit (bV.shape W) s)(B0 B1 B2 M n:Nat)(hn:n<=1000)(w:World)(hM:M<=w.heap.size)(h:zi B0 B1 B2 M n (bV.iN x) W s w):
  Calls Tryz.prog 51 #[.pointer (some ⟨B2+1,0,none⟩)] w fun e w'=>∃g,e=.returned (.slice (some ⟨g,0,none⟩) W.length W.length)/\kJ (fun b=>B1<=b/\b<B2) w' (.slice (some ⟨g,0,none⟩) W.length W.length) (Sub.great (bV.wrong (bV.iN x) W) s)/\Below B1 w w':=by
 have tH:=hfw.tot;have HFW:=hid hfw
 have aaP:∀t:Sub.S,Sub.Fit (bV.shape W) t->Sub.size t<=512:=fun t ht=>by
  have:=Jf ht;omega
 obtain⟨rs,Tg⟩:=bB (bV.iN x);rw[<-Tg] at h ⊢;have Rq:B1<=w.heap.size:=by have:=h.b12;have:=h.Tj;omega
 have hb2M:=h.Tj;have hb12':=h.b12;obtain⟨w1,hw1⟩:=bB ((w.alloc (.cells #[.pointer (some ⟨B2+1,0,none⟩)] 112)).alloc (.cells #[.bool true] 4));have hb1:BL w w1:=En
 obtain⟨N,hN⟩:=bB (n+Sub.size s);have hss:=aaP s hfit
 have H0:Hid (GrI B0 B1 B2 M N w.heap.size (w.heap.size+1) rs W s s true [] w w1):=hid {
  lt:=aB
  fit:=hfit
  size:=aH
  same:=rfl
  done:=fun h=>by cases h
  st:=(h.tg (fun b hb hlt=>hb1.block b hlt)).mono aB
  ptr:=by rw[hw1];exact bG _ (aW _ _ rfl)
  again:=OG
  below:=hb1.mono Rq
  marks:=Marks.nil _ _ _}
 have hN2:N<=1512:=aB
 have hN3:Sub.size s<=N:=aB
 have HW1:=hid hw1;have KM:=hid Tg;have kX:=hid hfit;clear h hfit hw1 hb1 hfw hN hss Tg;rw[<-callsIn_wide (n:=5)];refine callsIn_of_wp_marks Tryz.func51 rfl trivial ?_ rfl;simp only[Tryz.ntmps51,List.size_toArray,List.length_cons,List.length_nil,Nat.reduceAdd,Nat.reduceSub,Array.replicate_succ,Array.replicate_zero,List.push_toArray,List.append_toArray,List.nil_append,List.cons_append];rw[wpIn_wide];go_wp2;rw[<-HW1.out];refine wp_loop_ghost_k (fun kk a X=>a.tmps.size=24/\a.tmps.getD 1 undef=.pointer (some ⟨w.heap.size,0,none⟩)/\∃(bt:Nat) (bb:Bool) (s':Sub.S),a.tmps.getD 3 undef=.pointer (some ⟨bt,0,none⟩)/\kk=(if bb=true then Sub.size s'+1 else 0)/\GrI B0 B1 B2 M N w.heap.size bt rs W s s' bb a.defers w X) (Sub.size s+1) ?h0 ?aaQ;case h0=>exact⟨rfl,rfl,w.heap.size+1,true,s,rfl,rfl,H0.out⟩
 case aaQ=>
  rintro kk ⟨t,ds⟩ X ⟨hts,h1,bt,bb,s',h3,hkk,hG⟩ J K hJ hK;obtain⟨uu,rfl⟩:=RA 24 t hts;simp only[Vk,List.map_cons,List.map_nil] at h1 h3 ⊢;rw[show uu 1=_ from h1,show uu 3=_ from h3];have HG:=hid hG;have HJ:=hid hJ;have HK:=hid hK;clear h1 h3 hts hG;have c3:=(one_cell HG.out.again).1;have c3f:=(one_cell HG.out.again).2;have c1:=(one_cell HG.out.ptr).1;obtain⟨ar,cr,aw,cw,gs,tf, -, -,hsf⟩:=HG.out.st.box;have hsl:s'.length=W.length:=by have:=HG.out.fit.1;rw[bV.uH] at this;exact this
  have Ri:=hid hsl;clear hsl;cases bb with
  |false=>
   obtain⟨⟨x0,x1,x2,x3⟩, -⟩:=bC tf
   have HEnd:Hid (∀w',aM (bF w.heap.size) w.heap.size X w'->kJ (fun b=>B1<=b/\b<B2) w' (.slice (some ⟨gs,0,none⟩) W.length W.length) (Sub.great (bV.wrong rs W) s)/\Below B1 w w'):=hid (fun w' ht=>⟨by
    rw[<-HG.out.same,HG.out.done rfl,<-Ri.out]
    exact ez.keep hsf (aD.aS ht.1 (fun b hb=>by have:=hb.2;omega)),HG.out.below.trans (ht.1.mono Rq)⟩)
   clear tf hsf HJ HK
   go_wp2
   refine kV (v:=.slice (some ⟨gs,0,none⟩) s'.length s'.length) HG.out.marks (fun w' ht=>⟨?_,?_⟩)
   ·simp[results,Tryz.results51,go_sem]
   ·obtain⟨k1,k2⟩:=HEnd.out w' ht
    exact⟨gs,by rw[Ri.out],k1,k2⟩
  |true=>
   obtain⟨X1,hX1⟩:=bB (X.setCell ⟨bt,0,none⟩ (.bool false))
   have Ag:Hid (aM (fun b o=>b=bt/\¬book o) B1 X X1):=hid (by
    rw[hX1]
    exact(aM.refl _ _ _).setCell (p:=⟨bt,0,none⟩) HG.out.again ⟨rfl,xL⟩ (by have:=HG.out.lt;show B1<=bt;omega) _)
   have wP:Hid (zi B0 B1 B2 M (N-Sub.size s') rs W s' X1):=hid (by
    rw[hX1]
    exact HG.out.st.tg (fun b (hb:b<M) hlt=>jQ _ _ _ _ (by have:=HG.out.lt;show b≠bt;omega)))
   have HP1:Hid (X1.heap[w.heap.size]?=some (.cells #[.pointer (some ⟨B2+1,0,none⟩)] 112 (0,0))):=hid (by
    rw[hX1]
    exact(jQ _ _ _ _ (by have:=HG.out.lt;show w.heap.size≠bt;omega)).trans HG.out.ptr)
   have Ci:Hid (X1.heap[bt]?=some (.cells #[.bool false] 4 (0,0))):=hid (by rw[hX1];exact one_set _ HG.out.again)
   have hXs:bt<X1.heap.size:=aC Ci.out
   have hwX:w.heap.size<bt:=HG.out.lt
   have yU:=hid hX1
   clear hX1 tf hsf
   obtain⟨ar,cr,aw,cw,gs1,tf, -, -,hsf⟩:=wP.out.box
   have Yj:=hid (vY s' (by rw[Ri.out,HFW.out.len];have:=HFW.out.aA;omega) (fun r hr=>by
    obtain⟨j,hj,rfl⟩:=List.getElem_of_mem hr;have h2:=HG.out.fit.2 j;rw[Sub.aQ hj,bV.rJ] at h2;have h3:j<W.length:=by rw[<-Ri.out];exact hj
    unfold bV.vZ at h2;rw[Sub.aQ h3] at h2;have:=jx h3;omega) _ _ X1 (kJ.sl hsf))
   go_upto_region 4 with fail
   rw[<-yU.out]
   clear c1 c3 c3f
   have c1:=(one_cell HP1.out).1
   obtain⟨⟨x0,x1,x2,x3⟩, -⟩:=bC tf
   clear tf hsf
   go_wp2_with fail
   refine Yj.out.mono ?_
   rintro e X2 ⟨g2,rfl,adB,hb2⟩
   have bX:=hid hb2
   have Vi:=hid (ez.mono (S':=fun b=>X1.heap.size<=b/\b<X2.heap.size) adB (fun b hlt hb=>⟨hb,hlt⟩))
   clear adB hb2 Yj x0 x1 x2 x3 c1
   go_wp2_with fail
   refine(zh _ _ _ _).mono ?_
   rintro e X3 ⟨rfl,hX3⟩
   have hb3:BL X2 X3:=by rw[hX3];exact aF.alloc aH _
   have aaR:X3.heap[X2.heap.size]?=some (.cells #[.slice (some ⟨g2,0,none⟩) s'.length s'.length] 40 (0,0)):=by rw[hX3];exact aW _ _ rfl
   have hz2:=bX.out.size
   have PK:=aC aaR
   have cE:Hid (BL X1 X3):=hid (bX.out.trans (hb3.mono hz2))
   have HSV3:Hid (kI (fun b=>X1.heap.size<=b/\b<X2.heap.size) X3 (.slice (some ⟨g2,0,none⟩) s'.length s'.length) s'):=hid (kJ.sl (ez.keep Vi.out (aD.aS hb3 (fun b hb=>hb.2))))
   have Du:Hid (qO (α:=Nat×Nat) Tryz.prog B1 X3.heap.size 65 #[.pointer (some ⟨X2.heap.size,0,none⟩)] (fun x=> #[.agg #[.int .i64 (x.1:Int),.int .i64 (x.2:Int)]]) (fun pre x _=>pre++[x]<+:Sub.kept s') (fun b o=>((B1<=b/\b<M)\/b=bt)/\¬book o) (fun _ _=>False) (fun xs _=>xs=Sub.kept s') X3):=
    hid (uI s' B1 X3.heap.size X2.heap.size _ (fun b=>X1.heap.size<=b/\b<X2.heap.size) _ X3 aB HSV3.out aaR (fun o h=>by rcases h.1 with h|h<;>omega) (fun Y ht b hb hlt=>by
     have ho:X3.heap[b]?=some X3.heap[b]:=Array.getElem?_eq_getElem hlt;rw[ho];refine ht.2 b _ ho ?_;rintro (h|h)
     ·rcases h.1 with h|h<;>omega
     ·have:=h.1;omega))
   have rC:Hid (∀b o,X1.heap[b]?=some o->X3.heap[b]?=some o):=hid (fun b o h=>(cE.out.block b (aC h)).trans h)
   have WD:Hid (zi B0 B1 B2 M (N-Sub.size s') rs W s' X3):=hid (wP.out.tg (fun b hb hlt=>cE.out.block b hlt))
   clear hX3 hb3 aaR
   go_wp2
   rw[<-wpIn_wide (n:=5)]
   refine mB (α:=Nat×Nat) (n0:=B1) (gf:=65) rfl (bH Tryz.func65 (by kernel_rfl) rfl) (fun _=>rfl) Du.out aB (fun _ _ h=>h.elim) (fun _ _ h=>h.2)
    (fun pre Y=>aM (fun b o=>(((B1<=b/\b<M)\/b=bt)/\¬book o)\/bF X3.heap.size b o) B1 X3 Y/\zi B0 B1 B2 M (N-Sub.size (Sub.pass (bV.wrong rs W) pre s')) rs W (Sub.pass (bV.wrong rs W) pre s') Y/\
     Y.heap[bt]?=some (.cells #[.bool (Sub.lV (bV.wrong rs W) pre s')] 4 (0,0))) (fun _ _=>False)
    (fun pre A B h ht=> ?hI) (fun _ _ _ h _=>h) (fun _ _ _ h _=>h) ?hstart ?fO ?hdone ?hstop
   case hI=>
    have ht':=ht.mono (A':=bF X3.heap.size) (fun b o h=>h.elim False.elim id);exact⟨h.1.trans (ht.mono (fun b o h=>h.elim False.elim .inr)),h.2.1.tg (ht'.adq (fun b o hb ho=>by have:=ho.1;omega)),ht'.2 _ _ h.2.2 (by simp[bF,book])⟩
   case hstart=>exact⟨aM.refl _ _ _,WD.out,rC.out _ _ Ci.out⟩
   case fO=>
    rintro l pre y Y hlr hI Vl;obtain⟨k,i⟩:=y;simp only[List.zip_toArray,List.zip_cons_cons,List.zip_nil_left];have hsY:=hI.1.1.size;gi_wp2;refine⟨(aM.refl _ _ _).alloc aB _,fun Y2 ht2 hs2 hl2=>?_⟩;obtain⟨cur,hcur⟩:=bB (Sub.pass (bV.wrong rs W) pre s');obtain⟨pb,hpb⟩:=bB (Sub.lV (bV.wrong rs W) pre s');obtain⟨hI1,tE,Aw⟩:=hI;rw[<-hcur] at tE;rw[<-hpb] at Aw;have yt:Hid (∀b o,Y.heap[b]?=some o->¬book o->Y2.heap[b]?=some o):=hid (fun b o h hb=>ht2.2 _ _ (bG _ h) (fun h2=>hb h2.2));have Mq:Hid (Y2.heap[Y.heap.size]?=some (.cells #[.int .i64 (k:Int),.int .i64 (i:Int)] 136 (0,0))):=hid (ht2.2 _ _ (aW _ _ rfl) (by simp[bF,book]))
    have HST:Hid (zi B0 B1 B2 M (N-Sub.size cur) rs W cur Y2):=hid (tE.tg (fun b (hb:b<M) hlt=>by
     have e1:(Y.alloc (.cells #[.int .i64 (k:Int),.int .i64 (i:Int)] 136)).heap[b]?=Y.heap[b]?:=((Below.refl Y.heap.size Y).alloc aH _).block b hlt;have ho:Y.heap[b]?=some Y.heap[b]:=Array.getElem?_eq_getElem hlt;rw[ho] at e1 ⊢;exact ht2.2 _ _ e1 (fun h2=>by have:=h2.1;omega)))
    have HPt:Hid (Y2.heap[w.heap.size]?=some (.cells #[.pointer (some ⟨B2+1,0,none⟩)] 112 (0,0))):=hid (yt.out _ _ (hI1.2 _ _ (rC.out _ _ HP1.out) (by
     rintro (h|h)
     ·rcases h.1 with h|h<;>omega
     ·exact h.2)) xL)
    have HAg:Hid (Y2.heap[bt]?=some (.cells #[.bool pb] 4 (0,0))):=hid (yt.out _ _ Aw xL);have hmem:(k,i)∈Sub.kept s':=Vl.subset bp;have hkp:=Sub.kg.1 hmem;obtain⟨vX,xG⟩:=bV.aaD HG.out.fit hkp;have adC:i<W[k].length:=by unfold bV.vZ at xG;rwa [Sub.aQ vX] at xG
    have hnd:(pre++[(k,i)]).Nodup:=Vl.sublist.nodup (Sub.rE s');have hnot:(k,i)∉pre:=fun h=>(List.nodup_append.1 hnd).2.2 _ h (k,i) bp rfl;have hkc:Sub.keeps cur k i=true:=by rw[hcur];exact Sub.zl hnot hkp
    have hfc:Sub.Fit (bV.shape W) cur:=by rw[hcur];exact Sub.nH _ HG.out.fit
    have hsc:Sub.size cur<=Sub.size s':=by rw[hcur];exact Sub.size_le (Sub.oq _ _)
    have hsh:W.map List.length=cur.map List.length:=(bV.KY hfc).symm
    have HWr:Hid (CB 86 #[.pointer (some ⟨B2+1,0,none⟩),.agg #[.int .i64 (k:Int),.int .i64 (i:Int)]] Y2 (.bool (bV.wrong rs W cur k i))):=hid (by
     have:=MV x W cur HFW.out hsh B0 B1 B2 (N-Sub.size cur) k i vX adC Y2 (by rw[<-KM.out];exact HST.out.toV)
     rw[<-KM.out] at this
     exact this)
    have UZ:Hid (∀V,zi B0 B1 B2 M (N-Sub.size cur) rs W cur V->CP 87 #[.pointer (some ⟨B2+1,0,none⟩),.agg #[.int .i64 (k:Int),.int .i64 (i:Int)]] V fun e w'=>(∃v,e=.returned v)/\zi B0 B1 B2 M (N-Sub.size cur+1) rs W (Sub.drop cur k i) w'/\aM (fun b o=>(B1<=b/\b<M)/\¬book o) B1 V w'):=hid (fun V hV=>by
     have:=Rx x W cur HFW.out hsh B0 B1 B2 M (N-Sub.size cur) aB k i vX adC hkc V (by rw[<-KM.out];exact hV);rw[<-KM.out] at this;exact this)
    have Vn:Hid (Sub.pass (bV.wrong rs W) (pre++[(k,i)]) s'=if bV.wrong rs W cur k i then Sub.drop cur k i else cur):=hid (by rw[Sub.Cj,hcur]);have Ff:Hid (Sub.lV (bV.wrong rs W) (pre++[(k,i)]) s'=(pb||bV.wrong rs W cur k i)):=hid (by rw[Sub.zj,hcur,hpb]);have hsd:=Sub.size_drop hkc;have hss:=HG.out.size;have adD:Hid (aM (fun b o=>(((B1<=b/\b<M)\/b=bt)/\¬book o)\/bF X3.heap.size b o) B1 X3 Y2):=hid ((hI1.alloc aB _).trans (ht2.mono (fun b o h=>.inr h)));have IA:=aC Mq.out;have hpt2:=aC HPt.out;have T9:=aC HAg.out;have c1:=(one_cell HPt.out).1;obtain⟨⟨a0,a1⟩, -⟩:=l6 Mq.out;have hNs:Sub.size cur<=N:=aB
    clear hI1 tE Aw hcur hpb hmem hkp xG hnd hnot hkc hfc hsc hsh hs2 ht2 Vl;gi_wp2_with fail;refine⟨trivial,rfl,gN.2 (HWr.out.mono ?_)⟩;rintro e Y3 ⟨rfl,hb3⟩;have cE:=hid hb3;have PK:=hb3.size;clear c1 a0 a1 hb3;generalize bV.wrong rs W cur k i=bw at*;cases bw with
    |false=>
     have HQ:Hid (QS (fun b o=>((B1<=b/\b<M)\/b=bt)/\¬book o) B1 (fun pre Y=>aM (fun b o=>(((B1<=b/\b<M)\/b=bt)/\¬book o)\/bF X3.heap.size b o) B1 X3 Y/\zi B0 B1 B2 M (N-Sub.size (Sub.pass (bV.wrong rs W) pre s')) rs W (Sub.pass (bV.wrong rs W) pre s') Y/\
       Y.heap[bt]?=some (.cells #[.bool (Sub.lV (bV.wrong rs W) pre s')] 4 (0,0))) (fun(_:List (Nat×Nat)) _=>False) (pre++[(k,i)]) Y2 .normal {tmps:=#[],defers:=[]} Y3):=hid (by
      refine⟨aM.aS cE.out aB,adD.out.trans (aM.aS cE.out aB),?_,?_⟩
      ·rw[Vn.out]
       exact HST.out.tg (fun b hb hlt=>cE.out.block b hlt)
      ·rw[Ff.out,Bool.or_false]
       exact(cE.out.block _ T9).trans HAg.out)
     clear Vn Ff
     gi_wp2
     exact HQ.out
    |true=>
     have adE:zi B0 B1 B2 M (N-Sub.size cur) rs W cur Y3:=HST.out.tg (fun b hb hlt=>cE.out.block b hlt)
     have UN:=hid (UZ.out Y3 adE)
     have c1:=(one_cell ((cE.out.block _ hpt2).trans HPt.out)).1
     obtain⟨⟨a0,a1⟩, -⟩:=l6 ((cE.out.block _ IA).trans Mq.out)
     clear adE
     gi_wp2_with fail
     refine⟨trivial,rfl,gN.2 (UN.out.mono ?_)⟩
     rintro e Y4 ⟨⟨v4,rfl⟩,adF,rB⟩
     have Od:Hid (Y4.heap[bt]?=some (.cells #[.bool pb] 4 (0,0))):=hid (rB.2 _ _ ((cE.out.block _ T9).trans HAg.out) (fun h=>by have:=h.1;omega))
     have h4c:=(one_cell Od.out).1
     have h4f:=(one_cell Od.out).2
     have HQ:Hid (QS (fun b o=>((B1<=b/\b<M)\/b=bt)/\¬book o) B1 (fun pre Y=>aM (fun b o=>(((B1<=b/\b<M)\/b=bt)/\¬book o)\/bF X3.heap.size b o) B1 X3 Y/\zi B0 B1 B2 M (N-Sub.size (Sub.pass (bV.wrong rs W) pre s')) rs W (Sub.pass (bV.wrong rs W) pre s') Y/\
       Y.heap[bt]?=some (.cells #[.bool (Sub.lV (bV.wrong rs W) pre s')] 4 (0,0))) (fun(_:List (Nat×Nat)) _=>False) (pre++[(k,i)]) Y2 .normal {tmps:=#[],defers:=[]} (Y4.setCell ⟨bt,0,none⟩ (.bool true))):=hid (by
      have t24:aM (fun b o=>((B1<=b/\b<M)\/b=bt)/\¬book o) B1 Y2 (Y4.setCell ⟨bt,0,none⟩ (.bool true)):=
       aM.setCell (p:=⟨bt,0,none⟩) ((aM.aS cE.out aB).trans (rB.mono (fun b o h=>⟨.inl h.1,h.2⟩))) Od.out ⟨.inr rfl,xL⟩ (by show B1<=bt;omega) _
      refine⟨t24,adD.out.trans (t24.mono (fun b o h=>.inl h)),?_,?_⟩
      ·rw[Vn.out]
       simp only[if_true];exact(adF.mono aB).tg (fun b (hb:b<M) hlt=>jQ _ _ _ _ (show b≠bt by omega))
      ·rw[Ff.out,Bool.or_true]
       exact one_set _ Od.out)
     clear Vn Ff adF rB c1 a0 a1
     gi_wp2
     exact HQ.out
   case hdone=>
    rintro D xs Y hD rfl hI hk;obtain⟨hI1,tE,Aw⟩:=hI;have hsY:=hI1.1.size;obtain⟨cur,hcur⟩:=bB (Sub.pass (bV.wrong rs W) (Sub.kept s') s');obtain⟨pb,hpb⟩:=bB (Sub.lV (bV.wrong rs W) (Sub.kept s') s');rw[<-hcur] at tE;rw[<-hpb] at Aw;have Vo:∀x∈Sub.kept s',Sub.keeps s' x.1 x.2=true:=fun x hx=>by obtain⟨a,b⟩:=x;exact Sub.kg.1 hx
    have hgs:=Sub.Hv (W:=bV.wrong rs W) HG.out.fit;rw[<-hcur] at hgs;have hcl:Sub.size cur<=Sub.size s':=by rw[hcur];exact Sub.size_le (Sub.oq _ _)
    have hne:pb=true->cur≠s':=fun h=>by rw[hcur];exact Sub.Ck Vo (hpb.symm.trans h)
    have hno:pb=false->cur=s':=fun h=>by rw[hcur];exact Sub.FL (hpb.symm.trans h)
    have hless:pb=true->Sub.size cur<Sub.size s':=fun h=>by
     have:=hne h;rw[hcur] at this ⊢;exact Sub.uh HG.out.fit this
    have hgr:Sub.great (bV.wrong rs W) cur=Sub.great (bV.wrong rs W) s':=by
     by_cases e:cur=s'
     ·rw[e]
     ·rw[hgs,if_neg e]
    obtain⟨Y1,hY1⟩:=bB (Y.alloc (.cells #[.bool pb] 4));have hbY:BL Y Y1:=by rw[hY1];exact aF.alloc aH _
    have hpY:Y.heap[w.heap.size]?=some (.cells #[.pointer (some ⟨B2+1,0,none⟩)] 112 (0,0)):=hI1.2 _ _ (rC.out _ _ HP1.out) (by
     rintro (h|h)
     ·rcases h.1 with h|h<;>omega
     ·exact h.2)
    have Ez:Marks w.heap.size X3.heap.size ds X3:=by
     have h1:Marks w.heap.size X.heap.size ds X1:=Marks.turn (A:=fun b o=>b=bt/\¬book o) HG.out.marks Ag.out (fun b o _ h=>h.2);have h2:Marks w.heap.size X.heap.size ds X3:=Marks.turn (A:=fun _ _=>False) h1 (n1:=B1) ⟨cE.out.mono aB,fun b o hb _=>rC.out b o hb⟩ (fun _ _ _ h=>h.elim);exact h2.mono (by have:=Ag.out.1.size;omega)
    have hmY:Marks w.heap.size X3.heap.size ds Y:=Marks.turn Ez hI1 (fun b o hb h hbk=>by
     rcases h with h|h
     ·exact h.2 hbk
     ·have:=h.1;omega)
    have hmD:=Marks.push hmY hD aB hk
    have HN:Hid (GrI B0 B1 B2 M N w.heap.size Y.heap.size rs W s cur pb ({target:=.collected D,args:=#[]}::ds) w Y1):=hid {
     lt:=aB
     fit:=by rw[hcur];exact Sub.nH _ HG.out.fit
     size:=Nat.le_trans hcl HG.out.size
     same:=hgr.trans HG.out.same
     done:=fun h=>by
      have:=hno h;rw[this] at hgs ⊢;simpa using hgs
     st:=tE.tg (fun b hb hlt=>hbY.block b hlt)
     ptr:=(hbY.block _ (aC hpY)).trans hpY
     again:=by rw[hY1];exact aW _ _ rfl
     below:=HG.out.below.trans (Ag.out.1.trans ((cE.out.mono aB).trans (hI1.1.trans (hbY.mono aB))))
     marks:=(Marks.turn (A:=fun _ _=>False) hmD (n1:=B1) ⟨hbY.mono aB,fun b o hb _=>(hbY.block b (aC hb)).trans hb⟩ (fun _ _ _ h=>h.elim)).mono hbY.size}
    have c3:=(one_cell Aw).1;have Mf:=hid hless;have HY1:=hid hY1;clear hI1 tE Aw hk Vo hgs hne hno hgr hpY Ez hmY hmD hbY hless hcur hpb;dsimp only;go_wp2;rw[<-HY1.out];refine Handed.intro (if pb=true then Sub.size cur+1 else 0) ?_ (HJ.out _ _ _ ⟨rfl,rfl,Y.heap.size,pb,cur,rfl,rfl,HN.out⟩);rw[hkk];simp only[if_true];cases pb with
    |false=>simp
    |true=>
     have:=Mf.out rfl
     simp
     omega
   case hstop=>
    rintro D xs Y hD h;exact h.elim
structure tj(tb:Nat)(x:ah.cA)(W:ah.eE)(v u:Value)(B:Nat)(w:World):Prop where
 tM:d9 (·<B) w v x
 wj:bN (·<B) w u W
 laid:LaidW w
 tab:TabC tb w
 Vp:tb<B
 size:5<=B
 le:B<=w.heap.size
theorem tj.keep{tb:Nat}{x:ah.cA}{W:ah.eE}{v u:Value}{B:Nat}{w w':World}(h:tj tb x W v u B w)(hb:Below B w w'):tj tb x W v u B w' where
 tM:=h.tM.keep (aD.aS hb (fun _ h=>h))
 wj:=h.wj.keep (aD.aS hb (fun _ h=>h))
 laid:=h.laid.below hb h.size
 tab:=h.tab.below hb h.Vp (by have:=h.size;omega)
 Vp:=h.Vp
 size:=h.size
 le:=Nat.le_trans h.le hb.size
theorem tj.next{tb:Nat}{x:ah.cA}{W:ah.eE}{v u:Value}{B:Nat}{w w':World}(h:tj tb x W v u B w)(hb:BL w w'):tj tb x W v u B w':=h.keep (hb.mono h.le)
theorem FM{x:ah.cA}{W:ah.eE}{s:Sub.S}(hc:bV.uj x W s=0):bV.sK x W/\Sub.Fit (bV.shape W) s:=by
 have hp:ah.okB x=true/\bV.oQ x W=true/\bV.ox W s=true:=by
  exact XU
 exact⟨bV.Xr hp.1 hp.2.1,bV.Hz hp.2.2⟩
theorem Bg(x:ah.cA)(W:ah.eE)(s:Sub.S)(hc:bV.uj x W s=0)(v u t:Value)(U:Nat->Prop)(tb B:Nat)(w:World)(ha:tj tb x W v u B w)(hs:kI U w t s):
  Calls Tryz.prog 19 #[v,u,t] w fun e w'=>∃g,e=.returned (.tuple #[.slice (some ⟨g,0,none⟩) W.length W.length,.int .i64 0])/\kJ (w.heap.size<=·) w' (.slice (some ⟨g,0,none⟩) W.length W.length) (Sub.great (bV.wrong (bV.iN x) W) s)/\BL w w':=by
 obtain⟨hfw,hfit⟩:=FM hc;obtain⟨ak,ck,al,cl,ar,cr,rfl, -⟩:=ha.tM.form;obtain⟨w1,hw1⟩:=bB (dP w x.aL (.slice ak x.aA.length ck) (.slice al x.aP.length cl) (.slice ar x.aR.length cr));have bT:=wS hw1;have HX:=Hl hw1;unfold dP at hw1;have HW1:=hid hw1;clear hw1;have HCk:=hid (fun(X:World) (hX:BL w X)=>Dp x W s hc _ u t _ _ U tb X (ha.next hX).tM (ha.next hX).wj (hs.keep (aD.below hX)) (ha.next hX).laid (ha.next hX).tab);have Xm:=hid (fun(X:World) (hX:BL w X)=>MR x W s hfw (bV.KY hfit).symm _ u t _ _ U X (ha.next hX).tM (ha.next hX).wj (hs.keep (aD.below hX)));have HGr:=hid (fun(X:World) (B0 B1 B2 M:Nat)=>Dt x W s hfw hfit B0 B1 B2 M 512 aB X);obtain⟨aw,cw,rfl, -, -, -⟩:=ha.wj.form;obtain⟨oA,cs,rfl, -, -, -⟩:=hs.form;clear hs ha hfw hfit;obtain⟨⟨y0,y1,y2,y3⟩, -⟩:=bC (HX.out w1 aF);go_enter Tryz.func19,Tryz.ntmps19;go_upto_region 1 with fail;rw[<-HW1.out];go_wp2_with fail;refine(HCk.out w1 bT.out).mono ?_;rintro e w2 ⟨rfl,hb⟩;have iE:Hid (BL w1 w2):=hid hb;have bX:=aU bT hb;clear hb y0 y1 y2 y3;obtain⟨⟨y0,y1,y2,y3⟩, -⟩:=bC (HX.out w2 iE.out);go_wp2_with fail;refine(Xm.out w2 bX.out).mono ?_;rintro e w3 ⟨B0,B1,B2,rfl,hst,hB0,hb3⟩;have cE:=aU bX hb3;have C5:=hid (HGr.out w3 B0 B1 B2 w3.heap.size aH hst.toD);have aaG:=hst.MN;have hz2:=bX.out.size;clear hb3 hst y0 y1 y2 y3;go_wp2_with fail;refine C5.out.mono ?_;rintro e w4 ⟨g,rfl,hsf,hb4⟩;have gK:Hid (BL w w4):=hid (cE.out.trans (hb4.mono aB));have HSF:=hid (ez.mono (S':=(w.heap.size<=·)) hsf (fun b _ hb=>by have:=hb.1;show w.heap.size<=b;omega));clear hb4 hsf;go_wp2;go_ret2;exact⟨g,rfl,HSF.out,gK.out⟩
attribute [local go_sem] Oper.semAt_some
def Jg(B:Nat):Nat->Obj->Prop:=fun b o=>b=B/\¬book o
section
variable {P:Program} {lp n':Nat}
theorem tq{id:Nat}{Q:Exit->Act->World->Prop}{a:Act}{w:World}{l:List Oper}(n:Nat)(s:lI)(φ:World->Prop)(hm:P.follows .mixedOrders=true)(hB:Region.mZ .any l.toArray n s=true)(hp:Region.I7 l.toArray=true)(hC:φ (w.drewN 1))
  (h:∀K:Act->World->Prop,(∀a' w',Q .normal a' w'->K a' w')->cM P l.toArray (fun a' w'=>wpList P l.toArray (QN K) (l.drop n) a' w') l s φ a (w.drewN 1)):(Code.region id l.toArray true).wpIn (Fence.wide.inRound lp) n' P Q a w:=by
 have h:=h (fun a' w'=>Q .normal a' w') (fun _ _ h=>h);simp only[Region.mZ,pF,qZ] at hB;obtain⟨⟨⟨⟨hsel,hn⟩,hs⟩,hc⟩,hlex⟩:=hB
 have inv0:HeadInv .any l.toArray n (Array.replicate l.toArray.size false):=
  ⟨bp,fun j oj _ hl=>Zb,fun t _ ht=>getD_in (by simpa using ht) (getD_replicate_false _ _)⟩
 have H:=dW (md:=.any) (Lq:=fun a' w'=>wpList P l.toArray (QN fun a' w'=>Q .normal a' w') (l.drop n) a' w') hsel hs hc hn n s φ _ a _ hC inv0 hlex lD;refine wpIn_region_any hm (Rc (K2:=fun a w=>Q .normal a w) (Region.I8 hp) (fun _ _ h=>h) _ _ _ _ ?_);have hdl:(l.drop n).length=l.toArray.size-n:=bp
 have:=jk (Q':=QN fun a' w'=>Q .normal a' w') (g:=l.toArray.size-n) (fun listed a' w' hL=>by
  have:=wpAny_of_seq (md:=.any) (Q':=QN fun a' w'=>Q .normal a' w') (l.drop n) n listed a' w' (fun j=>by simp[List.getElem?_drop]) (by rw[hdl];exact hL.1) hL.2;rwa [hdl] at this) _ _ _ _ H
 rw[show n+(l.toArray.size-n)=l.toArray.size by omega] at this;exact this
end
attribute [local go_sem] Oper.semAt_some
end Go.Proofs.YtibacilhkciihaaGreatDoor
namespace Go.Proofs.YtibacilhkciihaaGreatDoor.Dr
open Go.RowKit
structure Below(B:Nat)(w w':World):Prop where
 toB:Go.RowKit.Below B w w'
 drawn:w.drawn<=w'.drawn
theorem Below.size{B:Nat}{w w':World}(h:Below B w w'):w.heap.size<=w'.heap.size:=h.toB.size
theorem Below.block{B:Nat}{w w':World}(h:Below B w w'):∀k,k<B->w'.heap[k]?=w.heap[k]?:=h.toB.block
theorem Below.refl(B:Nat)(w:World):Below B w w:=⟨.refl _ _,aH⟩
theorem Below.trans{B:Nat}{a b c:World}(h:Below B a b)(k:Below B b c):Below B a c:=⟨h.toB.trans k.toB,Nat.le_trans h.drawn k.drawn⟩
theorem Below.mono{B B':Nat}{w w':World}(h:Below B w w')(hB:B'<=B):Below B' w w':=⟨h.toB.mono hB,h.drawn⟩
theorem Below.alloc{B:Nat}{a w:World}(h:Below B a w)(hB:B<=w.heap.size)(o:Obj):Below B a (w.alloc o):=⟨h.toB.alloc hB o,h.drawn⟩
theorem Below.setCell{B:Nat}{a w:World}(h:Below B a w){p:Addr}(hp:B<=p.block)(u:Value):Below B a (w.setCell p u):=⟨h.toB.setCell hp u,h.drawn⟩
theorem aI{B:Nat}{a w:World}(h:Below B a w)(n:Nat):Below B a (w.drewN n):=⟨YtibacilhkciihaaGreatDoor.aI h.toB n,Nat.le_trans h.drawn (Nat.le_add_right _ _)⟩
theorem aD.aS{S:Nat->Prop}{w w':World}{B:Nat}(h:Below B w w')(hS:∀b,S b->b<B):aD S w w':=YtibacilhkciihaaGreatDoor.aD.aS h.toB hS
theorem aD.below{S:Nat->Prop}{w w':World}(h:Below w.heap.size w w'):aD S w w':=YtibacilhkciihaaGreatDoor.aD.below h.toB
def aM(A:Nat->Obj->Prop)(n0:Nat)(W W':World):Prop:=Below n0 W W'/\∀(b:Nat) (o:Obj),W.heap[b]?=some o->¬A b o->W'.heap[b]?=some o
theorem aM.refl(A:Nat->Obj->Prop)(n0:Nat)(W:World):aM A n0 W W:=⟨(Below.refl _ _),fun _ _ h _=>h⟩
theorem aM.trans{A:Nat->Obj->Prop}{n0:Nat}{W W1 W2:World}(h:aM A n0 W W1)(k:aM A n0 W1 W2):aM A n0 W W2:=
 ⟨h.1.trans k.1,fun b o hb ha=>k.2 b o (h.2 b o hb ha) ha⟩
theorem aM.mono{A A':Nat->Obj->Prop}{n0:Nat}{W W1:World}(h:aM A n0 W W1)(hA:∀b o,A b o->A' b o):aM A' n0 W W1:=
 ⟨h.1,fun b o hb ha=>h.2 b o hb (fun h=>ha (hA b o h))⟩
theorem aM.putObj{A:Nat->Obj->Prop}{n0:Nat}{W:World}{l:Nat}{o:Obj}(o':Obj)(h:W.heap[l]?=some o)(ha:A l o)(hn:n0<=l):aM A n0 W (W.putObj l o'):=
 have:=YtibacilhkciihaaGreatDoor.aM.putObj o' h ha hn
 ⟨⟨this.1,aH⟩,this.2⟩
theorem aM.alloc{A:Nat->Obj->Prop}{n0:Nat}{W W1:World}(h:aM A n0 W W1)(hn:n0<=W.heap.size)(o:Obj):aM A n0 W (W1.alloc o):=
 ⟨h.1.alloc (Nat.le_trans hn h.1.size) o,fun b o2 hb ha=>(Go.RowKit.Below.heap_alloc W1 o b (Array.getElem?_eq_some_iff.1 (h.2 b o2 hb ha)).1).trans (h.2 b o2 hb ha)⟩
theorem aM.drewN{A:Nat->Obj->Prop}{n0:Nat}{W W1:World}(h:aM A n0 W W1)(m:Nat):aM A n0 W (W1.drewN m):=⟨aI h.1 m,h.2⟩
theorem aM.setCell{A:Nat->Obj->Prop}{n0:Nat}{W W1:World}(h:aM A n0 W W1){p:Addr}{o:Obj}(hp:W1.heap[p.block]?=some o)(ha:A p.block o)(hn:n0<=p.block)(v:Value):aM A n0 W (W1.setCell p v):=by
 refine h.trans ⟨(Below.refl _ _).setCell hn v,fun b o2 hb ha2=>?_⟩;by_cases e:b=p.block
 ·subst e;rw[hp] at hb;cases hb;exact absurd ha ha2
 ·exact(Go.RowKit.Below.heap_setCell _ _ _ _ e).trans hb
theorem aM.aS{A:Nat->Obj->Prop}{n0:Nat}{w w':World}(h:Below w.heap.size w w')(hn:n0<=w.heap.size):aM A n0 w w':=
 ⟨h.mono hn,fun b _ hb _=>(h.block b (Array.getElem?_eq_some_iff.1 hb).1).trans hb⟩
def Marks(n0 nB:Nat)(ds:List Deferred)(w:World):Prop:=
 ∃Ds:List Nat,ds=Ds.map (fun D=>{target:=.collected D,args:=#[]})/\Ds.Nodup/\∀D∈Ds,n0<=D/\D<nB/\w.heap[D]?=some (.deferred (some []))
theorem Marks.nil(n0 nB:Nat)(w:World):Marks n0 nB [] w:=⟨[],rfl,List.nodup_nil,fun D h=>absurd h bp⟩
theorem Marks.mono{n0 nB nB':Nat}{ds:List Deferred}{w:World}(h:Marks n0 nB ds w)(hn:nB<=nB'):Marks n0 nB' ds w:=by
 obtain⟨Ds,h1,h2,h3⟩:=h;exact⟨Ds,h1,h2,fun D hD=>⟨(h3 D hD).1,Nat.lt_of_lt_of_le (h3 D hD).2.1 hn,(h3 D hD).2.2⟩⟩
theorem Marks.turn{A:Nat->Obj->Prop}{n0 n1 nB:Nat}{ds:List Deferred}{w w':World}(h:Marks n0 nB ds w)(ht:aM A n1 w w')(hA:∀b o,b<nB->A b o->¬book o):Marks n0 nB ds w':=by
 exact XY
theorem Marks.push{n0 nB:Nat}{ds:List Deferred}{w:World}(h:Marks n0 nB ds w){D:Nat}(hD:nB<=D)(hn:n0<=D)(hk:w.heap[D]?=some (.deferred (some []))):
  Marks n0 w.heap.size ({target:=.collected D,args:=#[]}::ds) w:=by
 obtain⟨Ds,h1,h2,h3⟩:=h;have hlt:=(Array.getElem?_eq_some_iff.1 hk).1;refine⟨D::Ds,by rw[h1];rfl,List.nodup_cons.2 ⟨fun hm=>?_,h2⟩,fun E hE=>?_⟩
 ·have:=(h3 D hm).2.1
  omega
 ·rcases List.mem_cons.1 hE with rfl|hE
  ·exact⟨hn,hlt,hk⟩
  ·exact⟨(h3 E hE).1,by have:=(h3 E hE).2.1;omega,(h3 E hE).2.2⟩
theorem jU{P:Program}{n n0:Nat}{fn:Func}{tmps:Array Value}{R:Ending->World->Prop}{v:Value}:∀(Ds:List Nat) (w:World),Ds.Nodup->(∀D∈Ds,n0<=D/\w.heap[D]?=some (.deferred (some [])))->
  (∀w',aM (bF n0) n0 w w'->(results fn tmps).run P w'=.ok v w'/\R (.returned v) w')->LeavesInM Fence.wide n P fn tmps R (Ds.map (fun D=>{target:=.collected D,args:=#[]})) .returning w
 |[],w,_,_,h=>⟨_,(h w (aM.refl _ _ _)).1,(h w (aM.refl _ _ _)).2⟩
 |D::Ds,w,hn,hD,h=>by
  obtain⟨hnd,hns⟩:=List.nodup_cons.1 hn;have hk:=(hD D List.mem_cons_self);have ht:aM (bF n0) n0 w (w.putObj D (.deferred none)):=aM.putObj _ hk.2 ⟨hk.1,trivial⟩ hk.1;refine⟨bp,.inl ⟨D,_,rfl,run_takeDeferred hk.2,?_⟩⟩;refine jU Ds _ hns (fun E hE=>⟨(hD E (List.mem_cons_of_mem _ hE)).1,?_⟩) (fun w' h'=>h w' (ht.trans h'));have hne:E≠D:=fun e=>hnd (e▸hE);exact(World.putObj_heap_other hne).trans (hD E (List.mem_cons_of_mem _ hE)).2
theorem kV{P:Program}{n n0:Nat}{fn:Func}{tmps:Array Value}{ds:List Deferred}{w:World}{R:Ending->World->Prop}{v:Value}{nB:Nat}(hm:Marks n0 nB ds w)
  (h:∀w',aM (bF n0) n0 w w'->(results fn tmps).run P w'=.ok v w'/\R (.returned v) w'):bodyPostM Fence.wide n P fn R .ret {tmps,defers:=ds} w:=by
 exact XZ
def qO{α:Type}(P:Program)(n0 nB gf:Nat)(lb:Array Value)(encs:α->Array Value)(G:List α->α->World->Prop)(bA iA:Nat->Obj->Prop)(S:List α->World->Prop)(w:World):Prop:=
 ∀(l:Nat) (J Jx:List α->World->Prop) (W:World),Below w.heap.size w W->
  (∀pre A B,J pre A->aM iA n0 A B->J pre B)->(∀pre A B,Jx pre A->aM iA n0 A B->Jx pre B)->
  (∀pre x W1,J pre W1->G pre x W1->YieldAt Fence.wide 0 P l (encs x) W1 fun e W'=>
   aM (fun b o=>bA b o\/bF nB b o) n0 W1 W'/\((e=.returned (.bool true)/\J (pre++[x]) W')\/(e=.returned (.bool false)/\Jx (pre++[x]) W')))->
  J [] W->Calls P gf (#[.func (.yield l) #[] #[]]++lb) W fun e W'=>(∃v,e=.returned v)/\((∃xs,S xs W'/\J xs W')\/∃xs,Jx xs W')
def QS{α:Type}(bA:Nat->Obj->Prop)(n0:Nat)(I Ix:List α->World->Prop)(xs:List α)(W:World):Exit->Act->World->Prop
 | .normal,_,W3=>aM bA n0 W W3/\I xs W3
 | .ret,_,W3=>aM bA n0 W W3/\Ix xs W3
 |_,_,_=>False
theorem za{P:Program}{α:Type}{n0 nB:Nat}{ps:Array Tmp}{assign body:Code}{fn:FuncId}{tmps:Array Value}{MO l gf:Nat}{lb:Array Value}{w W1:World}
  {encs:α->Array Value}(hps:∀x,(encs x).size=ps.size){G:List α->α->World->Prop}{bA iA:Nat->Obj->Prop}{S:List α->World->Prop}(hseq:qO P n0 nB gf lb encs G bA iA S w)
  (hb1:Below w.heap.size w W1)(hL1:W1.heap[l]?=some (.loop (jw fn tmps ps assign body MO .ready none)))(hlB:nB<=l)(hn:n0<=nB)(X5:∀b o,iA b o->¬book o)(D7:∀b o,bA b o->¬book o)
  (I Ix:List α->World->Prop)(hI:∀pre A B,I pre A->aM (fun b o=>iA b o\/bF nB b o) n0 A B->I pre B)(hIx:∀pre A B,Ix pre A->aM (fun b o=>iA b o\/bF nB b o) n0 A B->Ix pre B)
  (hS:∀xs A B,S xs A->aM (bF nB) n0 A B->S xs B)
  (E:World->Prop)(hE:∀(A:Nat->Obj->Prop) X Y,(∀b o,A b o->¬book o)->aM A n0 X Y->E X->E Y)(hEl:∀X o,E X->E (X.putObj l o))(h0:I [] W1)(hE0:E W1)
  (fO:∀pre x W,W.heap[l]?=some (.loop (jw fn tmps ps assign body MO .ready none))->I pre W->G pre x W->assign.wpIn (Fence.wide.inRound l) 0 P (Exit.then (fun a₁ W1=>aM bA n0 W W1/\∀W2,aM (bF nB) n0 W1 W2->W2.heap.size=W1.heap.size->(∃r,W2.heap[l]?=some (.loop r))->
    body.wpIn (Fence.wide.inRound l) 0 P (QS bA n0 I Ix (pre++[x]) W2) a₁ W2) (fun _ _ _=>False))
   {tmps:=(ps.zip (encs x)).foldl (fun t (p,v)=>t.setIfInBounds p v) tmps,defers:=[]} W):
  Calls P gf (#[.func (.yield l) #[] #[]]++lb) W1 fun e W2=>(∃v,e=.returned v)/\∃jump W4,(Instr.endLoop l).run P W2=.ok jump W4/\E W4/\
   ((jump=none/\∃xs,S xs W4/\I xs W4)\/(jump=some .ret/\∃xs,Ix xs W4)):=by
 exact X0
theorem mB{P:Program}{α:Type}{n n0:Nat}{g:Operand}{ps:Array Tmp}{assign body:Code}{Q:Exit->Act->World->Prop}{a:Act}{w:World}
  {gf:Nat}{lb:Array Value}(hg:a.eval g=.func (.func gf) #[] lb)(eg:∀args w,(callFunc gf args).run P w=.ok (.enter gf args) w)
  {encs:α->Array Value}(hps:∀x,(encs x).size=ps.size){G:List α->α->World->Prop}{bA iA:Nat->Obj->Prop}{S:List α->World->Prop}(hseq:qO P n0 w.heap.size gf lb encs G bA iA S w)
  (hn0:n0<=w.heap.size)(X5:∀b o,iA b o->¬book o)(D7:∀b o,bA b o->¬book o)
  (I Ix:List α->World->Prop)(hI:∀pre A B,I pre A->aM (fun b o=>iA b o\/bF w.heap.size b o) n0 A B->I pre B)(hIx:∀pre A B,Ix pre A->aM (fun b o=>iA b o\/bF w.heap.size b o) n0 A B->Ix pre B)
  (hS:∀xs A B,S xs A->aM (bF w.heap.size) n0 A B->S xs B)(h0:I [] w)
  (fO:∀l pre x W,(∃r,W.heap[l]?=some (.loop r))->I pre W->G pre x W->assign.wpIn (Fence.wide.inRound l) 0 P (Exit.then (fun a₁ W1=>aM bA n0 W W1/\∀W2,aM (bF w.heap.size) n0 W1 W2->W2.heap.size=W1.heap.size->(∃r,W2.heap[l]?=some (.loop r))->
    body.wpIn (Fence.wide.inRound l) 0 P (QS bA n0 I Ix (pre++[x]) W2) a₁ W2) (fun _ _ _=>False))
   {tmps:=(ps.zip (encs x)).foldl (fun t (p,v)=>t.setIfInBounds p v) a.tmps,defers:=[]} W)
  (hdone:∀D xs W,w.heap.size<=D->S xs W->I xs W->W.heap[D]?=some (.deferred (some []))->Q .normal {a with defers:={target:=.collected D,args:=#[]}::a.defers} W)
  (hstop:∀D xs W,w.heap.size<=D->Ix xs W->W.heap[D]?=some (.deferred (some []))->Q .ret {a with defers:={target:=.collected D,args:=#[]}::a.defers} W):
  (Code.rangeFunc g ps assign body).wpIn Fence.wide n P Q a w:=by
 refine wpIn_rangeFunc ?_;intro fn hfn;obtain⟨W1,hW1⟩:∃W1,(w.alloc (.deferred (some []))).alloc (.loop (jw fn a.tmps ps assign body w.heap.size .ready none))=W1:=⟨_,rfl⟩
 have hL1:W1.heap[w.heap.size+1]?=some (.loop (jw fn a.tmps ps assign body w.heap.size .ready none)):=by
  rw[<-hW1];have:=World.alloc_heap_new (w.alloc (.deferred (some []))) (.loop (jw fn a.tmps ps assign body w.heap.size .ready none));rwa [World.size_alloc] at this
 have hK1:W1.heap[w.heap.size]?=some (.deferred (some [])):=by
  rw[<-hW1];exact(Go.RowKit.Below.heap_alloc _ _ _ bp).trans (World.alloc_heap_new w _)
 have hb1:Below w.heap.size w W1:=OC
 exact Ya
theorem Ch(s:Sub.S)(n0 nB b l:Nat)(v:Value)(S:Nat->Prop)(W0:World)(bA:Nat->Obj->Prop)(Kp:World->Prop)(hKp:∀X Y,Kp X->aM (fun b o=>bA b o\/bF nB b o) n0 X Y->Kp Y)
  (hK1:∀X,Kp X->X.heap[b]?=some (.cells #[v] 40 (0,0)))(hK2:∀X,Kp X->aD S W0 X)(hs:kI S W0 v s)
  (J Jx:List (Nat×Nat)->World->Prop)(hJ:∀pre X Y,J pre X->aM (fun _ _=>False) n0 X Y->J pre Y)(W:World)
  (hY:∀pre (x:Nat×Nat) W1,J pre W1->pre++[x]<+:Sub.kept s->YieldAt Fence.wide 0 Tryz.prog l #[.agg #[.int .i64 (x.1:Int),.int .i64 (x.2:Int)]] W1 fun e W'=>
   aM (fun b o=>bA b o\/bF nB b o) n0 W1 W'/\((e=.returned (.bool true)/\J (pre++[x]) W')\/(e=.returned (.bool false)/\Jx (pre++[x]) W')))
  (hkp:Kp W)(h0:J [] W):
  Calls Tryz.prog 65 #[.func (.yield l) #[] #[],.pointer (some ⟨b,0,none⟩)] W fun e W'=>(∃v,e=.returned v)/\((∃xs,xs=Sub.kept s/\J xs W')\/∃xs,Jx xs W'):=by
 have c0:=(one_cell (hK1 W hkp)).1;obtain⟨a,cap,rfl,hok,hc,hm⟩:=hs.form;have HS:=hid hs;have Yd:=hid (And.intro hkp h0);have HY:=hid hY;have HDJ:=hid (fun pre X m (h:J pre X)=>hJ pre X (X.drewN m) h ((aM.refl _ _ _).drewN m));have HDK:=hid (fun X m (h:Kp X)=>hKp X (X.drewN m) h ((aM.refl _ _ _).drewN m));have yt:=hid hK2;have D8:=hid hKp;clear hY hkp h0 hK1 hK2 hs hKp hJ;rw[<-callsIn_wide (n:=1)];refine callsIn_of_wp Tryz.func65 rfl trivial ?_ rfl;simp only[Tryz.ntmps65,List.size_toArray,List.length_cons,List.length_nil,Nat.reduceAdd,Nat.reduceSub,Array.replicate_succ,Array.replicate_zero,List.push_toArray,List.append_toArray,List.nil_append,List.cons_append];gi_wp2;clear c0;gi_loopw [9] (fun c wr=>∃k:Nat,k<=s.length/\c=.int .i64 k/\Hid (Kp wr/\J (Sub.jG s k) wr)) (fun c _=>s.length-(intOf c).toNat);case atStart=>exact⟨0,aB,rfl,hid ⟨Yd.out.1,by rw[Sub.zb];exact Yd.out.2⟩⟩
 case round=>
  obtain⟨k,hk,rfl,HR⟩:=hrel;by_cases hlt:k<s.length
  ·obtain⟨u,hu1,mU⟩:=HS.out.qt hlt
   have x0:=mU wr (yt.out wr HR.out.1);obtain⟨a1,c1,rfl,FI,hc1,hm1⟩:=hu1.form;have HB:=hid hu1;have HG:Hid (s.getD k []=s[k]):=hid (Sub.aQ hlt);have hk0:(0:Int)<=(k:Int):=aB
   have hk1:(k:Int)<(s.length:Int):=aB
   clear hu1 mU;obtain⟨nr,nM⟩:∃n,n=s[k].length:=⟨_,rfl⟩;rw[<-nM] at HB FI hc1 x0;have wg:=hid nM;clear nM;gi_wp2;clear x0;generalize I3:wr=Wb at*;gi_loopw [16] (fun c wr=>∃i:Nat,i<=nr/\c=.int .i64 i/\Hid (Kp wr/\J (Sub.jG s k++Sub.nN k s[k] i) wr)) (fun c _=>nr-(intOf c).toNat);case atStart=>exact⟨0,aB,rfl,hid ⟨HR.out.1,by rw[Sub.ze,List.append_nil];exact HR.out.2⟩⟩
   case round=>
    obtain⟨i,hi,rfl,Ja⟩:=hrel;by_cases hit:i<nr
    ·have hi0:(0:Int)<=(i:Int):=by omega
     have hi1:(i:Int)<(nr:Int):=aB
     have hik:i<s[k].length:=by have:=wg.out;omega
     obtain⟨ub,hub,mU⟩:=HB.out.qt hik;obtain rfl:ub=_:=hub;have x0:=mU wr (yt.out wr Ja.out.1);have hsu:=Sub.oC k s[k] i;rw[Sub.aQ hik] at hsu;have hpre:=Sub.FH (s:=s) (k:=k) (i:=i+1) hlt (by rw[HG.out];omega);rw[HG.out] at hpre;clear mU;generalize s[k][i]=kp at*;cases kp with
     |true=>
      rw[if_pos rfl] at hsu
      rw[hsu,<-List.append_assoc] at hpre
      obtain⟨fn,tmps,assign,body,K0,hR⟩:=YieldAt.gI (m':=0) rfl (HY.out _ (k,i) wr Ja.out.2 hpre)
      have vU:=hid hR
      have HSU:=hid hsu
      clear hsu hpre hR
      gi_wp2
      refine(RoundIn.gI rfl vU.out).mono ?_
      rintro e W2 ⟨ht2,hres⟩
      have hk2:=D8.out _ _ Ja.out.1 ht2
      rw[List.append_assoc,<-HSU.out] at hres
      rcases hres with⟨rfl,hj2⟩|⟨rfl,hj2⟩
      ·have H2:=hid (And.intro hk2 hj2)
       clear ht2 hk2 hj2 vU K0 HSU;gi_wp2;go_roundw;case rel=>exact⟨i+1,aB,by go_num,H2⟩
       case measure=>simp[intOf];omega
      ·have H2:=hid hj2
       clear ht2 hk2 hj2 vU K0 HSU;exact Rf
     |false=>
      rw[if_neg bp] at hsu
      have H2:Hid (Kp wr/\J (Sub.jG s k++Sub.nN k s[k] (i+1)) wr):=hid ⟨Ja.out.1,by rw[hsu,List.append_nil];exact Ja.out.2⟩
      clear hsu hpre
      gi_wp2
      refine⟨bp,?_⟩
      gi_wp2
      go_roundw
      case rel=>exact⟨i+1,aB,by go_num,H2⟩
      case measure=>simp[intOf];omega
    ·obtain rfl:nr=i:=by omega
     have H2:Hid (Kp wr/\J (Sub.jG s (k+1)) wr):=hid ⟨Ja.out.1,by
      have:=Ja.out.2
      rw[Sub.lU,HG.out,<-Sub.qw,<-wg.out]
      exact this⟩
     gi_wp2;go_roundw;case rel=>exact⟨k+1,aB,by go_num,H2⟩
     case measure=>simp[intOf];omega
  ·exact Yc
theorem zh(a:Option Addr)(n c:Nat)(w:World):Calls Tryz.prog 33 #[.slice a n c] w fun e w'=>e=.returned (.func (.func 65) #[] #[.pointer (some ⟨w.heap.size,0,none⟩)])/\w'=w.alloc (.cells #[.slice a n c] 40):=by
 go_enter Tryz.func33,Tryz.ntmps33;go_wp2;go_ret;exact⟨rfl,rfl⟩
theorem uI(s:Sub.S)(n0 nB b:Nat)(v:Value)(S:Nat->Prop)(bA:Nat->Obj->Prop)(w:World)(hn0:n0<=w.heap.size)(hs:kI S w v s)
  (hb:w.heap[b]?=some (.cells #[v] 40 (0,0)))(D7:∀o,¬bA b o)(hk:∀X,aM (fun b o=>bA b o\/bF nB b o) n0 w X->aD S w X):
  qO (α:=Nat×Nat) Tryz.prog n0 nB 65 #[.pointer (some ⟨b,0,none⟩)] (fun x=> #[.agg #[.int .i64 (x.1:Int),.int .i64 (x.2:Int)]]) (fun pre x _=>pre++[x]<+:Sub.kept s) bA (fun _ _=>False) (fun xs _=>xs=Sub.kept s) w:=by
 exact Ye
attribute [local go_sem] Oper.semAt_some
theorem MX(s:Sub.S)(rQ:Sub.size s<=1000000)(t:Value)(U:Nat->Prop)(w:World)(hs:kI U w t s):
  Calls Tryz.prog 10 #[t] w fun e w'=>e=.returned (.int .i64 (Sub.size s:Nat))/\Below w.heap.size w w':=by
 obtain⟨w1,hw1⟩:∃V,V=w.alloc (.cells #[.int .i64 0] 3):=⟨_,rfl⟩;have bT:Hid (Below w.heap.size w w1):=hid (by rw[hw1];exact(Below.refl _ _).alloc aH _);have Ci:Hid (w1.heap[w.heap.size]?=some (.cells #[.int .i64 0] 3 (0,0))):=hid CM;have hz1:w.heap.size<w1.heap.size:=aC Ci.out;have HW1:=hid hw1;clear hw1;have HS:=hid (kI.mono (S':=(·<w.heap.size)) hs (fun b hb _=>hb));obtain⟨oA,cs,rfl,hss, -, -⟩:=hs.form;clear hs;obtain⟨sz,hsz⟩:∃n,n=Sub.size s:=⟨_,rfl⟩;rw[<-hsz] at rQ ⊢;have HSz:=hid hsz;clear hsz;rw[<-callsIn_wide (n:=5)];refine callsIn_of_wp_marks Tryz.func10 rfl trivial ?_ rfl;simp only[Tryz.ntmps10,List.size_toArray,List.length_cons,List.length_nil,Nat.reduceAdd,Nat.reduceSub,Array.replicate_succ,Array.replicate_zero,List.push_toArray,List.append_toArray,List.nil_append,List.cons_append];rw[wpIn_wide];go_upto_region 2 with fail;rw[<-HW1.out];go_wp2_with fail;refine(zh _ _ _ _).mono ?_;rintro e w5 ⟨rfl,rV⟩;have jd:Below w1.heap.size w1 w5:=by rw[rV];exact(Below.refl _ _).alloc aH _
 have aaS:w5.heap[w1.heap.size]?=some (.cells #[.slice oA s.length cs] 40 (0,0)):=by rw[rV];exact aW _ _ rfl
 have Yk:=aC aaS;have adG:Hid (Below w.heap.size w w5):=hid (bT.out.trans (jd.mono aB));have Vj:Hid (w5.heap[w.heap.size]?=some (.cells #[.int .i64 0] 3 (0,0))):=hid ((jd.block _ hz1).trans Ci.out)
 have Du:Hid (qO (α:=Nat×Nat) Tryz.prog w.heap.size w5.heap.size 65 #[.pointer (some ⟨w1.heap.size,0,none⟩)] (fun x=> #[.agg #[.int .i64 (x.1:Int),.int .i64 (x.2:Int)]]) (fun pre x _=>pre++[x]<+:Sub.kept s) (Jg w.heap.size) (fun _ _=>False) (fun xs _=>xs=Sub.kept s) w5):=
  hid (uI s w.heap.size w5.heap.size w1.heap.size _ (·<w.heap.size) (Jg w.heap.size) w5 aB (HS.out.keep (aD.below adG.out)) aaS (fun o h=>by have:=h.1;omega) (fun Y ht=>aD.aS ht.1 (fun _ h=>h)))
 clear rV jd aaS;go_wp2;rw[<-wpIn_wide (n:=5)]
 refine mB (α:=Nat×Nat) (n0:=w.heap.size) (gf:=65) rfl (bH Tryz.func65 (by kernel_rfl) rfl) (fun _=>rfl) Du.out aB (fun _ _ h=>h.elim) (fun _ _ h=>h.2)
  (fun pre Y=>aM (fun b o=>Jg w.heap.size b o\/bF w5.heap.size b o) w.heap.size w5 Y/\Y.heap[w.heap.size]?=some (.cells #[.int .i64 (pre.length:Nat)] 3 (0,0))) (fun _ _=>False)
  (fun pre A B h ht=>⟨h.1.trans (ht.mono (fun b o h=>h.elim False.elim .inr)),ht.2 _ _ h.2 (by
   rintro (h|h)
   ·exact h
   ·simp[bF,book] at h)⟩) (fun _ _ _ h _=>h) (fun _ _ _ h _=>h) ⟨aM.refl _ _ _,Vj.out⟩ ?fO ?hdone ?hstop
 case fO=>
  rintro l pre y Y hlr ⟨hI1,tE⟩ Vl;obtain⟨k,i⟩:=y;simp only[List.zip_toArray,List.zip_cons_cons,List.zip_nil_left];have hsY:=hI1.1.size
  have hpl:pre.length+1<=sz:=by
   have h1:=Vl.length_le;rw[List.length_append] at h1;rw[HSz.out];exact h1
  gi_wp2;refine⟨aM.refl _ _ _,fun Y2 ht2 hs2 hl2=>?_⟩;have Yt:=ht2.2 _ _ tE (by simp[bF,book]);have Ah:Hid (aM (fun b o=>Jg w.heap.size b o\/bF w5.heap.size b o) w.heap.size w5 Y2):=hid (hI1.trans (ht2.mono (fun b o h=>.inr h)));have c4:=(one_cell Yt).1;have c5:=(one_cell Yt).2
  have HQ:Hid (QS (Jg w.heap.size) w.heap.size (fun pre Y=>aM (fun b o=>Jg w.heap.size b o\/bF w5.heap.size b o) w.heap.size w5 Y/\Y.heap[w.heap.size]?=some (.cells #[.int .i64 (pre.length:Nat)] 3 (0,0))) (fun(_:List (Nat×Nat)) _=>False) (pre++[(k,i)]) Y2 .normal {tmps:=#[],defers:=[]} (Y2.setCell ⟨w.heap.size,0,none⟩ (.int .i64 ((pre.length:Int)+1)))):=hid (by
   have t24:aM (Jg w.heap.size) w.heap.size Y2 (Y2.setCell ⟨w.heap.size,0,none⟩ (.int .i64 ((pre.length:Int)+1))):=
    aM.setCell (p:=⟨w.heap.size,0,none⟩) (aM.refl _ _ _) Yt ⟨rfl,xL⟩ aH _
   refine⟨t24,Ah.out.trans (t24.mono (fun b o h=>.inl h)),?_⟩
   rw[List.length_append]
   exact one_set _ Yt)
  have hp0:(0:Int)<=(pre.length:Int):=aB
  have hp1:(pre.length:Int)<=1000000:=aB
  clear hI1 tE ht2 Yt Vl hs2;gi_wp2;exact HQ.out
 case hdone=>
  rintro D xs Y hD rfl ⟨hI1,tE⟩ hk;have c4:=(one_cell tE).1;have HM:=hid ((Marks.nil w.heap.size w5.heap.size Y).push hD aB hk);have HB:=hid (adG.out.trans hI1.1);have hkl:(Sub.kept s).length=sz:=by rw[HSz.out];rfl
  rw[hkl] at c4;clear hI1 tE hk hkl;dsimp only;go_wp2;refine kV (v:=.int .i64 (sz:Int)) HM.out (fun w' ht=>⟨?_,rfl,HB.out.trans ht.1⟩);simp[results,Tryz.results10,go_sem]
 case hstop=>
  rintro D xs Y hD h;exact h.elim
end Go.Proofs.YtibacilhkciihaaGreatDoor.Dr
namespace Go.Proofs.YtibacilhkciihaaGreatDoor
open Go.RowKit Go.Shelf Go.Lib Go.Sort
theorem dO{α:Type}[Inhabited α](enc:α->Value)(w:World)(g n:Nat)(d:Array α)(os:Array Obj){b:Nat}(hb:b<w.heap.size)(hne:b≠g):(sortWorld enc w g 0 n d os).heap[b]?=w.heap[b]?:=by
 unfold sortWorld;rw[heap_grow_old _ _ Em];unfold putRow mapBlock;simp only[Array.getElem?_modify,heap_ahead];rw[if_neg (Ne.symm hne)]
theorem mJ{α:Type}[Inhabited α](enc:α->Value)(w:World)(g n:Nat)(d:Array α)(os:Array Obj){c:Array Value}{e:TypeId}{fr:Nat×Nat}(h:w.heap[g]?=some (.cells c e fr)):(sortWorld enc w g 0 n d os).heap[g]?=some (.cells (putCells enc 0 d c) e fr):=by
 have hb:=(Array.getElem?_eq_some_iff.1 h).1;unfold sortWorld;rw[heap_grow_old _ _ Em];unfold putRow mapBlock;simp only[Array.getElem?_modify,heap_ahead,if_true,h];rfl
theorem kK{α:Type}[Inhabited α](enc:α->Value)(w:World)(g n:Nat)(d:Array α)(os:Array Obj):Turns (·=g) w (sortWorld enc w g 0 n d os):=
 ⟨rfl,rfl,rfl,by simp[sortWorld],fun b hb hlt=>dO enc w g n d os hlt hb⟩
end Go.Proofs.YtibacilhkciihaaGreatDoor
namespace Go.Proofs.YtibacilhkciihaaGreatDoor
open Go.RowKit
theorem own:ownKnob Tryz.prog.godebug=none:=by kernel_rfl
theorem laidOut:laidOutB Tryz.prog=true:=by kernel_rfl
def laidL:List (String×DataW Unit):=[("math/bits.deBruijn32tab",Rows.laid_math_bits_deBruijn32tab),("math/bits.deBruijn64tab",Rows.laid_math_bits_deBruijn64tab),("internal/strconv.uint64pow10",Rows.laid_internal_strconv_uint64pow10),("diorama/schema.words",Rows.laid_diorama_schema_words),("diorama/typing.checks",Rows.laid_diorama_typing_checks)]
theorem zm{W:World}(h:laidMetH Tryz.prog laidL W)(n:String)(d:DataW Unit)(hf:(laidL.filter fun x=>x.1==n)=[(n,d)])(hp:d.handleName?.isNone=true):laidMet Tryz.prog [(n,d)] W:=by
 have h1:=h.filter (fun x=>x.1==n);rw[hf,Go.MakeChecks.laidMetH_plain _ _ _ (by simp[hp])] at h1;exact h1
theorem zn{fuel:Nat}{t e:TypeId}{n:Nat}{cs:List Value}{ss:List (List UInt8)}{p:List MemPlace}{H:Type}{enc:TypeId×Value->H}{P:Program}{w:World}{base:Nat}{sp:Nat->Bool}{held:Bool}
  (ht:P.underlying t=some (.array n e))(he:P.underlying e=some .string)(hce:P.cellsOf e=1)(hct:P.cellsOf t=n)
  (h:DataW.trod enc P w base sp held fuel t cs=some (.agg (ss.map fun s=>.lit (.string s)),p)):∀(i:Nat) (s:List UInt8),ss[i]?=some s->cs[i]?=some (.string ⟨s.toArray⟩):=by
 cases fuel with
 |zero=>simp[DataW.trod] at h
 |succ fuel=>
  simp only[DataW.trod,ht,hce,hct,Nat.mul_one] at h
  split at h
  ·rename_i hl
   obtain⟨xs,hm,hx⟩:=Option.map_eq_some_iff.1 h
   have hxs:xs.map (·.1)=ss.map fun s=>(DataW.lit (.string s):DataW H):=by
    have:=congrArg Prod.fst hx;simpa using this
   have hxl:xs.length=n:=by simpa using Lib.mapM_length hm
   have hsl:ss.length=n:=by
    have:=congrArg List.length hxs;simp at this;omega
   intro i s hs
   have hi:i<n:=by
    have:=(List.getElem?_eq_some_iff.1 hs).1;omega
   obtain⟨b,hb,hf⟩:=Lib.mapM_at hm i i (by simp[hi]);obtain⟨z,hc,rfl,_⟩:=DataW.trod_string he hf
   have h1:cs[i]?=some (.string z):=by
    have:=congrArg (·[0]?) hc;simpa [List.getElem?_take,List.getElem?_drop] using this
   have h2:(xs.map (·.1))[i]?=some (DataW.lit (.string z.data.toList):DataW H):=by simp[hb]
   rw[hxs,List.getElem?_map,hs] at h2;simp only[Option.map_some,Option.some.injEq,DataW.lit.injEq,Lit.string.injEq] at h2;rw[h1,h2]
  ·cases h
theorem RB{W:World}(h:laidMetH Tryz.prog laidL W):LaidW W where
 pow:=by
  have h1:=zm h "internal/strconv.uint64pow10" Rows.laid_internal_strconv_uint64pow10 (by kernel_rfl) (by kernel_rfl);exact Lib.tabIs_of_head (zs:=Lib.pow10Tab) (rest:=[]) XA (by kernel_rfl:(Tryz.prog.globals[2]?).map (·.type)=some 261) (by kernel_rfl:Tryz.prog.underlying 261=some (.array 20 179)) (by kernel_rfl:Tryz.prog.underlying 179=some (.int .u64)) (by kernel_rfl) (by kernel_rfl) h1
 cB k hk:=by
  have h1:=zm h "diorama/schema.words" Rows.laid_diorama_schema_words (by kernel_rfl) (by kernel_rfl);obtain⟨ps,⟨g',t',cs,fuel,p,q,hg',ht',hvar,hd,_,_⟩,_⟩:=h1;obtain rfl:=mM ((show Tryz.prog.globalNamed "diorama/schema.words" =some 1 by kernel_rfl).symm.trans hg');obtain rfl:=mM ((show (Tryz.prog.globals[1]?).map (·.type)=some 218 by kernel_rfl).symm.trans ht');have h2:=World.var?_cell hg' hvar k;rw[h2,<-Array.getElem?_toList];refine zn (n:=9) (e:=9) (ss:=[[107,101,121],[114,101,102],[110,117,109],[112,105,99,107],[100,97,121],[115,116,101,112],[115,117,109],[115,104,97,114,101],[99,111,112,121]]) (by kernel_rfl) (by kernel_rfl) (by kernel_rfl) (by kernel_rfl) hd k _ ?_;have:k=0\/k=1\/k=2\/k=3\/k=4\/k=5\/k=6\/k=7\/k=8:=aB
  rcases this with rfl|rfl|rfl|rfl|rfl|rfl|rfl|rfl|rfl<;>rfl
 size:=by
  have h1:=zm h "math/bits.deBruijn64tab" Rows.laid_math_bits_deBruijn64tab (by kernel_rfl) (by kernel_rfl);obtain⟨ps,⟨g',t',cs,fuel,p,q,hg',ht',hvar,hd,_,_⟩,_⟩:=h1;obtain rfl:=mM ((show Tryz.prog.globalNamed "math/bits.deBruijn64tab" =some 4 by kernel_rfl).symm.trans hg');have h2:=World.var?_cell hg' hvar 0
  have:4<W.heap.size:=by
   unfold World.var? at hvar;rw[hg'] at hvar;refine Nat.lt_of_not_le fun hle=>?_;simp[Array.getElem?_eq_none hle] at hvar
  omega
theorem Vq{P:Program}{t f:TypeId}{fs:Array Field}(ht:P.underlying t=some (.struct fs))(hs1:fs.size=1)(hf0:(fs[0]?).map (fun x=>(x.type,x.offset))=some (f,0))(hc:P.cellsOf t=1)(hf:P.cellsOf f=1){H:Type}{enc:TypeId×Value->H}{w:World}{base:Nat}{sp:Nat->Bool}{held:Bool}{n:Nat}{v:Value}{d:DataW H}{ps:List MemPlace}
  (hv:v.formed P t=true)(h:DataW.trod enc P w base sp held n t v.cells.toList=some (.agg [d],ps)):∃c m q,v=.agg #[c]/\DataW.trod enc P w base sp held m f [c]=some (d,q):=by
 obtain⟨xs,m,rfl,hx,hl,hxl,hall⟩:=DataW.trod_struct ht h
 have hv':∃cs,v=.agg cs/\cs.size=1:=by
  cases v<;>simp[Value.formed,ht,hc] at hv;exact⟨_,rfl,hv⟩
 obtain⟨cs,rfl,hs⟩:=hv';obtain⟨c,rfl⟩:∃c,cs=#[c]:=Array.size_eq_one_iff.1 hs;obtain⟨fd,KV,hfe⟩:=Option.map_eq_some_iff.1 hf0;obtain⟨hft,hfo⟩:=Prod.mk.inj hfe;have h0:=hall 0 fd KV;rw[hft,hfo] at h0;obtain⟨y,hy⟩:∃y,xs=[y]:=List.length_eq_one_iff.1 aB;subst hy;simp[hf,Value.cells] at h0;have h1:=congrArg Prod.fst hx;simp at h1;exact⟨c,m,y.2,rfl,by rw[h0,h1]⟩
def FO(f:TypeId):TypeDesc->Bool
 | .struct fs=>decide (fs.size=1)&&decide ((fs[0]?).map (fun x=>(x.type,x.offset))=some (f,0))
 |_=>false
theorem MZ:∃fs,Tryz.prog.underlying 106=some (.struct fs)/\fs.size=1/\(fs[0]?).map (fun x=>(x.type,x.offset))=some (105,0):=by
 have h:(Tryz.prog.underlying 106).map (FO 105)=some true:=by kernel_rfl
 obtain⟨d,hd,ho⟩:=Option.map_eq_some_iff.1 h;cases d<;>simp[FO] at ho;exact⟨_,hd,ho.1,by simpa using ho.2⟩
theorem Vr{W:World}(h:laidMetH Tryz.prog laidL W):∃b,TabC b W:=by
 obtain⟨g,t,cs,fuel,p,hg,ht,hv,hd⟩:=h.funcs (n:= "diorama/typing.checks") (List.Mem.tail _ (List.Mem.tail _ (List.Mem.tail _ (List.Mem.tail _ (List.Mem.head _)))));obtain rfl:=mM ((show Tryz.prog.globalNamed "diorama/typing.checks" =some 0 by kernel_rfl).symm.trans hg);obtain rfl:=mM ((show (Tryz.prog.globals[0]?).map (·.type)=some 108 by kernel_rfl).symm.trans ht);have hu:Tryz.prog.underlying 108=some (.map 3 106):=by kernel_rfl
 rcases Go.WideElems.open_map hu hd with⟨-,e⟩|⟨b,es,clock,n,rfl,hcs,hb, -,F,e⟩
 ·cases congrArg Prod.fst e
 have e1:=congrArg Prod.fst e;simp only at e1;refine⟨b,?_,(Array.getElem?_eq_some_iff.1 hb).1,fun W' hW k h0 h8=>?_⟩
 ·have:=World.var?_cell hg hv 0
  rw[Array.eq_one_of_toList hcs] at this;simpa using this
 ·have hz:(zeroValue 106).run Tryz.prog W'=.ok (.agg #[.nilFunc]) W':=by kernel_rfl
  have hkey:keyOf Tryz.prog 3 (.int .i64 k)=some (.int .i64 k):=by
   have:k=0\/k=1\/k=2\/k=3\/k=4\/k=5\/k=6\/k=7\/k=8:=aB
   rcases this with rfl|rfl|rfl|rfl|rfl|rfl|rfl|rfl|rfl<;>first
    |exact(by kernel_rfl:keyOf Tryz.prog 3 (.int .i64 0)=some (.int .i64 0))
    |exact(by kernel_rfl:keyOf Tryz.prog 3 (.int .i64 1)=some (.int .i64 1))
    |exact(by kernel_rfl:keyOf Tryz.prog 3 (.int .i64 2)=some (.int .i64 2))
    |exact(by kernel_rfl:keyOf Tryz.prog 3 (.int .i64 3)=some (.int .i64 3))
    |exact(by kernel_rfl:keyOf Tryz.prog 3 (.int .i64 4)=some (.int .i64 4))
    |exact(by kernel_rfl:keyOf Tryz.prog 3 (.int .i64 5)=some (.int .i64 5))
    |exact(by kernel_rfl:keyOf Tryz.prog 3 (.int .i64 6)=some (.int .i64 6))
    |exact(by kernel_rfl:keyOf Tryz.prog 3 (.int .i64 7)=some (.int .i64 7))
    |exact(by kernel_rfl:keyOf Tryz.prog 3 (.int .i64 8)=some (.int .i64 8))
  have hK:Maps.Keyed Tryz.prog 3:=Maps.int_keyed (by kernel_rfl:Tryz.prog.underlying 3=some (.int .i64));have hf:Tryz.prog.underlying 105=some (.func #[110] #[32] false):=by kernel_rfl
  rcases Maps.fit_look true hK hu hz (hW.trans hb) F hkey with⟨hrun,_,hat⟩|⟨e0,y,_,_,hrun,hRv,hat,_⟩
  ·rw[<-e1] at hat
   have no:wW k=none:=by
    have:=hat .nil;have:k=0\/k=1\/k=2\/k=3\/k=4\/k=5\/k=6\/k=7\/k=8:=aB
    rcases this with rfl|rfl|rfl|rfl|rfl|rfl|rfl|rfl|rfl<;>first|rfl|(exfalso;cases hat .nil)
   rw[no];unfold Mt;rw[no];exact hrun
  ·rw[<-e1] at hat
   unfold Go.WideElems.elemAt at hRv;split at hRv
   ·rename_i hfm
    obtain⟨fs,hfs,h1,h2⟩:=MZ
    have at_:∀(b0:UInt8) (r:List UInt8) (fo:Nat),y.1=.agg [.held (b0::r)]->((List.range Tryz.prog.funcs.size).filter fun f=>(Tryz.prog.funcs[f]?).any (·.name.toUTF8.data.toList==b0::r))=[fo]->e0.val=.agg #[.func (.func fo) #[] #[]]:=fun b0 r fo hy hone=>by
     obtain⟨c,m,q,hv,hc⟩:=Vq hfs h1 h2 (by kernel_rfl) (by kernel_rfl) hfm (hRv.trans (by rw[<-hy]));rw[hv,func_of_trod hf hone hc]
    have:k=0\/k=1\/k=2\/k=3\/k=4\/k=5\/k=6\/k=7\/k=8:=aB
    rcases this with rfl|rfl|rfl|rfl|rfl|rfl|rfl|rfl|rfl
    ·have hv:=at_ 100 [105,111,114,97,109,97,47,116,121,112,105,110,103,46,99,104,101,99,107,115,36,49] 216 (hat .nil).symm (by kernel_rfl)
     rw[hv] at hrun;exact hrun
    ·have hv:=at_ 100 [105,111,114,97,109,97,47,116,121,112,105,110,103,46,99,104,101,99,107,115,36,50] 217 (hat .nil).symm (by kernel_rfl)
     rw[hv] at hrun;exact hrun
    ·exfalso
     have g1:=hat .nil;have g2:=hat (.lit (.bool true));rw[<-g1] at g2;cases g2
    ·exfalso
     have g1:=hat .nil;have g2:=hat (.lit (.bool true));rw[<-g1] at g2;cases g2
    ·have hv:=at_ 100 [105,111,114,97,109,97,47,116,121,112,105,110,103,46,99,104,101,99,107,115,36,51] 218 (hat .nil).symm (by kernel_rfl)
     rw[hv] at hrun;exact hrun
    ·have hv:=at_ 100 [105,111,114,97,109,97,47,116,121,112,105,110,103,46,99,104,101,99,107,115,36,52] 219 (hat .nil).symm (by kernel_rfl)
     rw[hv] at hrun;exact hrun
    ·have hv:=at_ 100 [105,111,114,97,109,97,47,116,121,112,105,110,103,46,99,104,101,99,107,115,36,53] 221 (hat .nil).symm (by kernel_rfl)
     rw[hv] at hrun;exact hrun
    ·have hv:=at_ 100 [105,111,114,97,109,97,47,116,121,112,105,110,103,46,99,104,101,99,107,115,36,54] 223 (hat .nil).symm (by kernel_rfl)
     rw[hv] at hrun;exact hrun
    ·have hv:=at_ 100 [105,111,114,97,109,97,47,116,121,112,105,110,103,46,99,104,101,99,107,115,36,55] 225 (hat .nil).symm (by kernel_rfl)
     rw[hv] at hrun;exact hrun
   ·cases hRv
theorem laidT_of{W:World}(h:laidMetH Tryz.prog laidL W):LaidW W/\∃b,TabC b W:=⟨RB h,Vr h⟩
noncomputable def laidWorld (os:Os):World:=World.doorLaid Tryz.prog 76 os
theorem wf_bounds{n:Int}(h:(Lit.int .i64 n).wf=true): -9223372036854775808<=n/\n<=9223372036854775807:=by
 simp[Lit.wf,IntKind.min,IntKind.max,IntKind.signed,IntKind.bits] at h;omega
theorem RD{α:Type}{l:List α}{i:Nat}{d:α}(h:i<l.length):l.getD i d=l[i]:=by
 rw[jm,lE h,zOg]
theorem row_ints{w:World}{a:Option Addr}{len cap:Nat}{zs:List Int}
  (h:(a=none/\len=0/\cap=0/\zs=[])\/∃x,a=some x/\len<=cap/\cap<=maxLen/\zs.length=cap/\(∀i,i<zs.length->w.cell? (x.add i)=some (.int .i64 (zs.getD i 0)))/\∀n∈zs,(Lit.int .i64 n).wf=true):
  bq nV w (.slice a len cap) (zs.take len)/\Fit (zs.take len):=by
 rcases h with⟨rfl,rfl,rfl,rfl⟩|⟨x,rfl,h1,h2,h3,h4,h5⟩
 ·exact⟨eU.nil _ _ _,fun x hx=>by simp at hx⟩
 ·have hl:(zs.take len).length=len:=by rw[LB];omega
  refine⟨⟨some x,cap,by rw[hl],fun h0=>?_,aB,h2,fun _=>trivial,fun j hj=>?_⟩,fun n hn=>?_⟩
  ·obtain⟨b,o,e,_⟩:=ints_at h4 aB
   exact⟨b,o,rX⟩
  ·obtain⟨b,o,e,hc⟩:=ints_at h4 aB
   subst e;refine⟨_,hc j aB,?_⟩;rw[List.getElem_take,RD aB]
  ·exact wf_bounds (h5 n (List.mem_of_mem_take hn))
def gj(F F':Nat->Prop)(w w':World):Prop:=(∀b,F b->F' b)/\∀b,F' b->F b\/(w.heap.size<=b/\b<w'.heap.size)
theorem gj.refl(F:Nat->Prop)(w w':World):gj F F w w':=⟨fun _ h=>h,fun _ h=>.inl h⟩
def Cl{α:Type}(P:Program)(n0 nB gf:Nat)(lb:Array Value)(encs:α->Array Value)(G:List α->α->World->Prop)(bA:Nat->Obj->Prop)(S:List α->World->Prop)(w:World):Prop:=
 ∀(l:Nat) (J:(Nat->Prop)->List α->World->Prop) (W:World),BL w W->
  (∀F F' pre A B,J F pre A->gj F F' A B->aM (fun b _=>F b) n0 A B->J F' pre B)->
  (∀F pre x W1,J F pre W1->G pre x W1->YieldAt Fence.wide 0 P l (encs x) W1 fun e W'=>
   aM (fun b o=>(bA b o\/bF nB b o)/\¬F b) n0 W1 W'/\e=.returned (.bool true)/\J F (pre++[x]) W')->
  J (fun _=>False) [] W->Calls P gf (#[.func (.yield l) #[] #[]]++lb) W fun e W'=>(∃v,e=.returned v)/\∃F xs,S xs W'/\J F xs W'
def QG1{α:Type}(bA:Nat->Obj->Prop)(n0:Nat)(F:Nat->Prop)(I:(Nat->Prop)->List α->World->Prop)(xs:List α)(W:World):Exit->Act->World->Prop
 | .normal,_,W3=>aM (fun b o=>bA b o/\¬F b) n0 W W3/\I F xs W3
 |_,_,_=>False
theorem wk{P:Program}{α:Type}{n0 nB:Nat}{ps:Array Tmp}{assign body:Code}{fn:FuncId}{tmps:Array Value}{MO l gf:Nat}{lb:Array Value}{w W1:World}
  {encs:α->Array Value}(hps:∀x,(encs x).size=ps.size){G:List α->α->World->Prop}{bA:Nat->Obj->Prop}{S:List α->World->Prop}(hseq:Cl P n0 nB gf lb encs G bA S w)
  (hb1:BL w W1)(hL1:W1.heap[l]?=some (.loop (jw fn tmps ps assign body MO .ready none)))(hlB:nB<=l)(hn:n0<=nB)
  (F0:Nat->Prop)(M4:F0 l)(I:(Nat->Prop)->List α->World->Prop)(hI:∀F F' pre A B,I F pre A->gj F F' A B->aM (fun b _=>F b) n0 A B->I F' pre B)
  (hS:∀xs A B,S xs A->aM (bF nB) n0 A B->S xs B)
  (D:Nat)(hFD:∀b,F0 b->b=l\/b=D)(hD:F0 D->∃o,book o/\W1.heap[D]?=some o)(h0:I F0 [] W1)
  (fO:∀F pre x W,W.heap[l]?=some (.loop (jw fn tmps ps assign body MO .ready none))->F l->I F pre W->G pre x W->assign.wpIn (Fence.wide.inRound l) 0 P (Exit.then (fun a₁ W1=>aM (fun b o=>bA b o/\¬F b) n0 W W1/\∀W2,aM (fun b _=>b=l) n0 W1 W2->W2.heap.size=W1.heap.size->(∃r,W2.heap[l]?=some (.loop r))->
    body.wpIn (Fence.wide.inRound l) 0 P (QG1 bA n0 F I (pre++[x]) W2) a₁ W2) (fun _ _ _=>False))
   {tmps:=(ps.zip (encs x)).foldl (fun t (p,v)=>t.setIfInBounds p v) tmps,defers:=[]} W):
  Calls P gf (#[.func (.yield l) #[] #[]]++lb) W1 fun e W2=>(∃v,e=.returned v)/\∃W4,(Instr.endLoop l).run P W2=.ok none W4/\(F0 D->∀o,W1.heap[D]?=some o->D≠l->W4.heap[D]?=some o)/\
   ∃F xs,(∀b,F0 b->F b)/\S xs W4/\I F xs W4:=by
 obtain⟨rec,hrec⟩:∃rec:LoopState->Option Code->Loop,rec=jw fn tmps ps assign body MO:=⟨_,rfl⟩;rw[<-hrec] at hL1;have PX:l<W1.heap.size:=(Array.getElem?_eq_some_iff.1 hL1).1;have hDlt:F0 D->D<W1.heap.size:=fun h=>by obtain⟨o, -,ho⟩:=hD h;exact(Array.getElem?_eq_some_iff.1 ho).1
 obtain⟨KD,hKD⟩:∃KD:World->Prop,KD=fun X=>F0 D->∀o,W1.heap[D]?=some o->D≠l->X.heap[D]?=some o:=⟨_,rfl⟩
 have kdT:∀{A:Nat->Obj->Prop} {X Y:World},(∀b o,F0 b->book o->¬A b o)->aM A n0 X Y->KD X->KD Y:=by
  intro A X Y hA ht h;rw[hKD] at h ⊢;intro hd o ho hne;refine ht.2 _ _ (h hd o ho hne) (hA _ _ hd ?_);obtain⟨o',hb,ho'⟩:=hD hd;rw[ho] at ho';cases ho';exact hb
 have kdP:∀{X:World} (o:Obj),KD X->KD (X.putObj l o):=by
  intro X o h;rw[hKD] at h ⊢;intro hd o' ho hne;exact(World.putObj_heap_other hne).trans (h hd o' ho hne)
 refine(hseq l (fun F pre W=>(∀b,F b->¬F0 b)/\I (fun b=>F b\/F0 b) pre W/\W.heap[l]?=some (.loop (rec .ready none))/\KD W/\W1.heap.size<=W.heap.size) W1 hb1 ?_ ?_ ⟨fun _ h=>h.elim,?_,hL1,?_,aH⟩).mono ?_
 ·rintro F F' pre A B ⟨hF,hi,hl,hd,hs⟩ hg ht
  have hF':∀b,F' b->¬F0 b:=fun b hb hb0=>by
   rcases hg.2 b hb with h|h
   ·exact hF b h hb0
   ·rcases hFD b hb0 with rfl|rfl
    ·omega
    ·have:=hDlt hb0;omega
  exact⟨hF',hI _ _ _ _ _ hi ⟨fun b h=>h.imp (hg.1 b) id,fun b h=>h.elim (fun h=>(hg.2 b h).imp .inl id) (fun h=>.inl (.inr h))⟩ (ht.mono fun b o h=>.inl h),ht.2 _ _ hl (fun h=>hF _ h M4),kdT (fun b o h0 hb h=>hF _ h h0) ht hd,Nat.le_trans hs ht.1.size⟩
 ·rintro F pre x W ⟨hF,hi,hl,hd,hs⟩ hG
  have hy:=run_yield (P:=P) (args:=encs x) hl (by rw[hrec];exact hps x);rw[hrec] at hy;refine⟨fn,_,assign,body,hy,roundIn_of_wpIn trivial (wpIn_mono (fO _ pre x W (by rw[hl,hrec]) (.inr M4) hi hG) ?_)⟩;rintro e a1 W2 hp;cases e with
  |normal=>
   obtain⟨ht1,hbody⟩:=hp
   have hl2:=ht1.2 _ _ hl (fun h=>h.2 (.inr M4))
   have hd2:=kdT (fun b o h0 _ h=>h.2 (.inr h0)) ht1 hd
   have hlt2:l<W2.heap.size:=(Array.getElem?_eq_some_iff.1 hl2).1
   have I9:∀{X:World} {o:Obj} (o':Obj),X.heap[l]?=some o->aM (fun b _=>b=l) n0 X (X.putObj l o'):=fun o' h=>aM.putObj _ h rfl aB
   have hput:=I9 (.loop (rec .busy none)) hl2
   have hbr:(Instr.beginRound l).run P W2=.ok () (W2.putObj l (.loop (rec .busy none))):=by
    have:=run_beginRound (P:=P) hl2 J4;rw[hrec] at this ⊢;exact this
   have hl3:(W2.putObj l (.loop (rec .busy none))).heap[l]?=some (.loop (rec .busy none)):=World.putObj_heap_same hlt2
   refine⟨_,hbr,wpIn_mono (hbody _ hput bp ⟨_,hl3⟩) ?_⟩
   rintro e a3 W3 hq
   cases e with
   |normal=>
    obtain⟨ht3,hi3⟩:=hq
    have hl4:=ht3.2 _ _ hl3 (fun h=>h.2 (.inr M4))
    have hend:(Instr.endRound l none).run P W3=.ok (.bool true) (W3.putObj l (.loop (rec .ready none))):=by
     have:=run_endRound (P:=P) none hl4;rw[hrec] at this ⊢;exact this
    have PZ:l<W3.heap.size:=(Array.getElem?_eq_some_iff.1 hl4).1
    have FE:=I9 (.loop (rec .ready none)) hl4
    have hbk:∀{X:World} {o:Obj} (o':Obj),X.heap[l]?=some o->book o->aM (fun b o=>(bA b o\/bF nB b o)/\¬F b) n0 X (X.putObj l o'):=fun o' h hb=>aM.putObj _ h ⟨.inr ⟨hlB,hb⟩,fun h=>hF _ h M4⟩ aB
    refine⟨_,_,hend,?_,rfl,hF,hI _ _ _ _ _ hi3 (gj.refl _ _ _) (FE.mono fun b o h=>.inr (h▸M4)),World.putObj_heap_same PZ,kdP _ (kdT (fun b o h0 _ h=>h.2 (.inr h0)) ht3 (kdP _ hd2)),?_⟩
    ·exact(((ht1.mono fun b o h=>⟨.inl h.1,fun q=>h.2 (.inl q)⟩).trans (hbk _ hl2 trivial)).trans (ht3.mono fun b o h=>⟨.inl h.1,fun q=>h.2 (.inl q)⟩)).trans (hbk _ hl4 trivial)
    ·have:=ht1.1.size;have:=ht3.1.size;have:=hput.1.size;have:=FE.1.size;omega
   |_=>exact hq.elim
  |_=>exact hp.elim
 ·exact hI _ _ _ _ _ h0 ⟨fun b h=>.inr h,fun b h=>h.elim (fun h=>h.elim) .inl⟩ (aM.refl _ _ _)
 ·rw[hKD];exact fun _ o ho _=>ho
 ·rintro e W2 ⟨hv,F,xs,Oc,hF,hi,hl,hd,hs⟩
  have hend:=run_endLoop (P:=P) hl OA;rw[hrec] at hend;refine⟨hv,_,hend,?_,_,xs,fun b h=>.inr h,hS _ _ _ Oc (aM.putObj _ hl ⟨hlB,trivial⟩ aB),hI _ _ _ _ _ hi (gj.refl _ _ _) (aM.putObj _ hl (.inr M4) aB)⟩;have:=kdP (.loop (jw fn tmps ps assign body MO .exhausted none)) hd;rw[hKD] at this;exact this
theorem wu{P:Program}{α:Type}{n n0:Nat}{g:Operand}{ps:Array Tmp}{assign body:Code}{Q:Exit->Act->World->Prop}{a:Act}{w:World}
  {gf:Nat}{lb:Array Value}(hg:a.eval g=.func (.func gf) #[] lb)(eg:∀args w,(callFunc gf args).run P w=.ok (.enter gf args) w)
  {encs:α->Array Value}(hps:∀x,(encs x).size=ps.size){G:List α->α->World->Prop}{bA:Nat->Obj->Prop}{S:List α->World->Prop}(hseq:Cl P n0 w.heap.size gf lb encs G bA S w)
  (hn0:n0<=w.heap.size)
  (I:(Nat->Prop)->List α->World->Prop)(hI:∀F F' pre A B,I F pre A->gj F F' A B->aM (fun b _=>F b) n0 A B->I F' pre B)
  (hS:∀xs A B,S xs A->aM (bF w.heap.size) n0 A B->S xs B)(h0:I (fun _=>False) [] w)
  (fO:∀l F pre x W,(∃r,W.heap[l]?=some (.loop r))->w.heap.size<=l->F l->I F pre W->G pre x W->assign.wpIn (Fence.wide.inRound l) 0 P (Exit.then (fun a₁ W1=>aM (fun b o=>bA b o/\¬F b) n0 W W1/\∀W2,aM (fun b _=>b=l) n0 W1 W2->W2.heap.size=W1.heap.size->(∃r,W2.heap[l]?=some (.loop r))->
    body.wpIn (Fence.wide.inRound l) 0 P (QG1 bA n0 F I (pre++[x]) W2) a₁ W2) (fun _ _ _=>False))
   {tmps:=(ps.zip (encs x)).foldl (fun t (p,v)=>t.setIfInBounds p v) a.tmps,defers:=[]} W)
  (hdone:∀D F xs W,w.heap.size<=D->F D->S xs W->I F xs W->W.heap[D]?=some (.deferred (some []))->Q .normal {a with defers:={target:=.collected D,args:=#[]}::a.defers} W):
  (Code.rangeFunc g ps assign body).wpIn Fence.wide n P Q a w:=by
 refine wpIn_rangeFunc ?_;intro fn hfn;obtain⟨W1,hW1⟩:∃W1,(w.alloc (.deferred (some []))).alloc (.loop (jw fn a.tmps ps assign body w.heap.size .ready none))=W1:=⟨_,rfl⟩
 have hL1:W1.heap[w.heap.size+1]?=some (.loop (jw fn a.tmps ps assign body w.heap.size .ready none)):=by
  exact Yb
 have hK1:W1.heap[w.heap.size]?=some (.deferred (some [])):=by
  rw[<-hW1];exact(Below.heap_alloc _ _ _ bp).trans (TQ w _)
 have hb1:BL w W1:=OC
 have hI1:I (fun b=>b=w.heap.size+1\/b=w.heap.size) [] W1:=hI _ _ _ _ _ h0 ⟨fun _ h=>h.elim,fun b h=>.inr ⟨aB,by rw[<-hW1];simp;omega⟩⟩ abG
 refine⟨w.heap.size+1,[{target:=.collected w.heap.size,args:=#[]}],W1,{target:=.fn (.func gf) lb,args:=#[.func (.yield (w.heap.size+1)) #[] #[]]},W1,gf,
  #[.func (.yield (w.heap.size+1)) #[] #[]]++lb,W1,?_,?_,fun _ _=>trivial,?_,fun h=>by simp[Fence.wide] at h,?_⟩
 ·rw[<-hW1];exact run_enterLoop_outer _ _ _ _ _
 ·simp only[resolve,hg]
  simp[go_sem]
 ·simp[invoke,go_sem,eg]
 ·rw[callsIn_wide]
  refine(wk (l:=w.heap.size+1) hps hseq hb1 hL1 aB hn0 (fun b=>b=w.heap.size+1\/b=w.heap.size) (.inl rfl) I hI hS w.heap.size (fun b h=>h) (fun _=>⟨_,by exact trivial,hK1⟩) hI1
   (fun F pre x W hl hF=>fO (w.heap.size+1) F pre x W ⟨_,hl⟩ aB hF)).mono ?_
  rintro e W2 ⟨⟨v,rfl⟩,W4,hend,hE,F,xs,hF,h1,h2⟩;exact⟨none,W4,hend,hdone _ F xs _ aH (hF _ (.inr rfl)) h1 h2 (hE (.inr rfl) _ hK1 aB)⟩
theorem Dv{P:Program}{α:Type}{n n0 l0:Nat}{g:Operand}{ps:Array Tmp}{assign body:Code}{Q:Exit->Act->World->Prop}{a:Act}{w:World}(hl0:∃r,w.heap[l0]?=some (.loop r))
  {gf:Nat}{lb:Array Value}(hg:a.eval g=.func (.func gf) #[] lb)(eg:∀args w,(callFunc gf args).run P w=.ok (.enter gf args) w)
  {encs:α->Array Value}(hps:∀x,(encs x).size=ps.size){G:List α->α->World->Prop}{bA:Nat->Obj->Prop}{S:List α->World->Prop}(hseq:Cl P n0 w.heap.size gf lb encs G bA S w)
  (hn0:n0<=w.heap.size)
  (I:(Nat->Prop)->List α->World->Prop)(hI:∀F F' pre A B,I F pre A->gj F F' A B->aM (fun b _=>F b) n0 A B->I F' pre B)
  (hS:∀xs A B,S xs A->aM (bF w.heap.size) n0 A B->S xs B)(h0:I (fun _=>False) [] w)
  (fO:∀l F pre x W,(∃r,W.heap[l]?=some (.loop r))->w.heap.size<=l->F l->I F pre W->G pre x W->assign.wpIn (Fence.wide.inRound l) 0 P (Exit.then (fun a₁ W1=>aM (fun b o=>bA b o/\¬F b) n0 W W1/\∀W2,aM (fun b _=>b=l) n0 W1 W2->W2.heap.size=W1.heap.size->(∃r,W2.heap[l]?=some (.loop r))->
    body.wpIn (Fence.wide.inRound l) 0 P (QG1 bA n0 F I (pre++[x]) W2) a₁ W2) (fun _ _ _=>False))
   {tmps:=(ps.zip (encs x)).foldl (fun t (p,v)=>t.setIfInBounds p v) a.tmps,defers:=[]} W)
  (hdone:∀F xs W,S xs W->I F xs W->Q .normal a W):
  (Code.rangeFunc g ps assign body).wpIn (Fence.wide.inRound l0) n P Q a w:=by
 refine wpIn_rangeFunc ?_;intro fn hfn;obtain⟨r0,hr0⟩:=hl0;obtain⟨W1,hW1⟩:∃W1,w.alloc (.loop (jw fn a.tmps ps assign body r0.defers .ready none))=W1:=⟨_,rfl⟩;have hL1:W1.heap[w.heap.size]?=some (.loop (jw fn a.tmps ps assign body r0.defers .ready none)):=by rw[<-hW1];exact TQ _ _
 have hb1:BL w W1:=by rw[<-hW1];exact(Below.refl _ w).alloc aH _
 have hI1:I (fun b=>b=w.heap.size) [] W1:=hI _ _ _ _ _ h0 ⟨fun _ h=>h.elim,fun b h=>.inr ⟨aB,by rw[<-hW1];simp;omega⟩⟩ (by rw[<-hW1];exact(aM.refl _ n0 w).alloc hn0 _)
 refine⟨w.heap.size,[],W1,{target:=.fn (.func gf) lb,args:=#[.func (.yield w.heap.size) #[] #[]]},W1,gf,
  #[.func (.yield w.heap.size) #[] #[]]++lb,W1,?_,?_,fun _ _=>trivial,?_,fun h=>by simp[Fence.wide,Fence.inRound] at h,?_⟩
 ·rw[<-hW1];exact run_enterLoop_inner hr0 _ _ _ _ _
 ·simp only[resolve,hg]
  simp[go_sem]
 ·simp[invoke,go_sem,eg]
 ·rw[gN]
  refine(wk (l:=w.heap.size) hps hseq hb1 hL1 aH hn0 (fun b=>b=w.heap.size) rfl I hI hS w.heap.size (fun b h=>.inl h) (fun _=>⟨_,by exact trivial,hL1⟩) hI1
   (fun F pre x W hl hF=>fO w.heap.size F pre x W ⟨_,hl⟩ aH hF)).mono ?_
  rintro e W2 ⟨⟨v,rfl⟩,W4,hend, -,F,xs, -,h1,h2⟩;exact⟨none,W4,hend,hdone F xs _ h1 h2⟩
end Go.Proofs.YtibacilhkciihaaGreatDoor
namespace Go.Proofs.YtibacilhkciihaaGreatDoor
namespace Cz
def fU{α:Type}(c:α->α->Int):List α->List α->Int
 |[],[]=>0
 |[],_::_=> -1
 |_::_,[]=>1
 |a::s,b::t=>if c a b=0 then fU c s t else c a b
def dF(a b:Int):Int:=if a<b then -1 else if b<a then 1 else 0
structure Dw{α:Type}(c:α->α->Int):Prop where
 refl:∀a,c a a=0
 eq:∀a b,c a b=0->a=b
 anti:∀a b,c a b<0↔0<c b a
 trans:∀a b d,c a b<0->c b d<0->c a d<0
theorem gL:Dw dF where
 refl a:=by unfold dF;(repeat' split)<;>omega
 eq a b h:=by unfold dF at h;(repeat' split at h)<;>omega
 anti a b:=by unfold dF;(repeat' split)<;>omega
 trans a b d h g:=by
  unfold dF at*;(repeat' split at h)<;>(repeat' split at g)<;>(repeat' split)<;>omega
theorem zo{α:Type}{c:α->α->Int}(hc:Dw c):Dw (fU c) where
 refl a:=by
  induction a with
  |nil=>rfl
  |cons x s ih=>simp[fU,hc.refl,ih]
 eq a:=by
  induction a with
  |nil=>intro b h;cases b with
   |nil=>rfl
   |cons=>simp[fU] at h
  |cons x s ih=>intro b h;cases b with
   |nil=>simp[fU] at h
   |cons y t=>
    simp only[fU] at h
    split at h
    ·rename_i e;rw[hc.eq _ _ e,ih _ h]
    ·contradiction
 anti a:=by
  induction a with
  |nil=>intro b;cases b<;>simp[fU]
  |cons x s ih=>intro b;cases b with
   |nil=>simp[fU]
   |cons y t=>
    simp only[fU]
    by_cases e:c x y=0
    ·have e':c y x=0:=by rw[hc.eq _ _ e];exact hc.refl _
     rw[if_pos e,if_pos e'];exact ih t
    ·have e':c y x≠0:=fun h=>e (by rw[hc.eq _ _ h];exact hc.refl _)
     rw[if_neg e,if_neg e'];exact hc.anti _ _
 trans a:=by
  induction a with
  |nil=>intro b d h g;cases b with
   |nil=>simp[fU] at h
   |cons y t=>cases d with
    |nil=>simp[fU] at g
    |cons z u=>simp[fU]
  |cons x s ih=>intro b d h g;cases b with
   |nil=>simp[fU] at h
   |cons y t=>cases d with
    |nil=>simp[fU] at g
    |cons z u=>
     simp only[fU] at h g ⊢
     by_cases e:c x y=0
     ·have:=hc.eq _ _ e;subst this
      rw[if_pos e] at h;by_cases f:c x z=0
      ·rw[if_pos f] at g ⊢;exact ih _ _ h g
      ·rw[if_neg f] at g ⊢;exact g
     ·rw[if_neg e] at h
      by_cases f:c y z=0
      ·have:=hc.eq _ _ f;subst this
       rw[if_neg e];exact h
      ·rw[if_neg f] at g
       have:=hc.trans _ _ _ h g;rw[if_neg aB];exact this
def zq{α:Type}(c:α->α->Int)(x:α):List α->List α
 |[]=>[x]
 |y::t=>if c x y<0 then x::y::t else if c x y=0 then y::t else y::zq c x t
def cT{α:Type}(c:α->α->Int)(l:List α):List α:=l.foldr (zq c) []
def Jh{α:Type}(c:α->α->Int)(x:α):List α->List α
 |[]=>[x]
 |y::t=>if c y x<0 then y::Jh c x t else x::y::t
def fS{α:Type}(c:α->α->Int)(l:List α):List α:=l.foldr (Jh c) []
section
variable {α:Type} {c:α->α->Int} (hc:Dw c)
include hc
theorem FP{x z:α}{l:List α}:z∈zq c x l↔z=x\/z∈l:=by
 induction l with
 |nil=>simp[zq]
 |cons y t ih=>
  unfold zq
  split
  ·simp
  ·split
   ·rename_i _ e
    have:=hc.eq _ _ e;subst this;simp
   ·simp[ih];constructor
    ·rintro (h|h|h)<;>simp[h]
    ·rintro (h|h|h)<;>simp[h]
theorem FQ{x:α}{l:List α}(h:l.Pairwise (c · ·<0)):(zq c x l).Pairwise (c · ·<0):=by
 induction l with
 |nil=>simp[zq]
 |cons y t ih=>
  rw[List.pairwise_cons] at h
  unfold zq
  split
  ·rename_i e
   rw[List.pairwise_cons];refine⟨fun z hz=>?_,List.pairwise_cons.2 h⟩;rcases kD.1 hz with rfl|hz
   ·exact e
   ·exact hc.trans _ _ _ e (h.1 z hz)
  ·split
   ·exact List.pairwise_cons.2 h
   ·rename_i e1 e2
    rw[List.pairwise_cons];refine⟨fun z hz=>?_,ih h.2⟩;rcases (FP hc).1 hz with rfl|hz
    ·have:=(hc.anti z y);have:=hc.anti y z;omega
    ·exact h.1 z hz
theorem ja{z:α}{l:List α}:z∈cT c l↔z∈l:=by
 unfold cT;induction l with
 |nil=>simp
 |cons y t ih=>rw[List.foldr_cons,FP hc,ih,kD]
theorem gG{l:List α}:(cT c l).Pairwise (c · ·<0):=by
 unfold cT;induction l with
 |nil=>simp
 |cons y t ih=>exact FQ hc ih
theorem nI{s t:List α}(hs:s.Pairwise (c · ·<0))(ht:t.Pairwise (c · ·<0))(h:∀x,x∈s↔x∈t):s=t:=by
 induction s generalizing t with
 |nil=>cases t with
  |nil=>rfl
  |cons y t=>exact absurd ((h y).2 bp) bp
 |cons x s ih=>cases t with
  |nil=>exact absurd ((h x).1 bp) bp
  |cons y t=>
   rw[List.pairwise_cons] at hs ht
   have aaT:∀a,¬c a a<0:=fun a=>by rw[hc.refl];omega
   have hxy:x=y:=by
    rcases kD.1 ((h x).1 bp) with e|e
    ·exact e
    ·rcases kD.1 ((h y).2 bp) with e'|e'
     ·exact e'.symm
     ·exact absurd (hc.trans _ _ _ (hs.1 _ e') (ht.1 _ e)) (aaT _)
   subst hxy
   rw[ih hs.2 ht.2 fun z=>?_]
   have:=h z
   simp only[kD] at this
   constructor
   ·intro hz
    rcases this.1 (.inr hz) with rfl|g
    ·exact absurd (hs.1 _ hz) (aaT _)
    ·exact g
   ·intro hz
    rcases this.2 (.inr hz) with rfl|g
    ·exact absurd (ht.1 _ hz) (aaT _)
    ·exact g
theorem mC{l l':List α}(h:∀x,x∈l↔x∈l'):cT c l=cT c l':=
 nI hc (gG hc) (gG hc) fun x=>by rw[ja hc,ja hc];exact h x
omit hc in
theorem Cm{x:α}{l:List α}:(Jh c x l).Perm (x::l):=by
 induction l with
 |nil=>exact .refl _
 |cons y t ih=>
  unfold Jh
  split
  ·exact(ih.cons y).trans (List.Perm.swap ..)
  ·exact .refl _
omit hc in
theorem gH{l:List α}:(fS c l).Perm l:=by
 unfold fS;induction l with
 |nil=>exact .refl _
 |cons y t ih=>exact Cm.trans (ih.cons y)
theorem FR{x:α}{l:List α}(h:l.Pairwise (fun a b=>¬c b a<0)):(Jh c x l).Pairwise (fun a b=>¬c b a<0):=by
 induction l with
 |nil=>simp[Jh]
 |cons y t ih=>
  rw[List.pairwise_cons] at h
  unfold Jh
  split
  ·rename_i e
   rw[List.pairwise_cons];refine⟨fun z hz=>?_,ih h.2⟩;rcases kD.1 (Cm.mem_iff.1 hz) with rfl|hz
   ·have:=hc.anti y z;have:=hc.anti z y;omega
   ·exact h.1 z hz
  ·rename_i e
   rw[List.pairwise_cons];refine⟨fun z hz=>?_,List.pairwise_cons.2 h⟩;rcases kD.1 hz with rfl|hz
   ·exact e
   ·intro g
    have h1:=h.1 z hz;by_cases q:c x y=0
    ·rw[hc.eq _ _ q] at g;exact h1 g
    ·have:=hc.anti x y;have:=hc.anti y x
     exact h1 (hc.trans _ _ _ g aB)
theorem kY{l:List α}:(fS c l).Pairwise (fun a b=>¬c b a<0):=by
 unfold fS;induction l with
 |nil=>simp
 |cons y t ih=>exact FR hc ih
theorem zu{s t:List α}(hs:s.Pairwise (fun a b=>¬c b a<0))(ht:t.Pairwise (fun a b=>¬c b a<0))(h:s.Perm t):s=t:=by
 induction s generalizing t with
 |nil=>exact(List.Perm.nil_eq h)
 |cons x s ih=>cases t with
  |nil=>exact absurd h.symm.nil_eq bp
  |cons y t=>
   rw[List.pairwise_cons] at hs ht
   have hxy:x=y:=by
    rcases kD.1 (h.mem_iff.1 (List.mem_cons_self ..)) with e|e
    ·exact e
    ·rcases kD.1 (h.mem_iff.2 (List.mem_cons_self ..)) with e'|e'
     ·exact e'.symm
     ·have h1:=hs.1 _ e'
      have h2:=ht.1 _ e;refine hc.eq _ _ ?_;have:=hc.anti x y;have:=hc.anti y x;omega
   subst hxy
   rw[ih hs.2 ht.2 (List.Perm.cons_inv h)]
theorem wB{l l':List α}(h:l.Perm l'):fS c l=fS c l':=
 zu hc (kY hc) (kY hc) (gH.trans (h.trans gH.symm))
theorem RE{l s:List α}(hs:s.Pairwise (fun a b=>¬c b a<0))(h:s.Perm l):fS c l=s:=
 zu hc (kY hc) hs (gH.trans h.symm)
def pos(c:α->α->Int)(s:List α)(x:α):Nat:=(s.takeWhile (fun y=>decide (c y x<0))).length
omit hc in
theorem aaU(s:List α)(x:α):pos c s x<=s.length:=by
 unfold pos;exact(List.takeWhile_sublist _).length_le
theorem Vs{s:List α}(hs:s.Pairwise (c · ·<0)){x:α}(hx:x∈s):s[pos c s x]?=some x:=by
 induction s with
 |nil=>cases hx
 |cons y t ih=>
  rw[List.pairwise_cons] at hs
  unfold pos
  rw[List.takeWhile_cons]
  rcases kD.1 hx with rfl|h
  ·simp[hc.refl]
  ·have h1:=hs.1 x h
   simp only[h1,decide_true,if_true,List.length_cons,List.getElem?_cons_succ];exact ih hs.2 h
end
abbrev Row:=List Int
abbrev Wd:=List (List Row)
abbrev fT:=List (List Int)
def dA:Row->Row->Int:=fU dF
theorem cZ:Dw dA:=zo gL
def uK:Wd->Wd->Int:=fU (fU dA)
theorem jy:Dw uK:=zo (zo cZ)
def fk(ks:fT)(k f:Nat):Int:=(ks.getD k []).getD f (-2)
def row(w:Wd)(k i:Nat):Row:=(w.getD k []).getD i []
def cell(w:Wd)(k i f:Nat):Int:=(row w k i).getD f 0
def len(w:Wd)(k:Nat):Nat:=(w.getD k []).length
def sg(S:List Row)(k i:Nat):Int:=(S.getD k []).getD i 0
def mask(fs:List Int)(r:Row):Row:=(List.range r.length).map fun f=>if fs.getD f (-2)= -2 then r.getD f 0 else 0
def rk(ls:List Row)(l:Row):Int:=(pos dA (cT dA ls) l:Nat)
def rT(ls:List Row):Row:=ls.map (rk ls)
def S0(ks:fT)(w:Wd):List Row:=(List.range w.length).map fun k=>rT ((List.range (len w k)).map fun i=>mask (ks.getD k []) (row w k i))
def iC(ks:fT)(k:Nat):List (Nat×Nat):=(List.range ks.length).flatMap fun k'=>((List.range (ks.getD k' []).length).filter (fun f=>decide (fk ks k' f=k))).map fun f=>(k',f)
def kA(w:Wd)(S:List Row)(k f i:Nat):Row:=((List.range (len w k)).filter (fun j=>decide (cell w k j f=i))).map (sg S k)
def jN(ks:fT)(w:Wd)(S:List Row)(k i:Nat):Row:=
 sg S k i::(((List.range (ks.getD k []).length).filter (fun f=>decide (0<=fk ks k f))).map (fun f=>sg S (fk ks k f).toNat (cell w k i f).toNat)++
  (iC ks k).flatMap fun p=>((kA w S p.1 p.2 i).length:Int)::fS dF (kA w S p.1 p.2 i))
def fA(ks:fT)(w:Wd)(S:List Row):List Row:=(List.range w.length).map fun k=>rT ((List.range (len w k)).map (jN ks w S k))
def diff(S:List Row):Nat:=(S.map fun l=>(cT dF l).length).sum
def oD(ks:fT)(w:Wd):Nat->List Row->List Row
 |0,S=>S
 |n+1,S=>if diff (fA ks w S)=diff S then fA ks w S else oD ks w n (fA ks w S)
def gW(c:Int->Nat):Row->Nat
 |[]=>1
 |x::t=>(c x+1)*gW (fun y=>if y=x then c y+1 else c y) t
def arr(S:List Row):Nat:=S.foldr (fun l n=>gW (fun _=>0) l*n) 1
def tr(sort want:Row):Nat->List Nat->List (List Nat)
 |0,o=>[o]
 |n+1,o=>((List.range sort.length).filter (fun i=>decide (i∉o/\sort.getD i 0=want.getD o.length 0))).flatMap fun i=>tr sort want n (o++[i])
def orders(l:Row):List (List Nat):=tr l (fS dF l) l.length []
def jE:List Row->List (List Nat)->List (List (List Nat))
 |[],b=>[b]
 |l::S,b=>(orders l).flatMap fun o=>jE S (b++[o])
def val(ks:fT)(a:List (List Nat))(k f:Nat)(v:Int):Int:=
 if fk ks k f= -2 then v else if fk ks k f= -1 then 0 else ((a.getD (fk ks k f).toNat []).idxOf v.toNat:Nat)
def bY(ks:fT)(w:Wd)(a:List (List Nat)):Wd:=(List.range w.length).map fun k=>(a.getD k []).map fun i=>
 (List.range (row w k i).length).map fun f=>val ks a k f (cell w k i f)
def best(l:List Wd):Option Wd:=l.foldl (fun b v=>match b with
 |none=>some v
 |some b=>if uK v b<0 then some v else some b) none
def total(w:Wd):Nat:=(w.map List.length).sum
def sorts(ks:fT)(w:Wd):List Row:=oD ks w (total w+1) (S0 ks w)
def canon(ks:fT)(w:Wd):Option Wd:=if 720<arr (sorts ks w) then none else best ((jE (sorts ks w) []).map (bY ks w))
theorem aQ{α:Type}{xs:List α}{d:α}{k:Nat}(h:k<xs.length):xs.getD k d=xs[k]:=by
 rw[jm,lE h];rfl
theorem dB{α:Type}(n:Nat)(g:Nat->α)(d:α){k:Nat}(h:k<n):((List.range n).map g).getD k d=g k:=by
 rw[aQ lD];simp
theorem dN{α:Type}(l:List α)(d:α):(List.range l.length).map (fun i=>l.getD i d)=l:=by
 refine List.ext_getElem bp fun i h1 h2=>?_;simp only[List.getElem_map,List.getElem_range];exact aQ h2
theorem RF{ls ls':List Row}(h:∀x,x∈ls↔x∈ls')(l:Row):rk ls l=rk ls' l:=by
 unfold rk;rw[mC cZ h]
def A(a:List (List Nat))(k j:Nat):Nat:=(a.getD k []).getD j 0
structure qP(ks:fT)(a:List (List Nat))(w v:Wd):Prop where
 l:v.length=w.length
 lk:w.length=ks.length
 n:∀k,k<w.length->len v k=len w k
 p:∀k,k<w.length->(a.getD k []).Perm (List.range (len w k))
 r:∀k j,k<w.length->j<len w k->(row v k j).length=(ks.getD k []).length/\(row w k j).length=(ks.getD k []).length
 num:∀k j f,k<w.length->j<len w k->f<(ks.getD k []).length->fk ks k f= -2->cell v k j f=cell w k (A a k j) f
 ref:∀k j f,k<w.length->j<len w k->f<(ks.getD k []).length->0<=fk ks k f->
  (fk ks k f).toNat<w.length/\0<=cell v k j f/\(cell v k j f).toNat<len w (fk ks k f).toNat/\cell w k (A a k j) f=A a (fk ks k f).toNat (cell v k j f).toNat
 code:∀k f, -2<=fk ks k f
section
variable {ks:fT} {a:List (List Nat)} {w v:Wd} (h:qP ks a w v)
include h
theorem qP.RH{k:Nat}(hk:k<w.length):(a.getD k []).length=len w k:=by
 have:=(h.p k hk).length_eq;simpa using this
theorem qP.lt{k j:Nat}(hk:k<w.length)(hj:j<len w k):A a k j<len w k:=by
 have h1:j<(a.getD k []).length:=by rw[h.RH hk];exact hj
 have h2:A a k j∈a.getD k []:=by unfold A;rw[aQ h1];exact gm _
 have:=(h.p k hk).mem_iff.1 h2;simpa using this
theorem qP.list{k:Nat}(hk:k<w.length):(List.range (len w k)).map (A a k)=a.getD k []:=by
 rw[<-h.RH hk];exact dN _ _
theorem qP.perm{k:Nat}(hk:k<w.length):((List.range (len w k)).map (A a k)).Perm (List.range (len w k)):=by
 rw[h.list hk];exact h.p k hk
theorem qP.inj{k i j:Nat}(hk:k<w.length)(hi:i<len w k)(hj:j<len w k)(e:A a k i=A a k j):i=j:=by
 have hn:(a.getD k []).Nodup:=(h.p k hk).nodup_iff.2 List.nodup_range;have h1:i<(a.getD k []).length:=by rw[h.RH hk];exact hi
 have h2:j<(a.getD k []).length:=by rw[h.RH hk];exact hj
 unfold A at e;rw[aQ h1,aQ h2] at e;exact(List.getElem_inj hn).1 e
end
structure oZ(a:List (List Nat))(w:Wd)(S T:List Row):Prop where
 ls:S.length=w.length
 lt:T.length=w.length
 ns:∀k,k<w.length->(S.getD k []).length=len w k
 nt:∀k,k<w.length->(T.getD k []).length=len w k
 e:∀k j,k<w.length->j<len w k->sg T k j=sg S k (A a k j)
theorem FT{ls:List Row}{j:Nat}(h:j<ls.length):(rT ls).getD j 0=rk ls (ls.getD j []):=by
 unfold rT;rw[aQ lD,aQ h];simp
theorem qP.adH{ks:fT}{a:List (List Nat)}{w v:Wd}(h:qP ks a w v){g f:Nat->Nat->Row}(hg:∀k j,k<w.length->j<len w k->f k j=g k (A a k j)):
  oZ a w ((List.range w.length).map fun k=>rT ((List.range (len w k)).map (g k))) ((List.range v.length).map fun k=>rT ((List.range (len v k)).map (f k))) where
 ls:=bp
 lt:=by simp[h.l]
 ns k hk:=by rw[dB _ _ _ hk];simp[rT]
 nt k hk:=by rw[dB _ _ _ (by rw[h.l];exact hk)];simp[rT,h.n k hk]
 e k j hk hj:=by
  have hA:=h.lt hk hj;unfold sg;rw[dB _ _ _ (by rw[h.l];exact hk),dB _ _ _ hk,h.n k hk,FT mP,FT (by simpa using hA),dB _ _ _ hj,dB _ _ _ hA,hg k j hk hj];refine RF (fun x=>?_) _;have hp:=((h.perm hk).map (g k)).mem_iff (a:=x);rw[<-hp,List.map_map]
  have:(List.range (len w k)).map (f k)=(List.range (len w k)).map (g k ∘ A a k):=by
   refine List.map_congr_left fun j hj=>hg k j hk mP
  rw[this]
theorem qP.s0{ks:fT}{a:List (List Nat)}{w v:Wd}(h:qP ks a w v):oZ a w (S0 ks w) (S0 ks v):=by
 refine h.adH fun k j hk hj=>?_;unfold mask;rw[(h.r k j hk hj).1,(h.r k (A a k j) hk (h.lt hk hj)).2];refine List.map_congr_left fun f hf=>?_;have hf':f<(ks.getD k []).length:=GJ
 by_cases e:(ks.getD k []).getD f (-2)= -2
 ·rw[if_pos e,if_pos e];exact h.num k j f hk hj hf' e
 ·rw[if_neg e,if_neg e]
theorem Bh{α β:Type}{l:List α}{f g:α->List β}(h:∀x∈l,f x=g x):l.flatMap f=l.flatMap g:=by
 induction l with
 |nil=>rfl
 |cons x t ih=>rw[List.flatMap_cons,List.flatMap_cons,h x bp,ih fun y hy=>h y (by simp[hy])]
theorem Ji{ks:fT}{k:Nat}{p:Nat×Nat}(h:p∈iC ks k):p.1<ks.length/\p.2<(ks.getD p.1 []).length/\fk ks p.1 p.2=k:=by
 unfold iC at h;rw[List.mem_flatMap] at h;obtain⟨k',h1,h2⟩:=h;rw[List.mem_map] at h2;obtain⟨f,h2,rfl⟩:=h2;rw[List.mem_filter] at h2;exact⟨AF,by simpa using h2.1,by simpa using h2.2⟩
theorem qP.own{ks:fT}{a:List (List Nat)}{w v:Wd}(h:qP ks a w v){S T:List Row}(hs:oZ a w S T){k f j:Nat}(hk:k<w.length)(hf:f<(ks.getD k []).length)
  {u:Nat}(hu:fk ks k f=u)(hj:j<len w u):(kA v T k f j).Perm (kA w S k f (A a u j)):=by
 unfold kA
 have e:((List.range (len v k)).filter (fun i=>decide (cell v k i f=j))).map (sg T k)=(((List.range (len w k)).map (A a k)).filter (fun i=>decide (cell w k i f=A a u j))).map (sg S k):=by
  rw[h.n k hk,List.filter_map,List.map_map]
  have e1:(List.range (len w k)).filter (fun i=>decide (cell v k i f=j))=(List.range (len w k)).filter ((fun i=>decide (cell w k i f=A a u j)) ∘ A a k):=by
   refine List.filter_congr fun i hi=>?_;have hi':i<len w k:=Eh
   obtain⟨q1,q2,q3,q4⟩:=h.ref k i f hk hi' hf aB;simp only[Function.comp,decide_eq_decide];rw[q4];rw[show (fk ks k f).toNat=u by omega] at q1 q3 ⊢;constructor
   ·intro e;rw[e];rfl
   ·intro e
    have:=h.inj q1 q3 hj aB;omega
  rw[e1];refine List.map_congr_left fun i hi=>?_;exact hs.e k i hk (by simpa using (List.mem_filter.1 hi).1)
 rw[e];exact((h.perm hk).filter _).map _
theorem qP.next{ks:fT}{a:List (List Nat)}{w v:Wd}(h:qP ks a w v){S T:List Row}(hs:oZ a w S T):oZ a w (fA ks w S) (fA ks v T):=by
 refine h.adH fun k j hk hj=>?_;unfold jN;rw[hs.e k j hk hj];congr 2
 ·refine List.map_congr_left fun f hf=>?_
  rw[List.mem_filter] at hf;obtain⟨q1,q2,q3,q4⟩:=h.ref k j f hk hj (by simpa using hf.1) (by simpa using hf.2);rw[hs.e _ _ q1 q3,q4];rfl
 ·have e:∀p∈iC ks k,((kA v T p.1 p.2 j).length:Int)::fS dF (kA v T p.1 p.2 j)=((kA w S p.1 p.2 (A a k j)).length:Int)::fS dF (kA w S p.1 p.2 (A a k j)):=by
   intro p hp
   obtain⟨q1,q2,q3⟩:=Ji hp
   have:=h.own hs (k:=p.1) (f:=p.2) (by rw[h.lk];exact q1) q2 q3 hj
   rw[this.length_eq,wB gL this]
  exact Bh e
theorem oZ.perm{ks:fT}{a:List (List Nat)}{w v:Wd}(h:qP ks a w v){S T:List Row}(hs:oZ a w S T){k:Nat}(hk:k<w.length):(T.getD k []).Perm (S.getD k []):=by
 have e1:T.getD k []=((List.range (len w k)).map (A a k)).map (sg S k):=by
  rw[<-dN (T.getD k []) 0,hs.nt k hk,List.map_map];exact List.map_congr_left fun j hj=>hs.e k j hk mP
 have e2:S.getD k []=(List.range (len w k)).map (sg S k):=by
  rw[<-hs.ns k hk];exact(dN _ _).symm
 rw[e1];conv=>rhs;rw[e2]
 exact(h.perm hk).map _
theorem Jj{l l':Row}(h:l.Perm l'):∀c,gW c l=gW c l':=by
 induction h with
 |nil=>intro c;rfl
 |cons x _ ih=>intro c;simp only[gW];rw[ih]
 |swap x y l=>
  intro c
  simp only[gW]
  by_cases e:x=y
  ·subst e;rfl
  ·have e1:(fun z=>if z=x then (if z=y then c z+1 else c z)+1 else if z=y then c z+1 else c z)=(fun z=>if z=y then (if z=x then c z+1 else c z)+1 else if z=x then c z+1 else c z):=by
    funext z
    by_cases h1:z=x
    ·have:z≠y:=fun h2=>e (h1.symm.trans h2)
     simp[h1,e]
    ·simp[h1]
   rw[e1,if_neg e,if_neg (Ne.symm e),<-Nat.mul_assoc,<-Nat.mul_assoc,Nat.mul_comm (c x+1)]
 |trans _ _ h1 h2=>intro c;rw[h1,h2]
theorem iT{α:Type}(S:List α)(d:α):S=(List.range S.length).map fun k=>S.getD k d:=(dN S d).symm
section
variable {ks:fT} {a:List (List Nat)} {w v:Wd} (h:qP ks a w v)
include h
theorem oZ.fold{β:Type}{S T:List Row}(hs:oZ a w S T)(g:Row->β)(hg:∀l l':Row,l.Perm l'->g l=g l'):S.map g=T.map g:=by
 rw[iT S [],iT T [],hs.ls,hs.lt,List.map_map,List.map_map];refine List.map_congr_left fun k hk=>?_;exact(hg _ _ (hs.perm h wK)).symm
theorem oZ.diff{S T:List Row}(hs:oZ a w S T):diff S=diff T:=by
 unfold Cz.diff;rw[hs.fold h (fun l=>(cT dF l).length) (fun l l' hp=>by rw[mC gL fun x=>hp.mem_iff])]
theorem oZ.arr{S T:List Row}(hs:oZ a w S T):arr S=arr T:=by
 have e:∀S:List Row,Cz.arr S=(S.map (gW fun _=>0)).foldr (·*·) 1:=by
  intro S;unfold Cz.arr;rw[List.foldr_map]
 rw[e,e,hs.fold h _ (fun l l' hp=>Jj hp _)]
theorem qP.total:total v=total w:=by
 unfold Cz.total;rw[iT v [],iT w [],h.l,List.map_map,List.map_map];congr 1;refine List.map_congr_left fun k hk=>?_;exact h.n k wK
theorem qP.oD(n:Nat):∀{S T:List Row},oZ a w S T->oZ a w (oD ks w n S) (oD ks v n T):=by
 induction n with
 |zero=>intro S T hs;exact hs
 |succ n ih=>
  intro S T hs
  unfold Cz.oD
  have h1:=h.next hs
  rw[hs.diff h,h1.diff h]
  split
  ·exact h1
  ·exact ih h1
theorem qP.sorts:oZ a w (sorts ks w) (sorts ks v):=by
 unfold Cz.sorts;rw[h.total];exact h.oD _ h.s0
end
theorem Yu{p:Prop}(h:p:=by
  constructor
  ·rintro rfl;exact⟨[],bp⟩
  ·rintro ⟨t,rfl,ht, -⟩
   rw[List.length_eq_zero_iff.1 ht];simp):p:=h
theorem RI{sort want:Row}{n:Nat}:∀{p o:List Nat},o∈tr sort want n p↔∃t,o=p++t/\t.length=n/\(∀i∈t,i<sort.length)/\t.Nodup/\(∀i∈t,i∉p)/\∀j,j<n->sort.getD (t.getD j 0) 0=want.getD (p.length+j) 0:=by
 induction n with
 |zero=>
  intro p o
  simp only[tr,mL]
  exact Yu
 |succ n ih=>
  intro p o
  simp only[tr,List.mem_flatMap,List.mem_filter,List.mem_range,qZ]
  constructor
  ·rintro ⟨i,⟨h1,h2,h3⟩,h4⟩
   obtain⟨t,rfl,e1,e2,e3,e4,e5⟩:=ih.1 h4;refine⟨i::t,bp,by simp[e1],?_,?_,?_,?_⟩
   ·intro x hx
    rcases kD.1 hx with rfl|hx
    ·exact h1
    ·exact e2 x hx
   ·rw[List.nodup_cons]
    exact⟨fun hi=>e4 i hi bp,e3⟩
   ·intro x hx
    rcases kD.1 hx with rfl|hx
    ·exact h2
    ·exact fun hp=>e4 x hx (by simp[hp])
   ·intro j hj
    cases j with
    |zero=>simpa using h3
    |succ j=>
     have:=e5 j aB
     rw[List.getD_cons_succ,this]
     congr 1
     simp;omega
  ·rintro ⟨t,rfl,e1,e2,e3,e4,e5⟩
   cases t with
   |nil=>simp at e1
   |cons i t=>
    rw[List.nodup_cons] at e3
    refine⟨i,⟨e2 i bp,e4 i bp,by simpa using e5 0 aB⟩,?_⟩
    refine ih.2 ⟨t,bp,by simpa using e1,fun x hx=>e2 x CQ,e3.2,fun x hx hp=>?_,fun j hj=>?_⟩
    ·rcases List.mem_append.1 hp with hp|hp
     ·exact e4 x CQ hp
     ·rw[mL] at hp;subst hp;exact e3.1 hx
    ·have:=e5 (j+1) aB
     rw[List.getD_cons_succ] at this;rw[this];congr 1;simp;omega
def wC(l:Row)(o:List Nat):Prop:=o.Perm (List.range l.length)/\∀j,j<l.length->l.getD (o.getD j 0) 0=(fS dF l).getD j 0
theorem zw{n:Nat}{t:List Nat}(h1:t.length=n)(h2:∀i∈t,i<n)(h3:t.Nodup):t.Perm (List.range n):=by
 refine(List.perm_ext_iff_of_nodup h3 List.nodup_range).2 fun x=>⟨fun hx=>by simpa using h2 x hx,fun hx=>?_⟩;apply Classical.byContradiction;intro hn
 have:=List.Nodup.length_le_of_subset (l₁:=x::t) (l₂:=List.range n) (List.nodup_cons.2 ⟨hn,h3⟩) (fun y hy=>by
  rcases kD.1 hy with rfl|hy
  ·exact hx
  ·simpa using h2 y hy)
 simp at this;omega
theorem oF{l:Row}{o:List Nat}:o∈orders l↔wC l o:=by
 unfold orders wC;rw[RI];constructor
 ·rintro ⟨t,rfl,e1,e2,e3, -,e5⟩
  exact⟨zw e1 e2 e3,fun j hj=>by simpa using e5 j hj⟩
 ·rintro ⟨h1,h2⟩
  have hl:o.length=l.length:=by simpa using h1.length_eq
  refine⟨o,rfl,hl,fun i hi=>by simpa using h1.mem_iff.1 hi,h1.nodup_iff.2 List.nodup_range,bp,fun j hj=>by simpa using h2 j hj⟩
theorem RJ{S:List Row}:∀{b a:List (List Nat)},a∈jE S b↔∃t,a=b++t/\t.length=S.length/\∀k,k<S.length->wC (S.getD k []) (t.getD k []):=by
 induction S with
 |nil=>
  intro b a
  simp only[jE,mL]
  exact Yu
 |cons l S ih=>
  intro b a
  simp only[jE,List.mem_flatMap]
  constructor
  ·rintro ⟨o,h1,h2⟩
   obtain⟨t,rfl,e1,e2⟩:=ih.1 h2;refine⟨o::t,bp,by simp[e1],fun k hk=>?_⟩;cases k with
   |zero=>simpa using oF.1 h1
   |succ k=>simpa using e2 k wK
  ·rintro ⟨t,rfl,e1,e2⟩
   cases t with
   |nil=>simp at e1
   |cons o t=>
    refine⟨o,oF.2 (by simpa using e2 0 bp),ih.2 ⟨t,bp,by simpa using e1,fun k hk=>?_⟩⟩
    simpa using e2 (k+1) wK
theorem qx{S:List Row}{a:List (List Nat)}:a∈jE S []↔a.length=S.length/\∀k,k<S.length->wC (S.getD k []) (a.getD k []):=by
 rw[RJ];constructor
 ·rintro ⟨t,rfl,h⟩;exact h
 ·intro h;exact⟨a,rfl,h⟩
structure l7(ks:fT)(w:Wd):Prop where
 lk:w.length=ks.length
 r:∀k i,k<w.length->i<len w k->(row w k i).length=(ks.getD k []).length
 ref:∀k i f,k<w.length->i<len w k->f<(ks.getD k []).length->0<=fk ks k f->(fk ks k f).toNat<w.length/\0<=cell w k i f/\(cell w k i f).toNat<len w (fk ks k f).toNat
 code:∀k f, -2<=fk ks k f
theorem getD_map{α β:Type}(l:List α)(g:α->β)(d:α)(e:β){j:Nat}(h:j<l.length):(l.map g).getD j e=g (l.getD j d):=by
 rw[aQ lD,aQ h];simp
theorem K3{l:List Nat}{x:Nat}(h:x∈l):l.getD (l.idxOf x) 0=x:=by
 rw[aQ (List.idxOf_lt_length_of_mem h)];exact List.getElem_idxOf _
section
variable {ks:fT} {a:List (List Nat)} {w:Wd} (hw:l7 ks w) (ha:∀k,k<w.length->(a.getD k []).Perm (List.range (len w k)))
include hw ha
omit hw in
theorem Vt{k:Nat}(hk:k<w.length):len (bY ks w a) k=len w k:=by
 unfold len bY;rw[dB _ _ _ hk,Bp,(ha k hk).length_eq,List.length_range];rfl
omit hw in
theorem K4{k j:Nat}(hk:k<w.length)(hj:j<len w k):row (bY ks w a) k j=(List.range (row w k (A a k j)).length).map fun f=>val ks a k f (cell w k (A a k j) f):=by
 have h1:j<(a.getD k []).length:=by rw[(ha k hk).length_eq];simpa using hj
 conv=>lhs;unfold row bY
 rw[dB _ _ _ hk,getD_map _ _ 0 _ h1];rfl
omit hw in
theorem Jk{k j:Nat}(hk:k<w.length)(hj:j<len w k):A a k j<len w k:=by
 have h1:j<(a.getD k []).length:=by rw[(ha k hk).length_eq];simpa using hj
 have h2:A a k j∈a.getD k []:=by unfold A;rw[aQ h1];exact gm _
 simpa using (ha k hk).mem_iff.1 h2
theorem FU{k j f:Nat}(hk:k<w.length)(hj:j<len w k)(hf:f<(ks.getD k []).length):cell (bY ks w a) k j f=val ks a k f (cell w k (A a k j) f):=by
 conv=>lhs;unfold cell
 rw[K4 ha hk hj,dB];rw[hw.r k _ hk (Jk ha hk hj)];exact hf
theorem Vu{k j f:Nat}(hk:k<w.length)(hj:j<len w k)(hf:f<(ks.getD k []).length)(hr:0<=fk ks k f):
  (fk ks k f).toNat<w.length/\0<=val ks a k f (cell w k j f)/\(val ks a k f (cell w k j f)).toNat<len w (fk ks k f).toNat/\cell w k j f=A a (fk ks k f).toNat (val ks a k f (cell w k j f)).toNat:=by
 obtain⟨q1,q2,q3⟩:=hw.ref k j f hk hj hf hr;have hm:(cell w k j f).toNat∈a.getD (fk ks k f).toNat []:=(ha _ q1).mem_iff.2 (by simpa using q3);unfold val;rw[if_neg aB,if_neg aB];refine⟨q1,aB,?_,?_⟩
 ·rw[Int.toNat_natCast]
  have:=List.idxOf_lt_length_of_mem hm;rw[(ha _ q1).length_eq] at this;simpa using this
 ·rw[Int.toNat_natCast]
  unfold A;rw[K3 hm];omega
theorem oG:qP ks a w (bY ks w a) where
 l:=by simp[bY]
 lk:=hw.lk
 n k hk:=Vt ha hk
 p:=ha
 r k j hk hj:=by
  refine⟨?_,hw.r k j hk hj⟩;rw[K4 ha hk hj];simpa using hw.r k _ hk (Jk ha hk hj)
 num k j f hk hj hf e:=by
  rw[FU hw ha hk hj hf];unfold val;rw[if_pos e]
 ref k j f hk hj hf hr:=by
  rw[FU hw ha hk hj hf];exact Vu hw ha hk (Jk ha hk hj) hf hr
 code:=hw.code
end
theorem qP.fit{ks:fT}{a:List (List Nat)}{w v:Wd}(h:qP ks a w v):l7 ks v where
 lk:=by rw[h.l,h.lk]
 r k i hk hi:=by
  rw[h.l] at hk;rw[h.n k hk] at hi;exact(h.r k i hk hi).1
 ref k i f hk hi hf hr:=by
  rw[h.l] at hk;rw[h.n k hk] at hi;obtain⟨q1,q2,q3, -⟩:=h.ref k i f hk hi hf hr;exact⟨by rw[h.l];exact q1,q2,by rw[h.n _ q1];exact q3⟩
 code:=h.code
def comp(w:Wd)(a b:List (List Nat)):List (List Nat):=(List.range w.length).map fun k=>(b.getD k []).map (A a k)
theorem Cn{g:Nat->Nat}{x:Nat}:∀{l:List Nat},(∀y∈l,g x=g y->x=y)->(l.map g).idxOf (g x)=l.idxOf x
 |[],_=>rfl
 |y::t,h=>by
  rw[List.map_cons,List.idxOf_cons,List.idxOf_cons,Cn fun z hz=>h z (by simp[hz])]
  have:(g y==g x)=(y==x):=by
   rw[Bool.eq_iff_iff];constructor
   ·intro q;exact beq_iff_eq.2 (h y bp (beq_iff_eq.1 q).symm).symm
   ·intro q;rw[beq_iff_eq.1 q];exact beq_self_eq_true _
  rw[this]
theorem qP.comp{ks:fT}{a b:List (List Nat)}{w v:Wd}(h:qP ks a w v)(hb:∀k,k<w.length->(b.getD k []).Perm (List.range (len w k))):
  bY ks v b=bY ks w (comp w a b):=by
 unfold bY;rw[h.l];refine List.map_congr_left fun k hk=>?_;have hk:k<w.length:=wK
 unfold Cz.comp;rw[dB _ _ _ hk,List.map_map];refine List.map_congr_left fun i hi=>?_;have hi:i<len w k:=by simpa using (hb k hk).mem_iff.1 hi
 have hA:=h.lt hk hi;simp only[Function.comp];rw[(h.r k i hk hi).1,(h.r k _ hk hA).2];refine List.map_congr_left fun f hf=>?_;have hf:f<(ks.getD k []).length:=GJ
 unfold val;by_cases e:fk ks k f= -2
 ·rw[if_pos e,if_pos e,h.num k i f hk hi hf e]
 ·rw[if_neg e,if_neg e]
  by_cases e1:fk ks k f= -1
  ·rw[if_pos e1,if_pos e1]
  ·rw[if_neg e1,if_neg e1]
   have:=h.code k f;obtain⟨q1,q2,q3,q4⟩:=h.ref k i f hk hi hf aB;rw[dB _ _ _ q1,q4,Int.toNat_natCast,Cn];intro y hy he;have hy:y<len w (fk ks k f).toNat:=by simpa using (hb _ q1).mem_iff.1 hy
   exact h.inj q1 q3 hy he
theorem qP.ord{ks:fT}{a:List (List Nat)}{w v:Wd}(h:qP ks a w v){S T:List Row}(hs:oZ a w S T){k:Nat}(hk:k<w.length){o:List Nat}
  (hp:o.Perm (List.range (len w k))):wC (T.getD k []) o↔wC (S.getD k []) (o.map (A a k)):=by
 unfold wC;rw[hs.nt k hk,hs.ns k hk,wB gL (hs.perm h hk)];have hl:o.length=len w k:=by simpa using hp.length_eq
 have e:∀j,j<len w k->(T.getD k []).getD (o.getD j 0) 0=(S.getD k []).getD ((o.map (A a k)).getD j 0) 0:=by
  intro j hj;rw[getD_map _ _ 0 _ (by rw[hl];exact hj)];refine hs.e k _ hk ?_;have:o.getD j 0∈o:=by rw[aQ (by rw[hl];exact hj)];exact gm _
  simpa using hp.mem_iff.1 this
 constructor
 ·rintro ⟨-,h2⟩
  exact⟨(hp.map _).trans (h.perm hk),fun j hj=>by rw[<-e j hj];exact h2 j hj⟩
 ·rintro ⟨-,h2⟩
  exact⟨hp,fun j hj=>by rw[e j hj];exact h2 j hj⟩
theorem qP.same{ks:fT}{a:List (List Nat)}{w v:Wd}(h:qP ks a w v){S T:List Row}(hs:oZ a w S T)(u:Wd):
  u∈(jE T []).map (bY ks v)↔u∈(jE S []).map (bY ks w):=by
 simp only[List.mem_map];constructor
 ·rintro ⟨b,hb,rfl⟩
  obtain⟨b1,b2⟩:=qx.1 hb
  have hp:∀k,k<w.length->(b.getD k []).Perm (List.range (len w k)):=fun k hk=>by
   have:=(b2 k (by rw[hs.lt];exact hk)).1;rwa [hs.nt k hk] at this
  refine⟨Cz.comp w a b,qx.2 ⟨by rw[hs.ls];simp[Cz.comp],fun k hk=>?_⟩,(h.comp hp).symm⟩;rw[hs.ls] at hk;unfold Cz.comp;rw[dB _ _ _ hk];exact(h.ord hs hk (hp k hk)).1 (b2 k (by rw[hs.lt];exact hk))
 ·rintro ⟨c,hc,rfl⟩
  obtain⟨c1,c2⟩:=qx.1 hc
  have hcp:∀k,k<w.length->(c.getD k []).Perm (List.range (len w k)):=fun k hk=>by
   have:=(c2 k (by rw[hs.ls];exact hk)).1;rwa [hs.ns k hk] at this
  have key:∀k,k<w.length->((c.getD k []).map fun i=>(a.getD k []).idxOf i).map (A a k)=c.getD k []:=by
   intro k hk;rw[List.map_map];conv=>rhs;rw[<-List.map_id (c.getD k [])]
   refine List.map_congr_left fun i hi=>?_;have hi:i<len w k:=by simpa using (hcp k hk).mem_iff.1 hi
   simp only[Function.comp,id,A];exact K3 ((h.p k hk).mem_iff.2 Eh)
  obtain⟨b,hb⟩:∃b:List (List Nat),b=(List.range w.length).map fun k=>(c.getD k []).map fun i=>(a.getD k []).idxOf i:=⟨_,rfl⟩;have hbk:∀k,k<w.length->b.getD k []=(c.getD k []).map fun i=>(a.getD k []).idxOf i:=fun k hk=>by rw[hb,dB _ _ _ hk]
  have hbp:∀k,k<w.length->(b.getD k []).Perm (List.range (len w k)):=by
   intro k hk;rw[hbk k hk];refine zw (by simpa using (hcp k hk).length_eq) (fun i hi=>?_) ?_
   ·rw[List.mem_map] at hi
    obtain⟨x,hx,rfl⟩:=hi;have hx:x<len w k:=by simpa using (hcp k hk).mem_iff.1 hx
    have:=List.idxOf_lt_length_of_mem ((h.p k hk).mem_iff.2 (by simpa using hx));rwa [h.RH hk] at this
   ·have hn:(c.getD k []).Nodup:=(hcp k hk).nodup_iff.2 List.nodup_range
    rw[<-key k hk] at hn;exact List.Pairwise.of_map (A a k) (fun x y hxy e=>hxy rX) hn
  have hcomp:Cz.comp w a b=c:=by
   unfold Cz.comp;conv=>rhs;rw[iT c [],c1,hs.ls]
   refine List.map_congr_left fun k hk=>?_;have hk:k<w.length:=wK
   rw[hbk k hk];exact key k hk
  refine⟨b,qx.2 ⟨by rw[hb,hs.lt];simp,fun k hk=>?_⟩,by rw[h.comp hbp,hcomp]⟩;rw[hs.lt] at hk;refine(h.ord hs hk (hbp k hk)).2 ?_;rw[hbk k hk,key k hk];exact c2 k (by rw[hs.ls];exact hk)
theorem zx:∀(l:List Wd) (b:Wd),∃m,l.foldl (fun b v=>match b with
 |none=>some v
 |some b=>if uK v b<0 then some v else some b) (some b)=some m/\(m=b\/m∈l)/\¬uK b m<0/\∀u∈l,¬uK u m<0
 |[],b=>⟨b,rfl,.inl rfl,by rw[jy.refl];omega,bp⟩
 |v::t,b=>by
  rw[List.foldl_cons];simp only;split
  ·rename_i e
   obtain⟨m,h1,h2,h3,h4⟩:=zx t v;refine⟨m,h1,.inr ?_,fun g=>?_,fun u hu=>?_⟩
   ·rcases h2 with rfl|h2<;>simp_all
   ·exact h3 (jy.trans _ _ _ e g)
   ·rcases kD.1 hu with rfl|hu
    ·exact h3
    ·exact h4 u hu
  ·rename_i e
   obtain⟨m,h1,h2,h3,h4⟩:=zx t b;refine⟨m,h1,?_,h3,fun u hu=>?_⟩
   ·rcases h2 with rfl|h2<;>simp_all
   ·rcases kD.1 hu with rfl|hu
    ·intro g
     by_cases q:uK u b=0
     ·rw[jy.eq _ _ q] at g;exact h3 g
     ·have:=jy.anti u b;have:=jy.anti b u
      exact h3 (jy.trans _ _ _ aB g)
    ·exact h4 u hu
theorem qy{l:List Wd}(h:l≠[]):∃m,best l=some m/\m∈l/\∀u∈l,¬uK u m<0:=by
 cases l with
 |nil=>exact absurd rfl h
 |cons v t=>
  obtain⟨m,h1,h2,h3,h4⟩:=zx t v
  refine⟨m,h1,by rcases h2 with rfl|h2<;>simp_all,fun u hu=>?_⟩
  rcases kD.1 hu with rfl|hu
  ·exact h3
  ·exact h4 u hu
theorem Jl{l l':List Wd}(h:∀u,u∈l↔u∈l'):best l=best l':=by
 by_cases e:l=[]
 ·subst e
  cases l' with
  |nil=>rfl
  |cons v t=>exact absurd ((h v).2 bp) bp
 ·have e':l'≠[]:=by
   rintro rfl
   cases l with
   |nil=>exact e rfl
   |cons v t=>exact absurd ((h v).1 bp) bp
  obtain⟨m,h1,h2,h3⟩:=qy e;obtain⟨m',g1,g2,g3⟩:=qy e';have:=h3 m' ((h m').2 g2);have:=g3 m ((h m).1 h2);have a1:=jy.anti m m';have a2:=jy.anti m' m;rw[h1,g1,jy.eq m m' aB]
theorem qP.canon{ks:fT}{a:List (List Nat)}{w v:Wd}(h:qP ks a w v):canon ks v=canon ks w:=by
 have hs:=h.sorts;unfold Cz.canon;rw[<-hs.arr h,Jl (h.same hs)]
theorem Yv(ks:fT)(w:Wd):(S0 ks w).length=w.length/\∀k,k<w.length->((S0 ks w).getD k []).length=len w k:=by
 refine⟨by simp[S0],fun k hk=>?_⟩;unfold S0;rw[dB _ _ _ hk];simp[rT]
theorem xH(ks:fT)(w:Wd)(S:List Row):(fA ks w S).length=w.length/\∀k,k<w.length->((fA ks w S).getD k []).length=len w k:=by
 refine⟨by simp[fA],fun k hk=>?_⟩;unfold fA;rw[dB _ _ _ hk];simp[rT]
theorem K5(ks:fT)(w:Wd):∀(n:Nat) (S:List Row),(S.length=w.length/\∀k,k<w.length->(S.getD k []).length=len w k)->(oD ks w n S).length=w.length/\∀k,k<w.length->((oD ks w n S).getD k []).length=len w k
 |0,S,h=>h
 |n+1,S,_=>by
  unfold oD;split
  ·exact xH ks w S
  ·exact K5 ks w n _ (xH ks w S)
theorem FV(ks:fT)(w:Wd):(sorts ks w).length=w.length/\∀k,k<w.length->((sorts ks w).getD k []).length=len w k:=K5 ks w _ _ (Yv ks w)
theorem uL{ks:fT}{w v:Wd}(h:canon ks w=some v):∃a,v=bY ks w a/\∀k,k<w.length->(a.getD k []).Perm (List.range (len w k)):=by
 unfold canon at h;split at h
 ·cases h
 ·by_cases e:(jE (sorts ks w) []).map (bY ks w)=[]
  ·rw[e] at h;cases h
  ·obtain⟨m,h1,h2, -⟩:=qy e
   rw[h1] at h;cases h;rw[List.mem_map] at h2;obtain⟨a,ha,rfl⟩:=h2;refine⟨a,rfl,fun k hk=>?_⟩;obtain⟨o1,o2⟩:=FV ks w;have:=((qx.1 ha).2 k (by rw[o1];exact hk)).1;rwa [o2 k hk] at this
theorem Jm{ks:fT}{w v:Wd}(hw:l7 ks w)(h:canon ks w=some v):l7 ks v/\canon ks v=some v/\v.length=w.length/\∀k,k<w.length->len v k=len w k:=by
 obtain⟨a,rfl,ha⟩:=uL h;have hi:=oG hw ha;exact⟨hi.fit,by rw[hi.canon];exact h,hi.l,hi.n⟩
theorem Dx{α β:Type}{g:α->β}{l l':List β}(h:l.Perm l'):∀p:List α,l'=p.map g->∃o:List α,o.Perm p/\l=o.map g:=by
 induction h with
 |nil=>intro p hp;exact⟨p,.refl _,hp⟩
 |cons x _ ih=>
  intro p hp
  cases p with
  |nil=>cases hp
  |cons y p=>
   rw[List.map_cons] at hp
   injection hp with e1 e2
   obtain⟨o,ho,e⟩:=ih p e2
   exact⟨y::o,ho.cons y,by rw[List.map_cons,e1,e]⟩
 |swap x y l=>
  intro p hp
  cases p with
  |nil=>cases hp
  |cons z p=>cases p with
   |nil=>cases hp
   |cons z' p=>
    simp only[List.map_cons] at hp
    injection hp with e1 e2
    injection e2 with e2 e3
    exact⟨z'::z::p,List.Perm.swap ..,by simp[e1,e2,e3]⟩
 |trans _ _ h1 h2=>
  intro p hp
  obtain⟨o,ho,e⟩:=h2 p hp
  obtain⟨o',ho',e'⟩:=h1 o e
  exact⟨o',ho'.trans ho,e'⟩
theorem RK(l:Row):∃o,wC l o:=by
 obtain⟨o,h1,h2⟩:=Dx (gH (c:=dF) (l:=l)) (List.range l.length) (dN l 0).symm;refine⟨o,h1,fun j hj=>?_⟩;rw[h2,getD_map _ _ 0 _ (by rw[h1.length_eq];simpa using hj)]
theorem all_some:∀(S:List Row) (b:List (List Nat)),jE S b≠[]
 |[],b=>by simp[jE]
 |l::S,b=>by
  obtain⟨o,ho⟩:=RK l;intro e;simp only[jE,List.flatMap_eq_nil_iff] at e;exact all_some S _ (e o (oF.2 ho))
def uM:List Int->Int:=List.foldr (·+·) 0
theorem M5{l l':List Int}(h:l.Perm l'):uM l=uM l':=by
 unfold uM;induction h with
 |nil=>rfl
 |cons x _ ih=>simp[ih]
 |swap x y l=>simp;omega
 |trans _ _ h1 h2=>rw[h1,h2]
def col(w:Wd)(k f:Nat):List Int:=(List.range (len w k)).map fun i=>cell w k i f
theorem qP.col{ks:fT}{a:List (List Nat)}{w v:Wd}(h:qP ks a w v){k f:Nat}(hk:k<w.length)(hf:f<(ks.getD k []).length)(e:fk ks k f= -2):uM (col v k f)=uM (col w k f):=by
 refine M5 ?_;unfold Cz.col;rw[h.n k hk]
 have:(List.range (len w k)).map (fun i=>cell v k i f)=((List.range (len w k)).map (A a k)).map fun i=>cell w k i f:=by
  rw[List.map_map];exact List.map_congr_left fun i hi=>h.num k i f hk Eh hf e
 rw[this];exact(h.perm hk).map _
theorem FW{ks:fT}{w w' v v':Wd}(hw:l7 ks w)(hw':l7 ks w')(h:canon ks w=some v)(h':canon ks w'=some v'){k f:Nat}(hk:k<w.length)
  (hf:f<(ks.getD k []).length)(e:fk ks k f= -2)(hs:uM (col w k f)≠uM (col w' k f)):v≠v':=by
 obtain⟨a,rfl,ha⟩:=uL h;obtain⟨a',rfl,ha'⟩:=uL h';intro q;have h1:=(oG hw ha).col hk hf e;have h2:=(oG hw' ha').col (k:=k) (by rw[hw'.lk,<-hw.lk];exact hk) hf e;rw[q] at h1;omega
theorem FX:∀(l:List Int) (i:Nat) (x:Int),i<l.length->uM (l.set i x)=uM l-l.getD i 0+x
 |[],i,x,h=>by simp at h
 |y::t,0,x,_=>by simp[uM];omega
 |y::t,i+1,x,h=>by
  have:=FX t i x lD;simp only[uM,List.set_cons_succ,List.foldr_cons,List.getD_cons_succ] at*;omega
theorem nQ{α:Type}{c:α->α->Int}:∀l:List α,(cT c l).length<=l.length
 |[]=>aH
 |x::t=>by
  have h:∀(s:List α),(zq c x s).length<=s.length+1:=by
   intro s;induction s with
   |nil=>simp[zq]
   |cons y s ih=>unfold zq;(repeat' split)<;>simp<;>omega
  have:=h (cT c t);have:=nQ (c:=c) t;simp only[cT,List.foldr_cons,List.length_cons] at*;omega
theorem sJ{α:Type}{c:α->α->Int}(hc:Dw c)(l:List α):(cT c l).Nodup:=
 (gG hc).imp fun {a b} h e=>by subst e;rw[hc.refl] at h;omega
theorem M6{α β:Type}{c:α->α->Int}{d:β->β->Int}(hc:Dw c)(hd:Dw d)(g:α->β)(l:List α):(cT d (l.map g)).length<=(cT c l).length:=by
 have:=List.Nodup.length_le_of_subset (l₂:=(cT c l).map g) (sJ hd (l.map g)) (fun x hx=>by
  rw[ja hd,List.mem_map] at hx;obtain⟨y,hy,rfl⟩:=hx;exact List.mem_map.2 ⟨y,(ja hc).2 hy,rfl⟩)
 simpa using this
theorem K6{w:Wd}{S:List Row}(h1:S.length=w.length)(h2:∀k,k<w.length->(S.getD k []).length=len w k):diff S<=total w:=by
 have e:total w=((List.range w.length).map fun k=>len w k).sum:=by
  unfold total;conv=>lhs;rw[iT w [],List.map_map]
  rfl
 have e2:diff S=((List.range w.length).map fun k=>(cT dF (S.getD k [])).length).sum:=by
  unfold diff;conv=>lhs;rw[iT S [],List.map_map,h1]
  rfl
 rw[e,e2]
 have:∀l:List Nat,(∀k∈l,k<w.length)->(l.map fun k=>(cT dF (S.getD k [])).length).sum<=(l.map fun k=>len w k).sum:=by
  intro l;induction l with
  |nil=>simp
  |cons k l ih=>
   intro hl
   have:=ih fun x hx=>hl x CQ
   have:=nQ (c:=dF) (S.getD k [])
   rw[h2 k (hl k bp)] at this
   simp only[List.map_cons,List.sum_cons]
   omega
 exact this _ fun k hk=>by simpa using hk
theorem Co{ks:fT}{w:Wd}{S:List Row}(h1:S.length=w.length)(h2:∀k,k<w.length->(S.getD k []).length=len w k):diff S<=diff (fA ks w S):=by
 have e1:diff (fA ks w S)=((List.range w.length).map fun k=>(cT dF (rT ((List.range (len w k)).map (jN ks w S k)))).length).sum:=by
  unfold diff fA;rw[List.map_map];rfl
 have e2:diff S=((List.range w.length).map fun k=>(cT dF (S.getD k [])).length).sum:=by
  unfold diff;conv=>lhs;rw[iT S [],List.map_map,h1]
  rfl
 rw[e1,e2]
 have:∀l:List Nat,(∀k∈l,k<w.length)->(l.map fun k=>(cT dF (S.getD k [])).length).sum<=(l.map fun k=>(cT dF (rT ((List.range (len w k)).map (jN ks w S k)))).length).sum:=by
  intro l;induction l with
  |nil=>simp
  |cons k l ih=>
   intro hl
   have:=ih fun x hx=>hl x CQ
   have hk:=hl k bp
   obtain⟨ls,hls⟩:=bB ((List.range (len w k)).map (jN ks w S k))
   have e:S.getD k []=(rT ls).map fun r=>((cT dA ls).getD r.toNat []).getD 0 0:=by
    unfold rT;rw[List.map_map];conv=>lhs;rw[<-dN (S.getD k []) 0,h2 k hk]
    conv=>rhs;arg 2;rw[hls]
    rw[List.map_map];refine List.map_congr_left fun i hi=>?_;have hm:jN ks w S k i∈ls:=by rw[hls];exact List.mem_map.2 ⟨i,hi,rfl⟩
    have:=Vs cZ (gG cZ) ((ja cZ (l:=ls)).2 hm);simp only[Function.comp,rk,Int.toNat_natCast];conv=>rhs;rw[jm (l:=cT dA ls),this]
    rfl
   have:=M6 gL gL (fun r:Int=>((cT dA ls).getD r.toNat []).getD 0 0) (rT ls)
   rw[<-e] at this
   rw[hls] at this
   simp only[List.map_cons,List.sum_cons]
   omega
 exact this _ fun k hk=>by simpa using hk
end Cz
end Go.Proofs.YtibacilhkciihaaGreatDoor
