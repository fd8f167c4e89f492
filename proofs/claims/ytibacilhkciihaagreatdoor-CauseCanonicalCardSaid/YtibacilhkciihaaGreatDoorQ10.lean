/- Part 10 of the walks and plain laws that the proof needs (packed). -/
import Derived.OrdersIn
import Derived.Laws.Bits64b
import Derived.Laws.CopyOwn
import Derived.Test.YtibacilhkciihaaGreatDoorQ1
import Derived.Test.YtibacilhkciihaaGreatDoorQ3
import Derived.Test.YtibacilhkciihaaGreatDoorQ4
import Derived.Test.YtibacilhkciihaaGreatDoorQ7
import Derived.Test.YtibacilhkciihaaGreatDoorQ8
import Derived.Test.YtibacilhkciihaaGreatDoorQ9
set_option linter.all false
set_option maxRecDepth 100000
set_option maxHeartbeats 8000000
namespace Go.Proofs.YtibacilhkciihaaGreatDoor
open Go.RowKit
open Go.Maps (Keyed)
def aaC(v:Value):Option (DataW Nat×List MemPlace):=match v with
 | .map none=>some (.lit (.int .i64 (-1)),[])
 | .map (some b)=>some (.lit (.int .i64 (b:Int)),[])
 |_=>none
theorem Q8{v:Value}{b:Nat}{ps:List MemPlace}(h:aaC v=some (.lit (.int .i64 (b:Int)),ps)):v=.map (some b):=by
 unfold aaC at h;split at h
 ·simp at h
 ·simp at h
  obtain⟨h1, -⟩:=h;have:b=_:=(Int.natCast_inj.1 h1).symm;rw[this]
 ·cases h
theorem MJ:Maps.Keyed Tryz.prog 3:=Maps.int_keyed Tryz.underlying3
theorem Q9:Tryz.prog.underlying 157=some (.map 3 162):=by kernel_rfl
theorem adb(w:World):(zeroValue 162).run Tryz.prog w=.ok (.map none) w:=by kernel_rfl
theorem MK{k:Int}(h:qu k):keyOf Tryz.prog 3 (.int .i64 k)=some (.int .i64 k):=Maps.keyOf_int_mk Tryz.underlying3 h.wf
theorem I6{k:Nat}(h:k<=1000000):qu (k:Int):=⟨aB,aB⟩
def lT(w:World)(b:Nat)(bs:List Nat):Prop:=
 ∃D:DataW Nat,w.ownsMap Tryz.prog 3 aaC b bs.length D/\∀k (h:k<bs.length),D.atKey (.int .i64 (k:Int)) (.lit (.int .i64 (-1)))=.lit (.int .i64 (bs[k]:Int))
theorem lT.made(w:World):lT (w.alloc (.map #[] 0)) w.heap.size []:=⟨.map [],World.ownsMap_made _ _ _ _,fun _ h=>absurd h bp⟩
theorem lT.keep{w w':World}{b:Nat}{bs:List Nat}(h:lT w b bs)(hk:w'.heap[b]?=w.heap[b]?):lT w' b bs:=by
 exact XW
theorem lT.lt{w:World}{b:Nat}{bs:List Nat}(h:lT w b bs):b<w.heap.size:=by
 obtain⟨D,h1, -⟩:=h;exact h1.lt
theorem lT.look{w:World}{b:Nat}{bs:List Nat}(h:lT w b bs){k:Nat}(hk:k<bs.length)(hs:k<=1000000):
  (Instr.lookup 157 (.map (some b)) (.int .i64 (k:Int)) false).run Tryz.prog w=.ok (.map (some bs[k])) w:=by
 obtain⟨D,h1,h2⟩:=h;obtain⟨v,ps,hrun,hv⟩:=h1.lookup MJ Q9 (z:=.map none) (adb w) (zd:=.lit (.int .i64 (-1))) (zp:=[]) rfl (MK (I6 hs));rw[h2 k hk] at hv;rw[Q8 hv] at hrun;exact hrun
theorem lT.store{w:World}{b:Nat}{bs:List Nat}(h:lT w b bs)(hs:bs.length<=1000000)(c:Nat):
  ∃w',(Instr.mapUpdate 157 (.map (some b)) (.int .i64 (bs.length:Int)) (.map (some c))).run Tryz.prog w=.ok () w'/\lT w' b (bs++[c])/\Turns (·=b) w w':=by
 obtain⟨D,h1,h2⟩:=h;have rQ:bs.length<maxLen:=Za
 obtain⟨w',hrun,how,hg⟩:=h1.update MJ Q9 rQ (MK (I6 hs)) (val:=.map (some c)) (d:=.lit (.int .i64 (c:Int))) (ps:=[]) rfl;refine⟨w',hrun,⟨_,by rw[xP];exact how,fun k hk=>?_⟩,Turns.fI hg (fun b' e=>by cases e;rfl)⟩;by_cases e:k=bs.length
 ·subst e
  rw[Maps.atKey_put_same h1.isMap (MJ.key (MK (I6 hs)))];simp
 ·have hk':k<bs.length:=by rw[xP] at hk;simp at hk;omega
  rw[Maps.atKey_put_other lC,h2 k hk',TN hk']
def kU(W:ah.eE)(s:Sub.S)(r:bV.Ref)(n:Nat)(a c:Int):Int:=if a=r.up then (bV.pX W s r c n:Nat) else 0
def je(W:ah.eE)(s:Sub.S)(r:bV.Ref):Int->Int->Int:=kU W s r (W.getD r.kind []).length
theorem ML(W:ah.eE)(s:Sub.S)(r:bV.Ref):kU W s r 0=fun _ _=>0:=by
 funext a c;unfold kU bV.pX;simp
theorem oB(W:ah.eE)(s:Sub.S)(r:bV.Ref)(i:Int)(n:Nat):bV.pX W s r i (n+1)=bV.pX W s r i n+if (Sub.keeps s r.kind n&&decide (bV.rR W r.kind n r.field=i))=true then 1 else 0:=by
 unfold bV.pX;rw[List.range_succ,List.filter_append,xP];congr 1;rw[List.filter_cons];split<;>simp
theorem KX{p:Prop}(h:p:=by
  exact Nat.le_trans (List.length_filter_le _ _) bp):p:=h
theorem Ra(W:ah.eE)(s:Sub.S)(r:bV.Ref)(i:Int)(n:Nat):bV.pX W s r i n<=n:=by
 unfold bV.pX;exact KX
theorem Va{W:ah.eE}{s:Sub.S}{r:bV.Ref}{n:Nat}(h:Sub.keeps s r.kind n=false):kU W s r (n+1)=kU W s r n:=by
 funext a c;unfold kU;rw[oB,h];simp
theorem Rb{W:ah.eE}{s:Sub.S}{r:bV.Ref}{n:Nat}(h:Sub.keeps s r.kind n=true):kU W s r (n+1)=Bd (kU W s r n) r.up (bV.rR W r.kind n r.field) (kU W s r n r.up (bV.rR W r.kind n r.field)+1):=by
 funext a c;unfold Bd kU;rw[oB,h];by_cases ha:a=r.up
 ·subst ha
  by_cases hc:c=bV.rR W r.kind n r.field
  ·subst hc
   simp
  ·have h2:¬bV.rR W r.kind n r.field=c:=fun h=>hc h.symm
   simp[h2,hc]
 ·rw[if_neg ha,if_neg (fun h=>ha h.1),if_neg ha]
theorem yZ(W:ah.eE)(s:Sub.S)(r:bV.Ref)(n:Nat)(a c:Int):0<=kU W s r n a c/\kU W s r n a c<=n:=by
 unfold kU;have:=Ra W s r c n;split<;>omega
structure StV(B0 B1 B2 n:Nat)(rs:List bV.Ref)(W:ah.eE)(s:Sub.S)(w:World):Prop where
 MN:B0<=B1
 b12:B1<=B2
 box:∃ar cr aw cw gs,w.heap[B2+1]?=some (.cells #[.slice ar rs.length cr,.slice aw W.length cw,.slice (some ⟨gs,0,none⟩) s.length s.length,.map (some B2)] 159 (0,0))/\
  Cb (fun b=>B0<=b/\b<B1) w (.slice ar rs.length cr) rs/\bN (·<B0) w (.slice aw W.length cw) W/\kJ (fun b=>B1<=b/\b<B2) w (.slice (some ⟨gs,0,none⟩) s.length s.length) s
 maps:∃bs:List Nat,lT w B2 bs/\bs.length=rs.length/\bs.Nodup/\(∀b∈bs,B2+2<=b)/\∀k (h:k<bs.length) (h2:k<rs.length),eA w bs[k] n (je W s rs[k])
end Go.Proofs.YtibacilhkciihaaGreatDoor
namespace Go.Proofs.YtibacilhkciihaaGreatDoor.bV
open ah (eE cA)
def ade(s:Sub.S)(k n:Nat):List Nat:=(List.range n).filter (Sub.keeps s k)
def oldI(s:Sub.S)(k n a:Nat):Nat:=(ade s k n).getD a 0
def tab(K:Nat)(n m:Nat->Nat)(f:Nat->Nat->Nat->Int):eE:=(List.range K).map fun k=>(List.range (n k)).map fun i=>(List.range (m k)).map fun j=>f k i j
def vZ(W:eE)(k:Nat):Nat:=(W.getD k []).length
def cell0(W:eE)(s:Sub.S)(k a j:Nat):Int:=rR W k (oldI s k (vZ W k) a) j
end Go.Proofs.YtibacilhkciihaaGreatDoor.bV
namespace Go.Proofs.YtibacilhkciihaaGreatDoor.bV
open ah (eE cA)
theorem FC{f g:Nat->Nat}:∀{l:List Nat},(∀k∈l,f k<=g k)->(l.map f).sum<=(l.map g).sum
 |[],_=>aH
 |a::l,h=>by
  have h1:=h a bp;have h2:=FC (l:=l) (fun k hk=>h k (by simp[hk]));simp only[List.map_cons,List.sum_cons];omega
theorem FD(W:eE):ah.total W=((List.range W.length).map (vZ W)).sum:=by
 unfold ah.total;congr 1;refine List.ext_getElem bp fun k h1 h2=>?_;rw[Bp] at h1;rw[List.getElem_map,List.getElem_map,List.getElem_range];unfold vZ;rw[Sub.aQ h1]
end Go.Proofs.YtibacilhkciihaaGreatDoor.bV
namespace Go.Proofs.YtibacilhkciihaaGreatDoor.bV
open ah (eE cA)
theorem rJ(W:eE)(k:Nat):(shape W).getD k 0=vZ W k:=by
 unfold shape vZ;rw[jm,List.getElem?_map,jm];cases W[k]?<;>rfl
theorem uH(W:eE):(shape W).length=W.length:=by simp[shape]
theorem aaD{W:eE}{s:Sub.S}(h:Sub.Fit (shape W) s){k i:Nat}(hk:Sub.keeps s k i=true):k<W.length/\i<vZ W k:=by
 have h1:=Sub.yA hk;rw[h.1,uH] at h1;rw[h.2,rJ] at h1;exact h1
theorem KY{W:eE}{s:Sub.S}(h:Sub.Fit (shape W) s):s.map List.length=shape W:=by
 have:=of_decide_eq_true (H9 h);exact this.symm
end Go.Proofs.YtibacilhkciihaaGreatDoor.bV
namespace Go.Proofs.YtibacilhkciihaaGreatDoor.bV
open ah (eE cA)
abbrev wr(x:cA)(W:eE):Sub.S->Nat->Nat->Bool:=wrong (iN x) W
end Go.Proofs.YtibacilhkciihaaGreatDoor.bV
namespace Go.Proofs.YtibacilhkciihaaGreatDoor
open Go.RowKit
theorem gZ.inner{α:Type}{RR:(Nat->Prop)->World->Value->α->Prop}(hR:eY RR){e:TypeId}{S:Nat->Prop}{w:World}{v:Value}{xs:List α}(h:gZ RR e S w v xs){j:Nat}(hj:j<xs.length):
  ∃(u:Value) (Sj:Nat->Prop) (g cap:Nat),v=.slice (some ⟨g,0,none⟩) xs.length cap/\w.cell? ⟨g,j,none⟩=some u/\RR Sj w u xs[j]/\(∀b,Sj b->S b)/\¬Sj g/\S g/\
   ∀w' x',RR Sj w' u x'->aD (fun b=>S b/\¬Sj b) w w'->gZ RR e S w' v (xs.set j x'):=by
 obtain⟨h1,us,Z,h2,h3,h4⟩:=h;have h2':=h2;obtain⟨q1,q2⟩:=h2';simp only[Nat.mul_one] at q1;rcases q2 with⟨rfl,h0⟩|⟨g,cap,cur,rfl,hb,hg,hn,hc,hs,ht⟩
 ·omega
 simp only[Nat.mul_one] at hs ht;have hju:j<us.length:=aB
 refine⟨us[j],fun b=>S b/\some b≠(Value.slice (some ⟨g,0,none⟩) xs.length cap).ownBlock/\Z b=j,g,cap,rfl,?_,h4 j hju hj,fun b hb=>hb.1,fun hb=>hb.2.1 rfl,h1 g rfl,fun w' x' hx hk=>⟨h1,us,Z,?_,by simpa using h3,fun j' g1 g2=>?_⟩⟩
 ·rw[cell_of_row w g j cur e (0,0) hg]
  have h3':us[j]?=some us[j]:=lE hju;rw[<-h3',<-ht,List.getElem?_take,if_pos aB];simp
 ·have:=cQ (S:=fun b=>S b/\some b=(Value.slice (some ⟨g,0,none⟩) xs.length cap).ownBlock) h2 (fun b hb=>⟨h1 b hb,hb.symm⟩) (fun b hb hlt=>hk b ⟨hb.1,fun h=>h.2.1 hb.2⟩ hlt)
  simpa using this
 ·by_cases e':j'=j
  ·subst e'
   simp only[List.getElem_set_self];exact hx
  ·rw[List.getElem_set_ne (fun h=>e' h.symm)]
   refine hR.keep (h4 j' g1 Ox) (fun b hb hlt=>hk b ⟨hb.1,fun h=>e' (hb.2.2.symm.trans h.2.2)⟩ hlt)
section
variable {P:Program} {ops:Array Oper} {md:Region.Mode} {lp n:Nat}
theorem gN{f:FuncId}{args:Array Value}{w:World}{R:Ending->World->Prop}:CallsIn (Fence.wide.inRound lp) n P f args w R↔Calls P f args w R:=callsIn_wide (n:=n)
def qv:Op->Bool
 | .defer .. =>false
 |_=>true
theorem adf{o:Oper}{a:Act}{w:World}{K K2:Act->World->Prop}{Q2:Exit->Act->World->Prop}(hd:qv o.op=true)(h:o.wp P a w K (QN K2)):o.wpIn (Fence.wide.inRound lp) n P a w K Q2:=by
 have hs:Oper.semAt (Fence.wide.inRound lp).round a.eval o=execOp a.eval o:=Oper.semAt_eq _ _ _ (fun c e=>by rw[e] at hd;simp[qv] at hd);unfold Oper.wpIn;refine⟨fun _ _=>trivial,?_⟩;rw[hs];unfold Oper.wp at h;generalize (execOp a.eval o).run P w=r at*;cases r with
 |ok x w'=>
  cases x with
  |value v=>exact h
  |skip=>exact h
  |defer d=>exact h
  |enter f args=>
   refine⟨fun h=>by simp[Fence.wide] at h,gN.2 (Calls.mono h ?_)⟩
   intro e w'' he
   cases e with
   |returned v=>exact he
   |panicked c=>exact he.elim
   |outgrown=>exact absurd he ig
  |row row args=>
   refine⟨fun h=>by simp[Fence.wide] at h,fun c cs _=>?_⟩
   obtain⟨v,w2,h1,h2⟩:=h c cs
   exact⟨v,w2,h1,stepsIn_wide.2 h2⟩
  |_=>exact h.elim
 |halt x w'=>
  cases x<;>first|exact h.elim|exact(show False from h).elim
theorem aaE{i:Nat}{a:Act}{w:World}{K K' K2:Act->World->Prop}{Q2:Exit->Act->World->Prop}(hd:∀o,ops[i]?=some o->qv o.op=true)(hK:∀a w,K a w->K' a w)(h:wpOp P ops (QN K2) i K a w):wpOpIn (Fence.wide.inRound lp) n P ops Q2 i K' a w:=by
 refine wpOpIn_mono hK ?_;unfold wpOp at h;unfold wpOpIn;split
 ·rename_i ho;simp only[ho] at h;exact h
 ·rename_i o ho
  simp only[ho] at h;split
  ·rename_i hw
   rw[if_pos hw] at h;rcases h with h|⟨_,h⟩
   ·exact adf (hd o ho) h
   ·exact absurd h ig
  ·rename_i hw
   rw[if_neg hw] at h;exact⟨fun _ _=>trivial,h⟩
theorem Rc{K2:Act->World->Prop}{Q2:Exit->Act->World->Prop}(hd:∀(i:Nat) (o:Oper),ops[i]?=some o->qv o.op=true)(hK:∀a w,K2 a w->Q2 .normal a w):∀(f:Nat) (listed:Array Bool) (a:Act) (w:World),
  wpAny P md ops (QN K2) f listed a w->wpAnyIn (Fence.wide.inRound lp) n P md ops Q2 f listed a w
 |0,_,_,_,h=>⟨h.1,hK _ _ h.2⟩
 |f+1,_listed,_a,_w,h=>⟨fun h0=>hK _ _ (h.1 h0),fun i hi=>aaE (hd i) (fun a w h=>Rc hd hK f _ a w h) (h.2 i hi)⟩
def Region.I7(ops:Array Oper):Bool:=ops.all fun o=>qv o.op
theorem Region.I8{ops:Array Oper}(h:Region.I7 ops=true):∀(i:Nat) (o:Oper),ops[i]?=some o->qv o.op=true:=by
 intro i o ho;unfold Region.I7 at h;obtain⟨hlt,e⟩:=Array.getElem?_eq_some_iff.1 ho;rw[<-e];exact Array.all_eq_true.1 h i hlt
end
end Go.Proofs.YtibacilhkciihaaGreatDoor
namespace Go.Proofs.YtibacilhkciihaaGreatDoor
open Go.RowKit
def Marks(n0 nB:Nat)(ds:List Deferred)(w:World):Prop:=
 ∃Ds:List Nat,ds=Ds.map (fun D=>{target:=.collected D,args:=#[]})/\Ds.Nodup/\∀D∈Ds,n0<=D/\D<nB/\w.heap[D]?=some (.deferred (some []))
theorem Marks.nil(n0 nB:Nat)(w:World):Marks n0 nB [] w:=⟨[],rfl,List.nodup_nil,fun D h=>absurd h bp⟩
theorem Marks.mono{n0 nB nB':Nat}{ds:List Deferred}{w:World}(h:Marks n0 nB ds w)(hn:nB<=nB'):Marks n0 nB' ds w:=by
 obtain⟨Ds,h1,h2,h3⟩:=h;exact⟨Ds,h1,h2,fun D hD=>⟨(h3 D hD).1,lg (h3 D hD).2.1 hn,(h3 D hD).2.2⟩⟩
theorem XY{p:Prop}(h:p:=by
  obtain⟨Ds,h1,h2,h3⟩:=h
  exact⟨Ds,h1,h2,fun D hD=>⟨(h3 D hD).1,(h3 D hD).2.1,ht.2 _ _ (h3 D hD).2.2 (fun ha=>hA _ _ (h3 D hD).2.1 ha trivial)⟩⟩):p:=h
theorem Marks.turn{A:Nat->Obj->Prop}{n0 n1 nB:Nat}{ds:List Deferred}{w w':World}(h:Marks n0 nB ds w)(ht:aM A n1 w w')(hA:∀b o,b<nB->A b o->¬book o):Marks n0 nB ds w':=by
 exact XY
theorem Marks.push{n0 nB:Nat}{ds:List Deferred}{w:World}(h:Marks n0 nB ds w){D:Nat}(hD:nB<=D)(hn:n0<=D)(hk:w.heap[D]?=some (.deferred (some []))):
  Marks n0 w.heap.size ({target:=.collected D,args:=#[]}::ds) w:=by
 obtain⟨Ds,h1,h2,h3⟩:=h;have hlt:=(Array.getElem?_eq_some_iff.1 hk).1;refine⟨D::Ds,by rw[h1];rfl,List.nodup_cons.2 ⟨fun hm=>?_,h2⟩,fun E hE=>?_⟩
 ·have:=(h3 D hm).2.1
  omega
 ·rcases kD.1 hE with rfl|hE
  ·exact⟨hn,hlt,hk⟩
  ·exact⟨(h3 E hE).1,by have:=(h3 E hE).2.1;omega,(h3 E hE).2.2⟩
theorem jU{P:Program}{n n0:Nat}{fn:Func}{tmps:Array Value}{R:Ending->World->Prop}{v:Value}:∀(Ds:List Nat) (w:World),Ds.Nodup->(∀D∈Ds,n0<=D/\w.heap[D]?=some (.deferred (some [])))->
  (∀w',aM (bF n0) n0 w w'->(results fn tmps).run P w'=.ok v w'/\R (.returned v) w')->LeavesInM Fence.wide n P fn tmps R (Ds.map (fun D=>{target:=.collected D,args:=#[]})) .returning w
 |[],w,_,_,h=>⟨_,(h w (aM.refl _ _ _)).1,(h w (aM.refl _ _ _)).2⟩
 |D::Ds,w,hn,hD,h=>by
  obtain⟨hnd,hns⟩:=List.nodup_cons.1 hn;have hk:=(hD D List.mem_cons_self);have ht:aM (bF n0) n0 w (w.putObj D (.deferred none)):=aM.putObj _ hk.2 ⟨hk.1,trivial⟩ hk.1;refine⟨bp,.inl ⟨D,_,rfl,run_takeDeferred hk.2,?_⟩⟩;refine jU Ds _ hns (fun E hE=>⟨(hD E (List.mem_cons_of_mem _ hE)).1,?_⟩) (fun w' h'=>h w' (ht.trans h'));have hne:E≠D:=fun e=>hnd (e▸hE);exact(World.putObj_heap_other hne).trans (hD E (List.mem_cons_of_mem _ hE)).2
theorem XZ{p:Prop}(h:p:=by
  obtain⟨Ds,rfl,hnd,hD⟩:=hm
  exact jU Ds w hnd (fun D h=>⟨(hD D h).1,(hD D h).2.2⟩) h):p:=h
theorem kV{P:Program}{n n0:Nat}{fn:Func}{tmps:Array Value}{ds:List Deferred}{w:World}{R:Ending->World->Prop}{v:Value}{nB:Nat}(hm:Marks n0 nB ds w)
  (h:∀w',aM (bF n0) n0 w w'->(results fn tmps).run P w'=.ok v w'/\R (.returned v) w'):bodyPostM Fence.wide n P fn R .ret {tmps,defers:=ds} w:=by
 exact XZ
def qO{α:Type}(P:Program)(n0 nB gf:Nat)(lb:Array Value)(encs:α->Array Value)(G:List α->α->World->Prop)(bA iA:Nat->Obj->Prop)(S:List α->World->Prop)(w:World):Prop:=
 ∀(l:Nat) (J Jx:List α->World->Prop) (W:World),BL w W->
  (∀pre A B,J pre A->aM iA n0 A B->J pre B)->(∀pre A B,Jx pre A->aM iA n0 A B->Jx pre B)->
  (∀pre x W1,J pre W1->G pre x W1->YieldAt Fence.wide 0 P l (encs x) W1 fun e W'=>
   aM (fun b o=>bA b o\/bF nB b o) n0 W1 W'/\((e=.returned (.bool true)/\J (pre++[x]) W')\/(e=.returned (.bool false)/\Jx (pre++[x]) W')))->
  J [] W->Calls P gf (#[.func (.yield l) #[] #[]]++lb) W fun e W'=>(∃v,e=.returned v)/\((∃xs,S xs W'/\J xs W')\/∃xs,Jx xs W')
def QS{α:Type}(bA:Nat->Obj->Prop)(n0:Nat)(I Ix:List α->World->Prop)(xs:List α)(W:World):Exit->Act->World->Prop
 | .normal,_,W3=>aM bA n0 W W3/\I xs W3
 | .ret,_,W3=>aM bA n0 W W3/\Ix xs W3
 |_,_,_=>False
abbrev jw(fn:FuncId)(tmps:Array Value)(ps:Array Tmp)(assign body:Code)(MO:Nat)(st:LoopState)(pe:Option Code):Loop:=
 {state:=st,pending:=pe,fn,tmps,params:=ps,assign,body,defers:=MO}
theorem X0{p:Prop}(h:p:=by
  obtain⟨rec,hrec⟩:∃rec:LoopState->Option Code->Loop,rec=jw fn tmps ps assign body MO:=⟨_,rfl⟩
  rw[<-hrec] at hL1
  have KZ:∀{A:Nat->Obj->Prop} {X Y:World} {st:LoopState} {pe:Option Code},(∀b o,A b o->¬book o)->aM A n0 X Y->X.heap[l]?=some (.loop (rec st pe))->Y.heap[l]?=some (.loop (rec st pe)):=
   fun hA ht hl=>ht.2 _ _ hl (fun h=>hA _ _ h trivial)
  have I9:∀{X:World} {o:Obj} (o':Obj),X.heap[l]?=some o->book o->aM (bF nB) n0 X (X.putObj l o'):=fun o' h hb=>aM.putObj _ h ⟨hlB,hb⟩ aB
  refine(hseq l (fun pre W=>I pre W/\W.heap[l]?=some (.loop (rec .ready none))/\E W) (fun pre W=>Ix pre W/\W.heap[l]?=some (.loop (rec .done (some .ret)))/\E W) W1 hb1
   (fun pre A B hj ht=>⟨hI _ _ _ hj.1 (ht.mono fun b o h=>.inl h),KZ X5 ht hj.2.1,hE _ _ _ X5 ht hj.2.2⟩) (fun pre A B hj ht=>⟨hIx _ _ _ hj.1 (ht.mono fun b o h=>.inl h),KZ X5 ht hj.2.1,hE _ _ _ X5 ht hj.2.2⟩) ?_ ⟨h0,hL1,hE0⟩).mono ?_
  ·rintro pre x W ⟨hi,hl,hE1⟩ hG
   have hy:=run_yield (P:=P) (args:=encs x) hl (by rw[hrec];exact hps x);rw[hrec] at hy;refine⟨fn,_,assign,body,hy,roundIn_of_wpIn trivial (wpIn_mono (fO pre x W (by rw[hl,hrec]) hi hG) ?_)⟩;rintro e a1 W2 hp;cases e with
   |normal=>
    obtain⟨ht1,hbody⟩:=hp
    have hl2:=KZ D7 ht1 hl
    have Qm:=hE _ _ _ D7 ht1 hE1
    have hlt2:l<W2.heap.size:=(Array.getElem?_eq_some_iff.1 hl2).1
    have hput:aM (bF nB) n0 W2 (W2.putObj l (.loop (rec .busy none))):=I9 _ hl2 trivial
    have hbr:(Instr.beginRound l).run P W2=.ok () (W2.putObj l (.loop (rec .busy none))):=by
     have:=run_beginRound (P:=P) hl2 J4;rw[hrec] at this ⊢;exact this
    have hl3:(W2.putObj l (.loop (rec .busy none))).heap[l]?=some (.loop (rec .busy none)):=World.putObj_heap_same hlt2
    refine⟨_,hbr,wpIn_mono (hbody _ hput bp ⟨_,hl3⟩) ?_⟩
    rintro e a3 W3 hq
    have fin:∀(I':List α->World->Prop) (hI':∀pre A B,I' pre A->aM (fun b o=>iA b o\/bF nB b o) n0 A B->I' pre B) (jp:Option Code),aM bA n0 (W2.putObj l (.loop (rec .busy none))) W3/\I' (pre++[x]) W3->
      (Instr.endRound l jp).run P W3=.ok (.bool jp.isNone) (W3.putObj l (.loop (rec (if jp.isNone then .ready else .done) jp)))/\
      I' (pre++[x]) (W3.putObj l (.loop (rec (if jp.isNone then .ready else .done) jp)))/\
      (W3.putObj l (.loop (rec (if jp.isNone then .ready else .done) jp))).heap[l]?=some (.loop (rec (if jp.isNone then .ready else .done) jp))/\
      E (W3.putObj l (.loop (rec (if jp.isNone then .ready else .done) jp)))/\
      aM (fun b o=>bA b o\/bF nB b o) n0 W (W3.putObj l (.loop (rec (if jp.isNone then .ready else .done) jp))):=by
     rintro I' hI' jp ⟨ht3,hi3⟩;have hl4:=KZ D7 ht3 hl3;have PZ:l<W3.heap.size:=(Array.getElem?_eq_some_iff.1 hl4).1
     have hend:(Instr.endRound l jp).run P W3=.ok (.bool jp.isNone) (W3.putObj l (.loop (rec (if jp.isNone then .ready else .done) jp))):=by
      have:=run_endRound (P:=P) jp hl4;rw[hrec] at this ⊢;exact this
     have FE:aM (bF nB) n0 W3 (W3.putObj l (.loop (rec (if jp.isNone then .ready else .done) jp))):=I9 _ hl4 trivial
     exact⟨hend,hI' _ _ _ hi3 (FE.mono fun b o h=>.inr h),World.putObj_heap_same PZ,hEl _ _ (hE _ _ _ D7 ht3 (hEl _ _ Qm)),
      (((ht1.mono fun b o h=>.inl h).trans (hput.mono fun b o h=>.inr h)).trans (ht3.mono fun b o h=>.inl h)).trans (FE.mono fun b o h=>.inr h)⟩
    cases e with
    |normal=>
     obtain⟨h1,h2,h3,h4,h5⟩:=fin I hI none hq
     exact⟨_,_,h1,h5,.inl ⟨rfl,h2,h3,h4⟩⟩
    |ret=>
     obtain⟨h1,h2,h3,h4,h5⟩:=fin Ix hIx (some .ret) hq
     exact⟨_,_,h1,h5,.inr ⟨rfl,h2,h3,h4⟩⟩
    |_=>exact hq.elim
   |_=>exact hp.elim
  ·rintro e W2 ⟨hv,h⟩
   refine⟨hv,?_⟩;rcases h with⟨xs,Oc,hi,hl,Qm⟩|⟨xs,hi,hl,Qm⟩
   ·have hend:=run_endLoop (P:=P) hl OA
    have hput:∀o',aM (bF nB) n0 W2 (W2.putObj l o'):=fun o'=>I9 o' hl trivial;exact⟨_,_,hend,hEl _ _ Qm,.inl ⟨J4,xs,hS _ _ _ Oc (hput _),hI _ _ _ hi ((hput _).mono fun b o h=>.inr h)⟩⟩
   ·have hend:=run_endLoop (P:=P) hl OA
    have hput:∀o',aM (bF nB) n0 W2 (W2.putObj l o'):=fun o'=>I9 o' hl trivial;exact⟨_,_,hend,hEl _ _ Qm,.inr ⟨J4,xs,hIx _ _ _ hi ((hput _).mono fun b o h=>.inr h)⟩⟩):p:=h
theorem za{P:Program}{α:Type}{n0 nB:Nat}{ps:Array Tmp}{assign body:Code}{fn:FuncId}{tmps:Array Value}{MO l gf:Nat}{lb:Array Value}{w W1:World}
  {encs:α->Array Value}(hps:∀x,(encs x).size=ps.size){G:List α->α->World->Prop}{bA iA:Nat->Obj->Prop}{S:List α->World->Prop}(hseq:qO P n0 nB gf lb encs G bA iA S w)
  (hb1:BL w W1)(hL1:W1.heap[l]?=some (.loop (jw fn tmps ps assign body MO .ready none)))(hlB:nB<=l)(hn:n0<=nB)(X5:∀b o,iA b o->¬book o)(D7:∀b o,bA b o->¬book o)
  (I Ix:List α->World->Prop)(hI:∀pre A B,I pre A->aM (fun b o=>iA b o\/bF nB b o) n0 A B->I pre B)(hIx:∀pre A B,Ix pre A->aM (fun b o=>iA b o\/bF nB b o) n0 A B->Ix pre B)
  (hS:∀xs A B,S xs A->aM (bF nB) n0 A B->S xs B)
  (E:World->Prop)(hE:∀(A:Nat->Obj->Prop) X Y,(∀b o,A b o->¬book o)->aM A n0 X Y->E X->E Y)(hEl:∀X o,E X->E (X.putObj l o))(h0:I [] W1)(hE0:E W1)
  (fO:∀pre x W,W.heap[l]?=some (.loop (jw fn tmps ps assign body MO .ready none))->I pre W->G pre x W->assign.wpIn (Fence.wide.inRound l) 0 P (Exit.then (fun a₁ W1=>aM bA n0 W W1/\∀W2,aM (bF nB) n0 W1 W2->W2.heap.size=W1.heap.size->(∃r,W2.heap[l]?=some (.loop r))->
    body.wpIn (Fence.wide.inRound l) 0 P (QS bA n0 I Ix (pre++[x]) W2) a₁ W2) (fun _ _ _=>False))
   {tmps:=(ps.zip (encs x)).foldl (fun t (p,v)=>t.setIfInBounds p v) tmps,defers:=[]} W):
  Calls P gf (#[.func (.yield l) #[] #[]]++lb) W1 fun e W2=>(∃v,e=.returned v)/\∃jump W4,(Instr.endLoop l).run P W2=.ok jump W4/\E W4/\
   ((jump=none/\∃xs,S xs W4/\I xs W4)\/(jump=some .ret/\∃xs,Ix xs W4)):=by
 exact X0
theorem Ya{p:Prop}(h:p:=by
  have hI1:I [] W1:=hI _ _ _ h0 abG
  refine⟨w.heap.size+1,[{target:=.collected w.heap.size,args:=#[]}],W1,{target:=.fn (.func gf) lb,args:=#[.func (.yield (w.heap.size+1)) #[] #[]]},W1,gf,
   #[.func (.yield (w.heap.size+1)) #[] #[]]++lb,W1,?_,?_,fun _ _=>trivial,?_,fun h=>by simp[Fence.wide] at h,?_⟩
  ·rw[<-hW1];exact run_enterLoop_outer _ _ _ _ _
  ·simp only[resolve,hg]
   simp[go_sem]
  ·simp[invoke,go_sem,eg]
  ·rw[callsIn_wide]
   refine(za (l:=w.heap.size+1) hps hseq hb1 hL1 aB hn0 X5 D7 I Ix hI hIx hS (fun W=>W.heap[w.heap.size]?=some (.deferred (some []))) (fun A X Y hA ht h=>ht.2 _ _ h (fun h=>hA _ _ h trivial))
    (fun X o h=>(World.putObj_heap_other aB).trans h) hI1 hK1 (fun pre x W hl=>fO (w.heap.size+1) pre x W ⟨_,hl⟩)).mono ?_
   rintro e W2 ⟨⟨v,rfl⟩,jump,W4,hend,hE,h⟩;refine⟨jump,W4,hend,?_⟩;rcases h with⟨rfl,xs,h1,h2⟩|⟨rfl,xs,h1⟩
   ·exact hdone _ xs _ aH h1 h2 hE
   ·exact wpIn_ret (hstop _ xs _ aH h1 hE)):p:=h
theorem Yb{p:Prop}(h:p:=by
  rw[<-hW1]
  have:=TQ (w.alloc (.deferred (some []))) (.loop (jw fn a.tmps ps assign body w.heap.size .ready none))
  rwa [World.size_alloc] at this):p:=h
theorem mB{P:Program}{α:Type}{n n0:Nat}{g:Operand}{ps:Array Tmp}{assign body:Code}{Q:Exit->Act->World->Prop}{a:Act}{w:World}
  {gf:Nat}{lb:Array Value}(hg:a.eval g=.func (.func gf) #[] lb)(eg:∀args w,(callFunc gf args).run P w=.ok (.enter gf args) w)
  {encs:α->Array Value}(hps:∀x,(encs x).size=ps.size){G:List α->α->World->Prop}{bA iA:Nat->Obj->Prop}{S:List α->World->Prop}(hseq:qO P n0 w.heap.size gf lb encs G bA iA S w)
  (hn0:n0<=w.heap.size)(X5:∀b o,iA b o->¬book o)(D7:∀b o,bA b o->¬book o)
  (I Ix:List α->World->Prop)(hI:∀pre A B,I pre A->aM (fun b o=>iA b o\/bF w.heap.size b o) n0 A B->I pre B)(hIx:∀pre A B,Ix pre A->aM (fun b o=>iA b o\/bF w.heap.size b o) n0 A B->Ix pre B)
  (hS:∀xs A B,S xs A->aM (bF w.heap.size) n0 A B->S xs B)(h0:I [] w)
  (fO:∀l pre x W,(∃r,W.heap[l]?=some (.loop r))->I pre W->G pre x W->assign.wpIn (Fence.wide.inRound l) 0 P (Exit.then (fun a₁ W1=>aM bA n0 W W1/\∀W2,aM (bF w.heap.size) n0 W1 W2->W2.heap.size=W1.heap.size->(∃r,W2.heap[l]?=some (.loop r))->
    body.wpIn (Fence.wide.inRound l) 0 P (QS bA n0 I Ix (pre++[x]) W2) a₁ W2) (fun _ _ _=>False))
   {tmps:=(ps.zip (encs x)).foldl (fun t (p,v)=>t.setIfInBounds p v) a.tmps,defers:=[]} W)
  (hdone:∀D xs W,w.heap.size<=D->S xs W->I xs W->W.heap[D]?=some (.deferred (some []))->Q .normal {a with defers:={target:=.collected D,args:=#[]}::a.defers} W)
  (hstop:∀D xs W,w.heap.size<=D->Ix xs W->W.heap[D]?=some (.deferred (some []))->Q .ret {a with defers:={target:=.collected D,args:=#[]}::a.defers} W):
  (Code.rangeFunc g ps assign body).wpIn Fence.wide n P Q a w:=by
 refine wpIn_rangeFunc ?_;intro fn hfn;obtain⟨W1,hW1⟩:∃W1,(w.alloc (.deferred (some []))).alloc (.loop (jw fn a.tmps ps assign body w.heap.size .ready none))=W1:=⟨_,rfl⟩
 have hL1:W1.heap[w.heap.size+1]?=some (.loop (jw fn a.tmps ps assign body w.heap.size .ready none)):=by
  exact Yb
 have hK1:W1.heap[w.heap.size]?=some (.deferred (some [])):=by
  rw[<-hW1];exact(Below.heap_alloc _ _ _ bp).trans (TQ w _)
 have hb1:BL w W1:=OC
 exact Ya
theorem eU.qt{α:Type}{R:World->Value->α->Prop}{S:Nat->Prop}{w:World}{a:Option Addr}{n cap:Nat}{xs:List α}(h:eU R S w (.slice a n cap) xs){j:Nat}(hj:j<xs.length):
  ∃u,R w u xs[j]/\∀X,aD S w X->X.cell? ⟨bL a,bP a+j,none⟩=some u:=by
 obtain⟨a',cap',hv,h1,h2,h3,h4,h5⟩:=h;cases hv;obtain⟨u,hu,hr⟩:=h5 j hj;refine⟨u,hr,fun X hX=>?_⟩;have hlt:bL a<w.heap.size:=Ae w ⟨bL a,bP a+j,none⟩ hu;have:=hX (bL a) (h4 aB) hlt;unfold World.cell? at hu ⊢;simp only at hu ⊢;rw[this];exact hu
namespace Sub
def jG(s:S)(k:Nat):List (Nat×Nat):=(List.range k).flatMap fun j=>A4 j (s.getD j [])
def nN(k:Nat)(l:List Bool)(i:Nat):List (Nat×Nat):=(List.range i).filterMap fun a=>if l.getD a false then some (k,a) else none
theorem zb(s:S):jG s 0=[]:=rfl
theorem lU(s:S)(k:Nat):jG s (k+1)=jG s k++A4 k (s.getD k []):=by simp[jG,List.range_succ]
theorem Ce(s:S):jG s s.length=kept s:=rfl
theorem ze(k:Nat)(l:List Bool):nN k l 0=[]:=rfl
theorem oC(k:Nat)(l:List Bool)(i:Nat):nN k l (i+1)=nN k l i++if l.getD i false=true then [(k,i)] else []:=by
 unfold nN;rw[List.range_succ,List.filterMap_append];congr 1;rw[List.filterMap_cons,List.filterMap_nil];cases l.getD i false<;>rfl
theorem qw(k:Nat)(l:List Bool):nN k l l.length=A4 k l:=rfl
theorem Cf(k:Nat)(l:List Bool){i:Nat}:∀{n:Nat},i<=n->nN k l i<+:nN k l n
 |0,h=>by
  obtain rfl:i=0:=aB
  exact List.prefix_refl _
 |n+1,h=>by
  by_cases e:i=n+1
  ·rw[e];exact List.prefix_refl _
  ·rw[oC]
   exact(Cf k l aB).trans (List.prefix_append _ _)
theorem Cg(s:S){i:Nat}:∀{n:Nat},i<=n->jG s i<+:jG s n
 |0,h=>by
  obtain rfl:i=0:=aB
  exact List.prefix_refl _
 |n+1,h=>by
  by_cases e:i=n+1
  ·rw[e];exact List.prefix_refl _
  ·rw[lU]
   exact(Cg s aB).trans (List.prefix_append _ _)
theorem FH{s:S}{k i:Nat}(hk:k<s.length)(hi:i<=(s.getD k []).length):jG s k++nN k (s.getD k []) i<+:kept s:=by
 have h1:jG s (k+1)<+:kept s:=Cg s aB;rw[lU] at h1;refine List.IsPrefix.trans ?_ h1;rw[<-qw];exact(List.prefix_append_right_inj _).2 (Cf k _ hi)
end Sub
theorem Rf{p:Prop}(h:p:=by
  gi_wp2
  refine bodyPost_ret (results_none rfl _ _ _) rfl ?_
  exact⟨⟨_,rfl⟩,.inr ⟨_,H2.out⟩⟩):p:=h
theorem Yc{p:Prop}(h:p:=by
  obtain rfl:s.length=k:=by omega
  have H2:=hid HR.out.2
  gi_wp2
  go_end0
  exact⟨⟨_,rfl⟩,.inl ⟨_,rfl,by rw[<-Sub.Ce];exact H2.out⟩⟩):p:=h
theorem Ch(s:Sub.S)(n0 nB b l:Nat)(v:Value)(S:Nat->Prop)(W0:World)(bA:Nat->Obj->Prop)(Kp:World->Prop)(hKp:∀X Y,Kp X->aM (fun b o=>bA b o\/bF nB b o) n0 X Y->Kp Y)
  (hK1:∀X,Kp X->X.heap[b]?=some (.cells #[v] 40 (0,0)))(hK2:∀X,Kp X->aD S W0 X)(hs:kI S W0 v s)
  (J Jx:List (Nat×Nat)->World->Prop)(hJ:∀pre X Y,J pre X->aM (fun _ _=>False) n0 X Y->J pre Y)(W:World)
  (hY:∀pre (x:Nat×Nat) W1,J pre W1->pre++[x]<+:Sub.kept s->YieldAt Fence.wide 0 Tryz.prog l #[.agg #[.int .i64 (x.1:Int),.int .i64 (x.2:Int)]] W1 fun e W'=>
   aM (fun b o=>bA b o\/bF nB b o) n0 W1 W'/\((e=.returned (.bool true)/\J (pre++[x]) W')\/(e=.returned (.bool false)/\Jx (pre++[x]) W')))
  (hkp:Kp W)(h0:J [] W):
  Calls Tryz.prog 65 #[.func (.yield l) #[] #[],.pointer (some ⟨b,0,none⟩)] W fun e W'=>(∃v,e=.returned v)/\((∃xs,xs=Sub.kept s/\J xs W')\/∃xs,Jx xs W'):=by
 have c0:=(one_cell (hK1 W hkp)).1;obtain⟨a,cap,rfl,hok,hc,hm⟩:=hs.form;have HS:=hid hs;have Yd:=hid (And.intro hkp h0);have HY:=hid hY;have HDJ:=hid (fun pre X m (h:J pre X)=>hJ pre X (X.drewN m) h ((aM.refl _ _ _).drewN m));have HDK:=hid (fun X m (h:Kp X)=>hKp X (X.drewN m) h ((aM.refl _ _ _).drewN m));have yt:=hid hK2;have D8:=hid hKp;clear hY hkp h0 hK1 hK2 hs hKp hJ;rw[<-callsIn_wide (n:=1)];refine callsIn_of_wp Tryz.func65 rfl trivial ?_ rfl;simp only[Tryz.ntmps65,List.size_toArray,List.length_cons,List.length_nil,Nat.reduceAdd,Nat.reduceSub,Array.replicate_succ,Array.replicate_zero,List.push_toArray,List.append_toArray,List.nil_append,List.cons_append];gi_wp2;clear c0;gi_loopw [9] (fun c wr=>∃k:Nat,k<=s.length/\c=.int .i64 k/\Hid (Kp wr/\J (Sub.jG s k) wr)) (fun c _=>s.length-(intOf c).toNat);case atStart=>exact⟨0,aB,rfl,hid ⟨Yd.out.1,by rw[Sub.zb];exact Yd.out.2⟩⟩
 case round=>
  obtain⟨k,hk,rfl,HR⟩:=hrel;by_cases hlt:k<s.length
  ·obtain⟨u,hu1,mU⟩:=HS.out.qt hlt
   have x0:=mU wr (yt.out wr HR.out.1);obtain⟨a1,c1,rfl,FI,hc1,hm1⟩:=hu1.form;have HB:=hid hu1;have HG:Hid (s.getD k []=s[k]):=hid (Sub.aQ hlt);have hk0:(0:Int)<=(k:Int):=aB
   have hk1:(k:Int)<(s.length:Int):=aB
   clear hu1 mU;obtain⟨nr,nM⟩:=bB (s[k].length);rw[<-nM] at HB FI hc1 x0;have wg:=hid nM;clear nM;gi_wp2;clear x0;generalize I3:wr=Wb at*;gi_loopw [16] (fun c wr=>∃i:Nat,i<=nr/\c=.int .i64 i/\Hid (Kp wr/\J (Sub.jG s k++Sub.nN k s[k] i) wr)) (fun c _=>nr-(intOf c).toNat);case atStart=>exact⟨0,aB,rfl,hid ⟨HR.out.1,by rw[Sub.ze,List.append_nil];exact HR.out.2⟩⟩
   case round=>
    obtain⟨i,hi,rfl,Ja⟩:=hrel;by_cases hit:i<nr
    ·have hi0:(0:Int)<=(i:Int):=by omega
     have hi1:(i:Int)<(nr:Int):=aB
     have hik:i<s[k].length:=by have:=wg.out;omega
     obtain⟨ub,hub,mU⟩:=HB.out.qt hik;obtain rfl:ub=_:=hub;have x0:=mU wr (yt.out wr Ja.out.1);have hsu:=Sub.oC k s[k] i;rw[Sub.aQ hik] at hsu;have hpre:=Sub.FH (s:=s) (k:=k) (i:=i+1) hlt (by rw[HG.out];omega);rw[HG.out] at hpre;clear mU;generalize s[k][i]=kp at*;cases kp with
     |true=>
      rw[if_pos rfl] at hsu
      rw[hsu,<-List.append_assoc] at hpre
      obtain⟨fn,tmps,assign,body,K0,hR⟩:=YieldAt.gI (m':=0) rfl (HY.out _ (k,i) wr Ja.out.2 hpre)
      have vU:=hid hR
      have HSU:=hid hsu
      clear hsu hpre hR
      gi_wp2
      refine(RoundIn.gI rfl vU.out).mono ?_
      rintro e W2 ⟨ht2,hres⟩
      have hk2:=D8.out _ _ Ja.out.1 ht2
      rw[List.append_assoc,<-HSU.out] at hres
      rcases hres with⟨rfl,hj2⟩|⟨rfl,hj2⟩
      ·have H2:=hid (And.intro hk2 hj2)
       clear ht2 hk2 hj2 vU K0 HSU;gi_wp2;go_roundw;case rel=>exact⟨i+1,aB,by go_num,H2⟩
       simp[intOf];omega
      ·have H2:=hid hj2
       clear ht2 hk2 hj2 vU K0 HSU;exact Rf
     |false=>
      rw[if_neg bp] at hsu
      have H2:Hid (Kp wr/\J (Sub.jG s k++Sub.nN k s[k] (i+1)) wr):=hid ⟨Ja.out.1,by rw[hsu,List.append_nil];exact Ja.out.2⟩
      clear hsu hpre
      gi_wp2
      refine⟨bp,?_⟩
      gi_wp2
      go_roundw
      case rel=>exact⟨i+1,aB,by go_num,H2⟩
      simp[intOf];omega
    ·obtain rfl:nr=i:=by omega
     have H2:Hid (Kp wr/\J (Sub.jG s (k+1)) wr):=hid ⟨Ja.out.1,by
      have:=Ja.out.2
      rw[Sub.lU,HG.out,<-Sub.qw,<-wg.out]
      exact this⟩
     gi_wp2;go_roundw;case rel=>exact⟨k+1,aB,by go_num,H2⟩
     simp[intOf];omega
  ·exact Yc
theorem zh(a:Option Addr)(n c:Nat)(w:World):Calls Tryz.prog 33 #[.slice a n c] w fun e w'=>e=.returned (.func (.func 65) #[] #[.pointer (some ⟨w.heap.size,0,none⟩)])/\w'=w.alloc (.cells #[.slice a n c] 40):=by
 go_enter Tryz.func33,Tryz.ntmps33;go_wp2;go_ret;exact⟨rfl,rfl⟩
theorem Ye{p:Prop}(h:p:=by
  intro l J Jx W C4 hJ hJx hY h0
  refine Ch s n0 nB b l v S w bA (fun X=>aM (fun b o=>bA b o\/bF nB b o) n0 w X) (fun X Y h1 h2=>h1.trans h2) (fun X h=>h.2 _ _ hb ?_) hk hs J Jx hJ W hY (aM.aS C4 hn0) h0
  rintro (h|h)
  ·exact D7 _ h
  ·simp[bF,book] at h):p:=h
theorem uI(s:Sub.S)(n0 nB b:Nat)(v:Value)(S:Nat->Prop)(bA:Nat->Obj->Prop)(w:World)(hn0:n0<=w.heap.size)(hs:kI S w v s)
  (hb:w.heap[b]?=some (.cells #[v] 40 (0,0)))(D7:∀o,¬bA b o)(hk:∀X,aM (fun b o=>bA b o\/bF nB b o) n0 w X->aD S w X):
  qO (α:=Nat×Nat) Tryz.prog n0 nB 65 #[.pointer (some ⟨b,0,none⟩)] (fun x=> #[.agg #[.int .i64 (x.1:Int),.int .i64 (x.2:Int)]]) (fun pre x _=>pre++[x]<+:Sub.kept s) bA (fun _ _=>False) (fun xs _=>xs=Sub.kept s) w:=by
 exact Ye
theorem Rg(b o j:Nat):(⟨b,o,none⟩:Addr).add j=⟨b,o+j,none⟩:=by
 unfold Addr.add;split
 ·rename_i h;subst h;rfl
 ·rfl
theorem MP(n:Nat)(hn:n<=1000000)(w:World):Calls Tryz.prog 101 #[.int .u64 1,.int .u64 n] w fun e w'=>e=.returned (.tuple #[.int .u64 0,.int .u64 n])/\w=w':=by
 have hm1:bits .and .u64 1 4294967295=1:=fH
 have hm0:bits .and .u64 0 4294967295=0:=fH
 have hmn:bits .and .u64 (n:Int) 4294967295=n:=by
  have h:=bits_and_u64_nat n 4294967295 aB aB;have e:n&&&4294967295=n % 4294967296:=Nat.and_two_pow_sub_one_eq_mod n 32;rw[e,Nat.mod_eq_of_lt aB] at h;exact h
 have hd:(n:Int) / 4294967296=0:=aB
 have hw:IntKind.u64.wrap (n:Int)=n:=by rw[IntKind.wrap_u64];omega
 have hw0:IntKind.u64.wrap 0=0:=fH
 go_enter Tryz.func101,Tryz.ntmps101;go_wp2;go_ret2;exact⟨rfl,rfl⟩
theorem Rh(n:Nat)(hn:n<=1000000)(w:World):Calls Tryz.prog 66 #[.int .u64 1,.int .u64 n] w fun e w'=>e=.returned (.tuple #[.int .u64 0,.int .u64 n])/\w=w':=by
 go_enter Tryz.func66,Tryz.ntmps66;go_wp2_with (go_at_call 101;refine(MP n hn _).mono ?_;rintro e w' ⟨rfl,rfl⟩);go_ret2;exact⟨rfl,rfl⟩
def kW(n m:Nat):List Bool:=List.replicate m true++List.replicate (n-m) false
theorem sW(n m:Nat)(h:m<=n):(kW n m).length=n:=by simp[kW];omega
theorem wh(n m c:Nat)(_h:m+c<=n):splice ((kW n m).map Value.bool) m ((List.replicate c true).map Value.bool)=(kW n (m+c)).map Value.bool:=by
 have e1:(kW n m).take m=List.replicate m true:=by unfold kW;simp
 have e2:(kW n m).drop (m+c)=List.replicate (n-(m+c)) false:=by
  unfold kW;rw[List.drop_append,List.drop_of_length_le bp];simp;omega
 unfold splice;rw[<-List.map_take,Bp,List.length_replicate,<-List.map_drop,<-List.map_append,<-List.map_append,e1,e2];congr 1;unfold kW;rw[<-List.append_assoc,List.replicate_append_replicate]
theorem Vb(n m i:Nat)(h:i<m)(hm:m<=n):(kW n m)[i]'(by rw[sW n m hm];omega)=true:=by
 unfold kW;rw[TN lD];simp
theorem Jb(n:Nat)(hn:n<=1000000)(b:Nat)(w:World)(hc:w.cell? ⟨b,0,none⟩=some (.bool true)):
  Calls Tryz.prog 34 #[.slice (some ⟨b,0,none⟩) 1 1,.int .i64 n] w fun e w'=>∃x,e=.returned x/\iM (w.heap.size<=·) w' x (List.replicate n true)/\BL w w':=by
 have hmk:=fun W=>yD (P:=Tryz.prog) (t:=87) (e:=4) (b:=1) (by kernel_rfl) (by kernel_rfl) aB n aB W;have HMul:=hid (fun W=>Rh n hn W);have hwn:IntKind.u64.wrap (n:Int)=n:=by rw[IntKind.wrap_u64];omega
 have hn1:(0:Int)<=n:=aB
 have WY:(n:Int)<=1000000:=aB
 obtain⟨c0,hc0⟩:=bB (Nat.min 1 n);have hc1:c0<=1:=by rw[hc0];exact Nat.min_le_left _ _
 have hc2:c0<=n:=by rw[hc0];exact Nat.min_le_right _ _
 have hc3:0<n->1<=c0:=fun h=>by rw[hc0];exact Nat.le_min.2 ⟨aH,h⟩
 obtain⟨cs,hcs⟩:=bB ((List.replicate c0 true).map Value.bool);have hcl:cs.length=c0:=by rw[hcs];simp
 have Vc:Hid (splice ((kW n 0).map Value.bool) 0 cs=(kW n c0).map Value.bool):=hid (by rw[hcs];have:=wh n 0 c0 aB;rwa [Nat.zero_add] at this)
 have vf:Hid (∀j v,cs[j]?=some v->j=0/\Value.bool true=v):=hid (fun j v hj=>by
  have h1:=(List.getElem?_eq_some_iff.1 hj).1;rw[hcs,List.getElem?_map,List.getElem?_replicate,if_pos aB] at hj;exact⟨aB,mP⟩)
 have Yf:Hid (∀v∈cs,v.oneCell'=true):=hid (by rw[hcs];simp[Value.oneCell']);have Vd:=hid hcl;have HC0:=hid hc0;clear hcs hcl hc0;have HG0:=hid (aW (k:=w.heap.size) w (.cells ((List.replicate n (Value.bool false)).toArray) 4) rfl);have hcW:(w.alloc (.cells ((List.replicate n (Value.bool false)).toArray) 4)).cell? ⟨b,0,none⟩=some (.bool true):=cell_later (aF.alloc aH _) hc;have HCW:=hid hcW;have hb0:BL w (w.alloc (.cells ((List.replicate n (Value.bool false)).toArray) 4)):=aF.alloc aH _;have KN:=hid hb0;have hz:(kW n 0).map Value.bool=(List.replicate n false).map Value.bool:=by simp[kW]
 have HZ:Hid ((List.replicate n (Value.bool false)).toArray=((kW n 0).map Value.bool).toArray):=hid (by rw[hz,List.map_replicate]);clear hcW hb0 hc hz;go_enter Tryz.func34,Tryz.ntmps34;have d1:decide ((n:Int)<0)=false:=decide_eq_false aB;have d2:decide (9223372036854775807<(n:Int))=false:=decide_eq_false aB;have HG1:Hid ((w.alloc (.cells ((List.replicate n (Value.bool false)).toArray) 4)).heap[w.heap.size]?=some (.cells ((kW n 0).map Value.bool).toArray 4 (0,0))):=hid (by rw[HG0.out,HZ.out])
 go_wp2_with (first
  |(go_at_call 66;refine(HMul.out _).mono ?_;rintro e w' ⟨rfl,rfl⟩)
  |(refine wpList_copy_splice (o:=⟨some 33,_,_,_,_,_⟩) rfl (.tmp 31) (.tmp 32) 87 87 rfl 4 (by kernel_rfl) (by kernel_rfl) (some ⟨w.heap.size,0,none⟩) (some ⟨b,0,none⟩) n n 1 1 rfl rfl w.heap.size 0 ((kW n 0).map Value.bool) 4 HG1.out cs (by rw[Vd.out,HC0.out]) (fun _=>⟨rfl,_,rfl,fun j v hj=>by
     obtain⟨rfl,rfl⟩:=vf.out j v hj
     exact HCW.out⟩) (by rw[Bp,sW n 0 (Nat.zero_le _),Vd.out];omega) Yf.out w.heap.size w KN.out aH ?_))
 intro w2 HG2 LI;have hg2:=HG2.out;rw[Vc.out] at hg2;have hgc:(cs.length:Int)=(c0:Int):=by rw[Vd.out]
 rw[hgc];have HI:=hid (And.intro hg2 LI);clear hg2 LI HG2 hmk HMul Vc vf Yf Vd HC0 hgc;go_wp2;go_loopw [8] (fun c wr=>∃m:Nat,(m<n->1<=m)/\m<=n/\c=.int .i64 m/\Hid (wr.heap[w.heap.size]?=some (.cells ((kW n m).map Value.bool).toArray 4 (0,0))/\BL w wr)) (fun c _=>n-(intOf c).toNat);case atStart=>exact⟨c0,fun h=>hc3 aB,hc2,rfl,HI⟩
 case round=>
  obtain⟨m,hm1,hm2,rfl,HM⟩:=hrel;by_cases hlt:m<n
  ·have hlt':(m:Int)<n:=by omega
   have hm0:(0:Int)<=m:=aB
   obtain⟨c,hc⟩:=bB (min (n-m) m);obtain⟨cs,hcs⟩:=bB ((List.replicate c true).map Value.bool);have hcl:cs.length=c:=by rw[hcs];simp
   have HN:Hid (splice ((kW n m).map Value.bool) m cs=(kW n (m+c)).map Value.bool):=hid (by rw[hcs];exact wh n m c aB)
   have adg:Hid (∀j v,cs[j]?=some v->wr.cell? ((⟨w.heap.size,0,none⟩:Addr).add j)=some v):=hid (fun j v hj=>by
    rw[hcs,List.getElem?_map,List.getElem?_replicate] at hj
    have Yg:j<c:=by
     by_cases h:j<c
     ·exact h
     ·rw[if_neg h] at hj;simp at hj
    rw[if_pos Yg] at hj;have hv:Value.bool true=v:=mP
    rw[<-hv,Rg,cell_of_row _ _ _ _ _ (0,0) HM.out.1];have hl:=sW n m hm2;have h1:=Vb n m j aB hm2;simp only[Nat.zero_add,List.getElem?_toArray,List.getElem?_map];rw[lE aB,h1];rfl)
   have hone:∀v∈cs,v.oneCell'=true:=by rw[hcs];simp[Value.oneCell']
   have adh:=hid hone;have HCL:=hid hcl;have HCC:=hid hc;have hc1:m+c<=n:=aB
   have hc2:1<=c:=aB
   clear hcs hcl hone hc;go_wp2;refine iq 8 [(true,0),(true,1),(true,2),(true,3),(true,4),(true,5),(true,6),(false,7)] (fun _=>True) oL (by kernel_rfl) trivial ?_;intro hne;refine jY 7 fH ?_;simp only[List.take_succ_cons,List.take_zero];repeat (go_big_quiet_step (fail))
   refine iL ?_;refine dY rfl ?_
   refine wpList_copy_splice rfl (.tmp 41) (.tmp 44) 87 87 rfl 4 (by kernel_rfl) (by kernel_rfl) (some ⟨w.heap.size,m,none⟩) (some ⟨w.heap.size,0,none⟩) (n-m) (n-m) m n rfl rfl w.heap.size m ((kW n m).map Value.bool) 4 HM.out.1 cs (by rw[HCL.out,HCC.out];exact Nat.min_comm _ _)
    (fun _=>⟨rfl,_,rfl,fun j v hj=>adg.out j v hj⟩) (by rw[Bp,sW n m hm2,HCL.out];exact hc1) adh.out w.heap.size w (aI HM.out.2 1) aH ?_
   intro w4 Od hB4;have hg4:=Od.out;rw[HN.out] at hg4;have HI4:=hid (And.intro hg4 hB4);have hgc:goInt cs.length=.int .i64 (c:Int):=by rw[HCL.out];rfl
   rw[hgc];clear hg4 hB4 Od HM adg adh HN HCL hgc;go_wp2;refine py ⟨fM.of trivial,?_⟩;refine jl ?_;go_wp2;go_roundw;case rel=>exact⟨m+c,aB,aB,by go_num,HI4⟩
   simp[intOf];omega
  ·obtain rfl:m=n:=by omega
   have hfin:(kW m m).map Value.bool=(List.replicate m true).map Value.bool:=by simp[kW]
   have h1:=HM.out.1;rw[hfin] at h1;have hB:=HM.out.2
   have HR:Hid (iM (w.heap.size<=·) wr (.slice (some ⟨w.heap.size,0,none⟩) m m) (List.replicate m true)):=hid ⟨by
    refine⟨bp,.inr ⟨w.heap.size,m,_,bp,Nat.zero_le _,h1,?_,?_,?_,?_⟩⟩
    ·simp
    ·unfold maxLen;omega
    ·simp
    ·simp,fun b' hb'=>by simp[Value.ownBlock] at hb';omega⟩
   have HB:=hid hB;clear hfin h1 hB HM;go_wp2;go_ret;exact⟨_,rfl,HR.out,HB.out⟩
theorem uJ(W:ah.eE)(hl:W.length<=1000)(hw:∀r∈W,r.length<=1000000)(v:Value)(T:Nat->Prop)(w:World)(hv:bN T w v W):
  Calls Tryz.prog 11 #[v] w fun e w'=>∃g,e=.returned (.slice (some ⟨g,0,none⟩) W.length W.length)/\kJ (w.heap.size<=·) w' (.slice (some ⟨g,0,none⟩) W.length W.length) (gP W)/\BL w w':=by
 obtain⟨oA,cs,rfl,hss, -, -⟩:=hv.form;have HV:=hid hv;have HW:=hid hw;clear hv hw;have hmk:=fun X=>qj (P:=Tryz.prog) (t:=40) (e:=87) (b:=24) (by kernel_rfl) (by kernel_rfl) aB W.length aB X;obtain⟨n,hn⟩:=bB W.length;rw[<-hn] at hss hmk hl ⊢;have HN:=hid hn;clear hn;go_enter Tryz.func11,Tryz.ntmps11;go_wp2;clear hmk;obtain⟨g0,hg0⟩:=bB w.heap.size;have Q0:Hid (kJ (w.heap.size<=·) (w.alloc (.cells (gb n) 87)) (.slice (some ⟨g0,0,none⟩) n n) (List.replicate n [])):=hid (by rw[hg0];exact Cc w _ aB);rw[<-hg0];clear hg0;go_loopw [11] (fun kk wr=>∃(k:Nat) (xs:Sub.S),k<=n/\kk=.int .i64 k/\Hid (xs.length=n)/\Hid (∀j,j<k->xs[j]?=(gP W)[j]?)/\Hid (kJ (w.heap.size<=·) wr (.slice (some ⟨g0,0,none⟩) n n) xs)/\Hid (BL w wr)) (fun kk _=>n-(intOf kk).toNat);case atStart=>exact⟨0,List.replicate n [],Nat.zero_le _,rfl,hid bp,hid (fun j h=>absurd h aB),Q0,hid (aF.alloc aH _)⟩
 case round=>
  obtain⟨k,xs,hk,rfl,HL,HX,HO,HB⟩:=hrel;obtain⟨wo,rfl⟩:=bB (wr:World);by_cases hlt:k<n
  ·have hk0:(0:Int)<=k:=by omega
   have hk1:(k:Int)<n:=aB
   have hks:k<W.length:=TJ
   have hkx:k<xs.length:=by rw[HL.out];exact hlt
   obtain⟨u,hu,hz,hr⟩:=eU.at (by rw[HN.out];exact HV.out.keep (aD.below HB.out):bN T wo (.slice oA n cs) W) hks;obtain⟨ar,cr,rfl, -, -, -⟩:=hr.form;obtain⟨nr,nM⟩:=bB (W[k].length);have hn6:nr<=1000000:=by rw[nM];exact HW.out _ (gm hks)
   rw[<-nM] at hu;have HSk:Hid ((gP W)[k]?=some (List.replicate nr true)):=hid (by unfold gP;rw[List.getElem?_map,lE hks,nM];rfl);clear nM;obtain⟨w1,hw1⟩:=bB (wo.alloc (.cells #[.bool true] 4));have hb1:BL wo w1:=Ab
   have Cd:=hid (Jb nr hn6 wo.heap.size w1 (by rw[hw1];exact(one_cell (aW _ _ rfl)).1));have bT:=hid hb1;have HW1:=hid hw1;clear hw1 hb1;have h1:=HO.out;rw[show (Value.slice (some ⟨g0,0,none⟩) n n)=.slice (some ⟨g0,0,none⟩) xs.length n by rw[HL.out]] at h1;obtain⟨g,aaz,uu,TT,e1,e2,e3,MG,hcg,hfg,MH,Q5, -,hback⟩:=gZ.borrow eW h1 k hkx
   have hgg:g0=g:=by
    exact QZ
   subst hgg;have Q6:=hid (fun w2 u'=>hback w2 u' (List.replicate nr true));have Tf:=hid Q5;have Xn:=hid MG;clear e1 e2 e3 MH Q5 hback hcg hfg h1 hr MG;generalize hrr:List.replicate nr true=r at*;have hrl:r.length=nr:=by rw[<-hrr];simp
   have Be:=hid hrl;clear hrr hrl;go_wp2_with fail;rw[<-HW1.out];refine Cd.out.mono ?_;rintro e w2 ⟨x,rfl,hx,hb⟩;obtain⟨ax,cx,rfl, -, -, -⟩:=(iM.sl hx).form;have hb2:BL wo w2:=cG bT.out hb;have hz1:=bT.out.size;obtain⟨k1,k2,k3,k4⟩:=Q6.out w2 (.slice ax r.length cx) (Turns.aS hb2) (eW.mono hx (fun b _ (hb:w1.heap.size<=b)=>.inr (show wo.heap.size<=b by omega)))
   have rC:Hid (kJ (w.heap.size<=·) (w2.setCell ⟨g0,k,none⟩ (.slice ax r.length cx)) (.slice (some ⟨g0,0,none⟩) n n) (xs.set k r)):=hid (by
    have:=ez.mono k3 (fun b _ hb=>gM HB.out.size b hb)
    rw[HL.out] at this
    exact this)
   have mR:Hid (BL w (w2.setCell ⟨g0,k,none⟩ (.slice ax r.length cx))):=hid (HB.out.trans (k4.below HB.out.size (fun b hb=>by
    rcases hb with hb|hb
    ·exact(Tf.out b hb).1
    ·rw[hb];exact Xn.out)))
   have HX9:Hid (∀j,j<k+1->(xs.set k r)[j]?=(gP W)[j]?):=hid (fun j hj=>by
    by_cases e:j=k
    ·subst e;rw[List.getElem?_set_self aB,HSk.out]
    ·rw[List.getElem?_set_ne aB];exact HX.out j aB)
   have XT:Hid ((xs.set k r).length=n):=hid (by rw[List.length_set];exact HL.out);have aaA:dX (some ⟨g0,0,none⟩) n:=fun _=>⟨_,_,rfl⟩;clear k3 k4 hx hb hb2 Q6 HSk HX hkx;go_wp2;go_roundw;case rel=>exact⟨k+1,xs.set k r,aB,by go_num,XT,HX9,rC,mR⟩
   simp[intOf];omega
  ·obtain rfl:n=k:=by omega
   have HE:Hid (xs=gP W):=hid (List.ext_getElem? (fun j=>by
    by_cases hj:j<n
    ·exact HX.out j hj
    ·rw[List.getElem?_eq_none (by rw[HL.out];omega),List.getElem?_eq_none (by simp only[gP,Bp];rw[<-HN.out];omega)]))
   go_wp2;go_ret;exact⟨g0,rfl,by rw[<-HE.out];exact HO.out,HB.out⟩
theorem jx{W:ah.eE}{k:Nat}(h:k<W.length):W[k].length<=ah.total W:=by
 have h1:=yB W (k+1);rw[CY h] at h1;simp only[ah.total,List.map_append,List.sum_append,List.map_cons,List.map_nil,List.sum_cons,List.sum_nil] at h1 ⊢;omega
theorem FJ(W:ah.eE)(u:Int):ah.fQ W u<=ah.total W:=by
 unfold ah.fQ;by_cases h:u.toNat<W.length
 ·rw[Sub.aQ h];exact jx h
 ·rw[Sub.sH aB];exact Nat.zero_le _
theorem Jc{W:ah.eE}{k i j:Nat}(hk:k<W.length)(hi:i<W[k].length)(hj:j<W[k][i].length):bV.rR W k i j=W[k][i][j]:=by
 unfold bV.rR;rw[Sub.aQ hk,Sub.aQ hi,Sub.aQ hj]
theorem sV.anyS{S S':Nat->Prop}{B:Nat}{e:TypeId}{w:World}{v:Value}{xs:List bV.Ref}(h:cU 4 Mz S B e w v xs):cU 4 Mz S' B e w v xs:=by
 obtain⟨j8,h1,h2,h3,h4⟩:=h;refine⟨j8,h1,h2,h3,fun j a b=>?_⟩;have h5:=h4 j a b;unfold Mz at h5 ⊢;exact h5
theorem Yh{p:Prop}(h:p:=by
  refine fE ?_
  refine aT rfl ?_
  go_wp2_with fail
  refine aJ (fun V=>Turns (·=w5.heap.size) wr V) (fun _ h=>h) Yi.out ?_
  refine fE ?_
  refine bh ?_
  try simp only[jZ,jP]
  clear MQ Jd Ve hqd
  go_wp2
  go_roundw
  case rel=>exact⟨i+1,aB,by go_num,xM,Je⟩
  simp[intOf]
  omega):p:=h
theorem MR(x:ah.cA)(W:ah.eE)(s:Sub.S)(hfw:bV.sK x W)(hsh:W.map List.length=s.map List.length)(v u t:Value)(S T U:Nat->Prop)(w:World)(hv:d9 S w v x)(hW:bN T w u W)(hs:kI U w t s):
  Calls Tryz.prog 50 #[v,u,t] w fun e w'=>∃B0 B1 B2,e=.returned (.pointer (some ⟨B2+1,0,none⟩))/\StV B0 B1 B2 512 (bV.iN x) W s w'/\w.heap.size<=B0/\BL w w':=by
 obtain⟨ak,ck,al,cl,ar,cr,rfl, -⟩:=hv.form;have K1:=bN.mono (S':=(·<w.heap.size)) hW (fun b hb _=>hb);have hlen:=hfw.len;have hkn:=hfw.aA;have hsl:s.length=W.length:=Y9
 have FK:Hid (∀k (h1:k<W.length) (h2:k<s.length),s[k].length=W[k].length):=hid (fun k h1 h2=>by
  have:=congrArg (fun l=>l[k]?) hsh;have e:W[k].length=s[k].length:=by simpa [h1,h2] using this
  exact e.symm)
 have sZ:Hid (∀k (h1:k<W.length),W[k].length<=512):=hid (fun k h1=>by
  have h2:=ah.LV h1 [];have h3:=hfw.tot;have h4:W[k].length<=ah.total W:=jx h1;omega)
 obtain⟨w1,hw1⟩:=bB (dP w x.aL (.slice ak x.aA.length ck) (.slice al x.aP.length cl) (.slice ar x.aR.length cr));have bT:=wS hw1;have hX1:=bC (show w1.heap[w.heap.size]?=some (.cells #[.int .i64 x.aL,.slice ak x.aA.length ck,.slice al x.aP.length cl,.slice ar x.aR.length cr] 27 (0,0)) by rw[hw1];exact gA ..);unfold dP at hw1;have HW1:=hid hw1;clear hw1;obtain⟨⟨y0,y1,y2,y3⟩, -⟩:=hX1
 have Av:=hid (Fy x hfw.aA (fun k hk=>by
  obtain⟨j,hj,rfl⟩:=List.getElem_of_mem hk;rw[<-dU hj];exact hfw.aG j) _ S w1 (hv.keep (aD.below bT.out)))
 have Yj:=hid (fun(X:World) (hX:BL w X)=>vY s aB (fun r hr=>by
  obtain⟨j,hj,rfl⟩:=List.getElem_of_mem hr;have:=FK.out j aB hj;have:=sZ.out j aB;omega) t U X (hs.keep (aD.below hX)))
 obtain⟨aw,cw,rfl,hsw, -, -⟩:=K1.form;obtain⟨oA,cs,rfl,hss, -, -⟩:=hs.form;have tW:=hid hlen;have Ri:=hid hsl;have Vc:=hid (kI.mono (S':=(·<w.heap.size)) hs (fun b hb _=>hb));clear hlen hsl hsh hW hv hs;have hmm:= @run_makeMap Tryz.prog;go_enter Tryz.func50,Tryz.ntmps50;go_upto_region 1 with fail;rw[<-HW1.out];go_wp2_with fail;refine Av.out.mono ?_;rintro e w2 ⟨aq,cq,rs,rfl,hr60,Tg,hrf,hb2⟩;have Rj:=(sV.anyS (S':=fun _=>False) hrf).sl dM (T:=fun b=>w1.heap.size<=b/\b<w2.heap.size) (fun b _ h=>h.elim) (fun b hb=>hrf.lt b hb);have iE:Hid (BL w1 w2):=hid hb2;have bX:=aU bT hb2;have hsq:dX aq rs.length:=by obtain⟨_,_,e,g, -⟩:=Rj.form;cases e;exact g
 have GF:=hid Tg;clear hrf hb2 Tg y0 y1 y2 y3;go_wp2_with fail;refine(Yj.out w2 bX.out).mono ?_;rintro e w3 ⟨gs,rfl,hsf,hb3⟩;have HSub:=hid (ez.mono (S':=fun b=>w2.heap.size<=b/\b<w3.heap.size) hsf (fun b hlt hb=>⟨hb,hlt⟩));have Vf:=hid (dQ.keep dM Rj (aD.below hb3));have cE:=aU bX hb3;have HWv:=hid (K1.keep (aD.below cE.out));have hz23:=hb3.size;have hz12:=iE.out.size;have hz01:=bT.out.size;clear hsf Rj K1 hb3;obtain⟨w4,hw4⟩:=bB ((w3.alloc (.map #[] 0)).alloc (.cells #[.slice aq rs.length cq,.slice aw W.length cw,.slice (some ⟨gs,0,none⟩) s.length s.length,.map (some w3.heap.size)] 159));have lW:Hid (Below w3.heap.size w3 w4):=hid (by rw[hw4];exact(aF.alloc aH _).alloc bp _);have HX4:Hid (w4.heap[w3.heap.size+1]?=some (.cells #[.slice aq rs.length cq,.slice aw W.length cw,.slice (some ⟨gs,0,none⟩) s.length s.length,.map (some w3.heap.size)] 159 (0,0))):=hid (by rw[hw4];exact aW _ _ bp)
 have HO4:Hid (lT w4 w3.heap.size []):=hid (by rw[hw4];exact(lT.made w3).keep (by
  have:w3.heap.size<(w3.alloc (.map #[] 0)).heap.size:=bp
  exact(aF.alloc aH _).block _ this))
 have Bb:=hid hw4;clear hw4;obtain⟨⟨x0,x1,x2,x3⟩, -⟩:=bC HX4.out;go_upto_region 2 with fail;rw[<-Bb.out];go_wp2;clear x0 x1 x2 x3;go_loopw [25] (fun rr wr=>∃(r:Nat) (bs:List Nat),r<=rs.length/\rr=.int .i64 r/\Hid (bs.length=r)/\Hid (lT wr w3.heap.size bs)/\Hid bs.Nodup/\Hid (∀b∈bs,w3.heap.size+2<=b)/\Hid (∀k (h:k<bs.length) (h2:k<rs.length),eA wr bs[k] 512 (je W s rs[k]))/\Hid (wr.heap[w3.heap.size+1]?=some (.cells #[.slice aq rs.length cq,.slice aw W.length cw,.slice (some ⟨gs,0,none⟩) s.length s.length,.map (some w3.heap.size)] 159 (0,0)))/\Hid (BL w3 wr)) (fun rr _=>rs.length-(intOf rr).toNat);case atStart=>exact⟨0,[],Nat.zero_le _,rfl,hid rfl,HO4,hid List.nodup_nil,hid (fun _ h=>absurd h bp),hid (fun k h=>absurd h bp),HX4,lW⟩
 case round=>
  obtain⟨r,bs,hr,rfl,rW,HO,HNd,tJ,MS,Ti,kE⟩:=hrel;by_cases hlt:r<rs.length
  ·have hr0:(0:Int)<=(r:Int):=by omega
   have hr1:(r:Int)<(rs.length:Int):=aB
   have jF:=aU cE kE.out;obtain⟨-,us,MF,hcs,hur⟩:=dQ.at (dQ.keep dM Vf.out (aD.aS kE.out (fun b hb=>by have h:=hb.2;omega))) hlt;obtain rfl:us=_:=hur;have y0:wr.cell? ⟨bL aq,bP aq+r*4,none⟩=some (.int .i64 (rs[r].kind:Int)):=hcs 0 _ rfl;have y1:wr.cell? ⟨bL aq,bP aq+r*4+1,none⟩=some (.int .i64 (rs[r].field:Int)):=hcs 1 _ rfl;have y2:wr.cell? ⟨bL aq,bP aq+r*4+2,none⟩=some (.int .i64 rs[r].up):=hcs 2 _ rfl;have y3:wr.cell? ⟨bL aq,bP aq+r*4+3,none⟩=some (.int .i64 rs[r].least):=hcs 3 _ rfl;have hmem:rs[r]∈bV.iN x:=by rw[<-GF.out];exact gm hlt
   obtain⟨q1,q2,q3,q4,q5,q6, -, -⟩:=hfw.refs _ hmem;have Ac:=hid (hfw.lead _ hmem);have I4:Hid (rs[r]?=some rs[r]):=hid (lE hlt);clear hcs MF hmem;have adi:=hid (fun(X:World) (hX:∀k (h:k<bs.length),X.heap[bs[k]]?=wr.heap[bs[k]]?) k (h:k<bs.length) (h2:k<rs.length)=>(MS.out k h h2).keep (hX k h));generalize HRq:rs[r]=rf at*;obtain⟨rk,rj,ru,rl⟩:=rf;simp only at y0 y1 y2 y3 q1 q2 q3 q4 q5 q6 Ac;obtain⟨m,rfl⟩:∃m:Nat,ru=(m:Int):=⟨ru.toNat,aB⟩;have HRq2:=hid HRq;clear HRq;obtain⟨w5,hw⟩:=bB (wr.alloc (.cells #[.int .i64 (rk:Int),.int .i64 (rj:Int),.int .i64 (m:Int),.int .i64 rl] 161));have o6:Hid (w5.heap[wr.heap.size]?=some (.cells #[.int .i64 (rk:Int),.int .i64 (rj:Int),.int .i64 (m:Int),.int .i64 rl] 161 (0,0))):=hid Lp;have jd:BL wr w5:=Ec
   have Aq:=hid hw;clear hw;have HHb5:=hid jd;go_upto_region 5 with fail;rw[<-Aq.out];clear y0 y1 y2 y3;obtain⟨w6,hw⟩:=bB (w5.alloc (.map #[] 0));have rS:BL wr w6:=by rw[hw];exact jd.alloc jd.size _
   have iK:Hid (eA w6 w5.heap.size 0 (fun _ _=>0)):=hid (by rw[hw];exact eA.made w5);have HO6:=hid (HO.out.keep (rS.block _ HO.out.lt));have hst:=HO6.out.store (by rw[rW.out];omega) w5.heap.size;rw[rW.out] at hst;obtain⟨w7,hrun,ho7,ye⟩:=hst;have x3:w5.cell? ⟨w3.heap.size+1,3,none⟩=some (.map (some w3.heap.size)):=aN ((jd.block _ (aC Ti.out)).trans Ti.out) 3;rw[hw] at hrun;go_upto_region 6 with fail;have adj:BL w5 w6:=Ec
   have Yk:wr.heap.size<w5.heap.size:=by rw[Aq.out];simp
   have hz6:w5.heap.size<w6.heap.size:=Ei
   have hz7:=ye.size;have N7:=aC Ti.out;have HO7:=hid ho7;have hL6:BL w3 w6:=cG kE.out rS;have Dn:Hid (BL w3 w7):=hid (hL6.trans (ye.below hL6.size (fun b hb=>Nat.le_of_eq hb.symm)));have jT:=aU cE Dn.out;have EP:Hid (∀b,b<wr.heap.size->b≠w3.heap.size->w7.heap[b]?=wr.heap[b]?):=hid (fun b h1 h2=>(ye.block b h2 aB).trans (rS.block b h1));have HX7:Hid (w7.heap[wr.heap.size]?=some (.cells #[.int .i64 (rk:Int),.int .i64 (rj:Int),.int .i64 (m:Int),.int .i64 rl] 161 (0,0))):=hid ((ye.block wr.heap.size (show ¬wr.heap.size=w3.heap.size by omega) aB).trans ((adj.block _ Yk).trans o6.out));have o7:Hid (eA w7 w5.heap.size 0 (kU W s ⟨rk,rj,(m:Int),rl⟩ 0)):=hid (by rw[ML];exact iK.out.keep (ye.block w5.heap.size (show ¬w5.heap.size=w3.heap.size by omega) hz6));have adk:Hid (w7.heap[w3.heap.size+1]?=some (.cells #[.slice aq rs.length cq,.slice aw W.length cw,.slice (some ⟨gs,0,none⟩) s.length s.length,.map (some w3.heap.size)] 159 (0,0))):=hid ((EP.out _ N7 aB).trans Ti.out);have vX:rk<W.length:=by rw[tW.out];exact q1
   have hks:rk<s.length:=by rw[Ri.out];exact vX
   have hk0:(0:Int)<=(rk:Int):=aB
   have hk1:(rk:Int)<(W.length:Int):=aB
   have hk2:(rk:Int)<(s.length:Int):=aB
   obtain⟨uk,PI,hzuk,hrow⟩:=(HWv.out.keep (aD.aS Dn.out (fun b hb=>by have h':b<w.heap.size:=hb;omega))).at vX;obtain⟨ua,uc,rfl,hsu, -, -⟩:=hrow.form;obtain⟨bk,hbk,hzbk,nO⟩:=(Vc.out.keep (aD.below jT.out)).at hks;obtain⟨ba,bc,rfl,hsb, -, -⟩:=nO.form;have HRw:=hid hrow;have HZs:Hid (bL oA<w.heap.size):=hid (by obtain⟨_,_,h0,_⟩:=Vc.out.at hks;exact h0);have HBt:=hid nO;have Be:Hid (s[rk].length=W[rk].length):=hid (FK.out rk vX hks);have Yl:W[rk].length<=512:=sZ.out rk vX;have Ym:Hid (∀i (h:i<W[rk].length),rj<W[rk][i].length):=hid (fun i h=>by rw[hfw.rF rk vX _ (gm h)];exact q2)
   have HLd2:Hid (∀i (h:i<W[rk].length),qu (bV.rR W rk i rj)):=hid (fun i h=>by
    have h1:=Ac.out i vX h;have h2:=FJ W (m:Int);have h3:=hfw.tot;exact⟨aB,aB⟩)
   have adl:qu (m:Int):=by have:=hfw.aA;exact⟨aB,aB⟩
   have MT:=hid adl;clear hrow nO adl hfw;obtain⟨⟨y0,y1,y2,y3⟩, -⟩:=bC HX7.out;obtain⟨nr,nM⟩:=bB (W[rk].length);obtain⟨nb,hnb⟩:=bB (s[rk].length);rw[<-nM] at HRw Be Yl hsu PI;rw[<-hnb] at HBt Be hsb hbk;have wg:=hid nM;have HNb:=hid hnb;clear nM hnb hw ye ho7 hrun rS adj hL6;go_wp2;clear y0 y1 y2 y3;generalize I3:wr=Wb at*;go_loopw [42] (fun ii wq=>∃i:Nat,i<=nr/\ii=.int .i64 i/\Hid (eA wq w5.heap.size i (kU W s ⟨rk,rj,(m:Int),rl⟩ i))/\Hid (Turns (·=w5.heap.size) w7 wq)) (fun ii _=>nr-(intOf ii).toNat);case atStart=>exact⟨0,Nat.zero_le _,rfl,o7,hid (Turns.refl _ _)⟩
   case round=>
    obtain⟨i,hi,rfl,HCq,HTq⟩:=hrel;have QX:Hid (∀b,b<w7.heap.size->b≠w5.heap.size->wr.heap[b]?=w7.heap[b]?):=hid (fun b h1 h2=>HTq.out.block b h2 h1);by_cases hit:i<nr
    ·have hi0:(0:Int)<=(i:Int):=by omega
     have hi1:(i:Int)<(nr:Int):=aB
     have hi2:(i:Int)<(nb:Int):=by have:=Be.out;omega
     have xG:i<W[rk].length:=by have:=wg.out;omega
     have hib:i<s[rk].length:=by have:=HNb.out;have:=Be.out;omega
     obtain⟨ui,hui,hzui,D9⟩:=(dr.keep HRw.out (HTq.out.keep (fun b hb e=>by have h1:b<w.heap.size:=hb;have h2:b=w5.heap.size:=e;omega))).at xG;obtain⟨ia,ic,rfl,hsi, -, -⟩:=D9.form;have hj0:(0:Int)<=(rj:Int):=aB
     have hj1:(rj:Int)<(W[rk][i].length:Int):=by have:=Ym.out i xG;omega
     obtain⟨uv,huv,hzuv,huvr⟩:=D9.at (Ym.out i xG);obtain rfl:uv=_:=huvr;obtain⟨ub,hub,hzub,hubr⟩:=(lM.keep HBt.out (HTq.out.keep (fun b hb e=>by have h1:b<w.heap.size:=hb;have h2:b=w5.heap.size:=e;omega))).at hib;obtain rfl:ub=_:=hubr;have hat:bV.rR W rk i rj=W[rk][i][rj]:=Jc vX xG (Ym.out i xG);have MU:Hid (qu (W[rk][i][rj])):=hid (by rw[<-hat];exact HLd2.out i xG);have D8:Hid (Sub.keeps s rk i=s[rk][i]):=hid (by unfold Sub.keeps;rw[Sub.aQ hks,Sub.aQ hib])
     have Ma:Hid (s[rk][i]=false->eA wr w5.heap.size (i+1) (kU W s ⟨rk,rj,(m:Int),rl⟩ (i+1))):=hid (fun h=>by
      rw[Va (r:=⟨rk,rj,(m:Int),rl⟩) (by rw[D8.out];exact h)];exact HCq.out.mono aB)
     have Rk:Hid (s[rk][i]=true->kU W s ⟨rk,rj,(m:Int),rl⟩ (i+1)=Bd (kU W s ⟨rk,rj,(m:Int),rl⟩ i) (m:Int) (W[rk][i][rj]) (kU W s ⟨rk,rj,(m:Int),rl⟩ i (m:Int) (W[rk][i][rj])+1)):=hid (fun h=>by
      rw[Rb (r:=⟨rk,rj,(m:Int),rl⟩) (by rw[D8.out];exact h),hat])
     have HX8:=hid ((QX.out _ (aC HX7.out) aB).trans HX7.out);have adn:=hid ((QX.out _ (aC adk.out) aB).trans adk.out);have HOq:=hid (HO7.out.keep (QX.out _ aB aB))
     have HHq:Hid (∀X,Turns (·=w5.heap.size) wr X->X.cell? ⟨bL ia,bP ia+rj,none⟩=some (.int .i64 W[rk][i][rj])):=hid (fun X hX=>by
      obtain⟨u,e,h⟩:=D9.qt (Ym.out i xG);rw[h X (hX.keep (fun b hb e=>by have h1:b<w.heap.size:=hb;have h2:b=w5.heap.size:=e;omega)),show u=_ from e])
     clear D9 hat D8;generalize W[rk][i][rj]=v at*;generalize W[rk][i].length=ln at*;generalize s[rk][i]=kp at*;obtain⟨⟨y0,y1,y2,y3⟩, -⟩:=bC HX8.out;have hbk2:wr.cell? ⟨bL oA,bP oA+rk,none⟩=some (.slice ba nb bc):=(World.cell?_of_block (w:=w7) (a:=⟨bL oA,bP oA+rk,none⟩) (QX.out (bL oA) hzbk (by have:=HZs.out;omega))).trans hbk;cases kp with
     |false=>
      have QV:=hid (Ma.out rfl)
      clear Ma Rk
      go_wp2
      go_roundw
      case rel=>exact⟨i+1,aB,by go_num,QV,HTq⟩
      simp[intOf];omega
     |true=>
      have HY:=hid (Rk.out rfl)
      clear Ma Rk
      obtain⟨F,hF⟩:=bB (kU W s ⟨rk,rj,(m:Int),rl⟩ i)
      rw[<-hF] at HY HCq
      have hfr:0<=F (m:Int) v/\F (m:Int) v<=i:=by rw[hF];exact yZ ..
      clear hF
      obtain⟨fc,hfc⟩:=bB (F (m:Int) v)
      rw[<-hfc] at HY hfr
      have hf0:=hfr.1
      have hf1:=hfr.2
      have HFc:=hid hfc
      clear hfr hfc
      go_upto_region 10 with fail
      have MQ:∀xh:Held (fun V=>Turns (·=w5.heap.size) wr V),xh.1.cell? ⟨w3.heap.size+1,3,none⟩=some (.map (some w3.heap.size)):=fun xh=>(bC ((xh.2.block _ (show ¬w3.heap.size+1=w5.heap.size by omega) (aC adn.out)).trans adn.out)).1.2.2.2
      have Jd:∀xh:Held (fun V=>Turns (·=w5.heap.size) wr V),xh.1.cell? ⟨Wb.heap.size,1,none⟩=some (.int .i64 (rj:Int)):=fun xh=>(bC ((xh.2.block _ (show ¬Wb.heap.size=w5.heap.size by omega) (aC HX8.out)).trans HX8.out)).1.2.1
      have Ve:∀xh:Held (fun V=>Turns (·=w5.heap.size) wr V),xh.1.cell? ⟨Wb.heap.size,2,none⟩=some (.int .i64 (m:Int)):=fun xh=>(bC ((xh.2.block _ (show ¬Wb.heap.size=w5.heap.size by omega) (aC HX8.out)).trans HX8.out)).1.2.2.1
      have hqd:∀xh:Held (fun V=>Turns (·=w5.heap.size) wr V),xh.1.cell? ⟨bL ia,bP ia+rj,none⟩=some (.int .i64 v):=fun xh=>HHq.out xh.1 xh.2
      refine aZ 18 (.quiet 0 (.quiet 4 (.quiet 6 (.quiet 7 (.quiet 8 (.quiet 9 (.quiet 10 (.quiet 11 (.quiet 12 (.quiet 13 (.one 1 (.quiet 2 (.quiet 3 (.one 5 (.two 14 16 (.quiet 15 (.one 16 (.quiet 17 .done))) (.quiet 17 (.one 14 (.quiet 15 .done)))))))))))))))))) (fun V=>Turns (·=w5.heap.size) wr V) oL (by kernel_rfl) (Turns.aS (aI aF 1)) ?_
      have KU:Hid (Turns (·=w5.heap.size) wr (wr.drewN 1)):=hid (Turns.aS (aI aF 1))
      have tK:Hid (eA (wr.drewN 1) w5.heap.size i F):=hid (HCq.out.keep rfl)
      have AV:Hid (lT (wr.drewN 1) w3.heap.size (bs++[w5.heap.size])):=hid (HOq.out.keep rfl)
      generalize wr.drewN 1=w8 at*
      obtain⟨jd,e5⟩:∃h:r<(bs++[w5.heap.size]).length,(bs++[w5.heap.size])[r]=w5.heap.size:=by
       have:=rW.out;subst this;exact⟨bp,bp⟩
      have hl5:=AV.out.look jd aB
      rw[e5] at hl5
      have ado:=tK.out.look MT.out MU.out
      rw[<-HFc.out] at ado
      unfold qt at ado
      obtain⟨v0,st,w9,aaF,hC9,Rl,hst⟩:=tK.out.entry aB MT.out MU.out
      unfold qt at aaF
      have Yn:=hC9.look MT.out MU.out
      rw[<-HFc.out] at Yn
      unfold qt at Yn
      have Yo:qu (fc+1):=⟨aB,aB⟩
      obtain⟨lX,Rm,Rn,Ro⟩:=hst w9 (fc+1) Yo rfl
      have adp:(Instr.entryStore 162 (.map (some w5.heap.size)) (.int .i64 (st:Int)) (.int .i64 (fc+1))).run Tryz.prog w9=.ok () lX:=Rm
      clear Rm
      have Yi:=hid (KU.out.trans Rl)
      have Je:Hid (Turns (·=w5.heap.size) w7 lX):=hid (HTq.out.trans (Yi.out.trans Ro))
      have xM:Hid (eA lX w5.heap.size (i+1) (kU W s ⟨rk,rj,(m:Int),rl⟩ (i+1))):=hid (by rw[HY.out];exact Rn)
      clear jd e5 hC9 Rl hst Rn Ro Yo
      iterate 10 refine fE ?_
      refine aT rfl ?_
      go_wp2_with fail
      refine aJ (fun V=>Turns (·=w5.heap.size) wr V) (fun _ h=>h) KU.out ?_
      iterate 2 refine fE ?_
      refine aT rfl ?_
      go_wp2_with fail
      refine aJ (fun V=>Turns (·=w5.heap.size) wr V) (fun _ h=>h) KU.out ?_
      refine eD rfl rfl ?_ ?_
      ·go_wp2_with fail
       refine aJ (fun V=>Turns (·=w5.heap.size) wr V) (fun _ h=>h) KU.out ?_;exact Yh
      ·go_wp2_with fail
       refine aJ (fun V=>Turns (·=w5.heap.size) wr V) (fun _ h=>h) Yi.out ?_;exact Yh
    ·obtain rfl:nr=i:=by omega
     have HKq':=QX;have hBw:BL w3 wr:=Dn.out.trans (HTq.out.below Dn.out.size (fun b hb=>by have h2:b=w5.heap.size:=hb;have:=kE.out.size;omega));have mQ:=hid hBw;have HKb:Hid (∀b,b<Wb.heap.size->b≠w3.heap.size->wr.heap[b]?=Wb.heap[b]?):=hid (fun b h1 h2=>(QX.out b aB aB).trans (EP.out b h1 h2));have HXn:Hid (wr.heap[w3.heap.size+1]?=some (.cells #[.slice aq rs.length cq,.slice aw W.length cw,.slice (some ⟨gs,0,none⟩) s.length s.length,.map (some w3.heap.size)] 159 (0,0))):=hid ((HKb.out _ N7 aB).trans Ti.out);have HOn:Hid (lT wr w3.heap.size (bs++[w5.heap.size])):=hid (HO7.out.keep (QX.out _ aB aB))
     have Vg:Hid (∀b∈bs,b<Wb.heap.size):=hid (fun b hb=>by
      obtain⟨k,hk,rfl⟩:=List.getElem_of_mem hb;exact(MS.out k hk (by have:=rW.out;omega)).lt)
     have HNn:Hid (bs++[w5.heap.size]).Nodup:=hid (List.nodup_append.2 ⟨HNd.out,bp,fun a ha b hb e=>by
      rw[mL] at hb;have:=Vg.out a ha;omega⟩)
     have Ff:Hid (∀b∈bs++[w5.heap.size],w3.heap.size+2<=b):=hid (fun b hb=>by
      rcases List.mem_append.1 hb with hb|hb
      ·exact tJ.out b hb
      ·rw[mL] at hb
       omega)
     have qC:Hid ((bs++[w5.heap.size]).length=r+1):=hid (by rw[xP,rW.out];rfl)
     have HCn3:Hid (∀k (h:k<(bs++[w5.heap.size]).length) (h2:k<rs.length),eA wr (bs++[w5.heap.size])[k] 512 (je W s rs[k])):=hid (fun k h h2=>by
      by_cases hk:k<bs.length
      ·have:=adi.out wr (fun k h=>HKb.out _ (Vg.out _ (gm h)) (by have:=tJ.out _ (gm h);omega)) k hk h2
       rw[TN hk];exact this
      ·have hkr:k=r:=by have:=qC.out;have:=rW.out;omega
       subst hkr
       have e1:(bs++[w5.heap.size])[k]=w5.heap.size:=by
        have:=rW.out;subst this;simp
       rw[e1,HRq2.out];have h3:=HCq.out.mono (m:=512) Yl;unfold je;rw[show (W.getD rk []).length=nr by rw[Sub.aQ vX,wg.out]];exact h3)
     clear HKq' hBw MS adi HCq HTq QX HKb Vg;go_wp2;go_roundw;case rel=>exact⟨r+1,bs++[w5.heap.size],aB,by go_num,qC,HOn,HNn,Ff,HCn3,HXn,mQ⟩
     simp[intOf];omega
  ·obtain rfl:rs.length=r:=by omega
   go_wp2;go_ret;refine⟨w1.heap.size,w2.heap.size,w3.heap.size,rfl,?_,hz01,cG cE.out kE.out⟩;rw[<-GF.out];exact⟨hz12,hz23,⟨aq,cq,aw,cw,gs,Ti.out,dQ.keep dM Vf.out (aD.aS kE.out (fun b hb=>by have h:=hb.2;omega)),(bN.mono HWv.out (fun b _ h=>show b<w1.heap.size by have h':b<w.heap.size:=h;omega)).keep (aD.aS kE.out (fun b hb=>by have h':b<w1.heap.size:=hb;omega)),ez.keep HSub.out (aD.aS kE.out (fun b hb=>hb.2))⟩,⟨bs,HO.out,rW.out,HNd.out,tJ.out,MS.out⟩⟩
theorem l6{w:World}{F:Nat}{x0 x1:Value}{t:TypeId}(h:w.heap[F]?=some (.cells #[x0,x1] t (0,0))):
  (w.cell? ⟨F,0,none⟩=some x0/\w.cell? ⟨F,1,none⟩=some x1)/\∀i,w.frozen? ⟨F,i,none⟩=false:=
 ⟨⟨aN h 0,aN h 1⟩,dJ h⟩
theorem Yp{p:Prop}(h:p:=by
  iterate 2
   go_wp2
   go_quiet (fail)
  go_wp2
  go_roundw
  case rel=>exact⟨j+1,aB,by go_num,Vh,hid zT82⟩
  simp[intOf]
  omega):p:=h
theorem MV(x:ah.cA)(W:ah.eE)(s:Sub.S)(hfw:bV.sK x W)(hsh:W.map List.length=s.map List.length)(B0 B1 B2 n:Nat)(k i:Nat)(hk:k<W.length)(hi:i<W[k].length)(w:World)(h:StV B0 B1 B2 n (bV.iN x) W s w):
  Calls Tryz.prog 86 #[.pointer (some ⟨B2+1,0,none⟩),.agg #[.int .i64 (k:Int),.int .i64 (i:Int)]] w fun e w'=>e=.returned (.bool (bV.wrong (bV.iN x) W s k i))/\BL w w':=by
 have hrf:=hfw.refs;have Ob:=hfw.lead;have hrc:=hfw.rF;have tH:=hfw.tot;have hkn:=hfw.aA;have hlen:=hfw.len;obtain⟨ar,cr,aw,cw,gs,tf,Rj,K1,hsf⟩:=h.box;obtain⟨bs,ho,hbl, -, -,hcn⟩:=h.maps;have Rp:=kJ.sl hsf;have aaG:=h.MN;have Rq:=h.b12;have h60:=hfw.many;clear h hfw;generalize bV.iN x=rs at*;have LI:B2+1<w.heap.size:=aC tf;have hsl:s.length=W.length:=Y9
 have FK:Hid (∀k (h1:k<W.length) (h2:k<s.length),s[k].length=W[k].length):=hid (fun k h1 h2=>by
  have:=congrArg (fun l=>l[k]?) hsh;have e:W[k].length=s[k].length:=by simpa [h1,h2] using this
  exact e.symm)
 have sZ:Hid (∀k (h1:k<W.length),W[k].length<=512):=hid (fun k h1=>by
  have h4:W[k].length<=ah.total W:=jx h1;omega)
 obtain⟨ao,co,eo,hso, -, -⟩:=Rj.form;cases eo;obtain⟨ZR,ZS,ew,hsw, -, -⟩:=K1.form;cases ew;obtain⟨as',cs',es,hss, -, -⟩:=Rp.form;cases es;obtain⟨w1,hw1⟩:=bB (w.alloc (.cells #[.int .i64 (k:Int),.int .i64 (i:Int)] 136));have bT:Hid (Below w.heap.size w w1):=hid Ab;have Ci:Hid (w1.heap[w.heap.size]?=some (.cells #[.int .i64 (k:Int),.int .i64 (i:Int)] 136 (0,0))):=hid CM;have yU:Hid (∀V,BL w V->V.heap[B2+1]?=some (.cells #[.slice ar rs.length cr,.slice aw W.length cw,.slice (some ⟨gs,0,none⟩) s.length s.length,.map (some B2)] 159 (0,0))):=hid (fun V hV=>(hV.block _ LI).trans tf);have Vf:Hid (∀V,BL w V->Cb (fun b=>B0<=b/\b<B1) V (.slice ar rs.length cr) rs):=hid (fun V hV=>dQ.keep dM Rj (aD.below hV));have HWv:Hid (∀V,BL w V->bN (·<B0) V (.slice aw W.length cw) W):=hid (fun V hV=>K1.keep (aD.below hV));have HSv:Hid (∀V,BL w V->kI (fun b=>B1<=b/\b<B2) V (.slice (some ⟨gs,0,none⟩) s.length s.length) s):=hid (fun V hV=>Rp.keep (aD.below hV));have HOv:Hid (∀V,BL w V->lT V B2 bs):=hid (fun V hV=>ho.keep (hV.block _ aB));have HCv:Hid (∀V,BL w V->∀j (h:j<bs.length) (h2:j<rs.length),eA V bs[j] n (je W s rs[j])):=hid (fun V hV j h h2=>(hcn j h h2).keep (hV.block _ (hcn j h h2).lt));have HW1:=hid hw1;have tW:=hid hlen;have Ri:=hid hsl;have rW:=hid hbl;have Td:=hid hsh;have Av:=hid hrf;have Ac:=hid Ob;have Ym:=hid hrc;have hz1:w.heap.size<w1.heap.size:=jH
 have hk0:(0:Int)<=(k:Int):=aB
 have hi0:(0:Int)<=(i:Int):=aB
 clear hw1 hlen hsl hbl hsh hrf Ob hrc ho hcn Rp K1 Rj hsf tf;obtain⟨⟨x0,x1,x2,x3⟩, -⟩:=bC (yU.out w1 bT.out);go_enter Tryz.func86,Tryz.ntmps86;go_upto_region 1 with fail;rw[<-HW1.out];go_wp2;clear x0 x1 x2 x3;go_loopw [12] (fun jj wr=>∃j:Nat,j<=rs.length/\jj=.int .i64 j/\Hid ((rs.take j).any (bV.yG W s k i)=false)/\Hid (BL w1 wr)) (fun jj _=>rs.length-(intOf jj).toNat);case atStart=>exact⟨0,Nat.zero_le _,rfl,hid bp,hid aF⟩
 case round=>
  obtain⟨j,hj,rfl,Ma,kE⟩:=hrel;have jF:=aU bT kE.out;by_cases hlt:j<rs.length
  ·have hj0:(0:Int)<=(j:Int):=by omega
   have hj1:(j:Int)<(rs.length:Int):=aB
   obtain⟨-,us,MF,hcs,hur⟩:=dQ.at (Vf.out wr jF.out) hlt;obtain rfl:us=_:=hur;have y0:wr.cell? ⟨bL ar,bP ar+j*4,none⟩=some (.int .i64 (rs[j].kind:Int)):=hcs 0 _ rfl;have y1:wr.cell? ⟨bL ar,bP ar+j*4+1,none⟩=some (.int .i64 (rs[j].field:Int)):=hcs 1 _ rfl;have y2:wr.cell? ⟨bL ar,bP ar+j*4+2,none⟩=some (.int .i64 rs[j].up):=hcs 2 _ rfl;have y3:wr.cell? ⟨bL ar,bP ar+j*4+3,none⟩=some (.int .i64 rs[j].least):=hcs 3 _ rfl;have hmem:rs[j]∈rs:=gm hlt;obtain⟨q1,q2,q3,q4,q5,q6, -, -⟩:=Av.out _ hmem;have HLj:=hid (Ac.out _ hmem);have Yq:Hid ((rs.take (j+1)).any (bV.yG W s k i)=bV.yG W s k i rs[j]):=hid (by rw[CY hlt,List.any_append,Ma.out];simp);have Rs:Hid (bV.yG W s k i rs[j]=true->bV.wrong rs W s k i=true):=hid (fun h=>List.any_eq_true.2 ⟨_,hmem,h⟩);have HCj:Hid (∀V,BL w V->eA V (bs[j]' Lu) n (je W s rs[j])):=hid (fun V hV=>HCv.out V hV j _ hlt);clear hcs MF hmem;generalize rs[j]=rf at*;obtain⟨rk,rj,ru,rl⟩:=rf;simp only at y0 y1 y2 y3 q1 q2 q3 q4 q5 q6;obtain⟨m,rfl⟩:∃m:Nat,ru=(m:Int):=⟨ru.toNat,aB⟩;obtain⟨w5,hw⟩:=bB (wr.alloc (.cells #[.int .i64 (rk:Int),.int .i64 (rj:Int),.int .i64 (m:Int),.int .i64 rl] 161));have o6:Hid (w5.heap[wr.heap.size]?=some (.cells #[.int .i64 (rk:Int),.int .i64 (rj:Int),.int .i64 (m:Int),.int .i64 rl] 161 (0,0))):=hid Lp;have jI:Hid (Below w1.heap.size w1 w5):=hid Tx;have iD:=aU bT jI.out;have Aq:=hid hw;clear hw;go_upto_region 4 with fail;rw[<-Aq.out];clear y0 y1 y2 y3;obtain⟨⟨y0,y1,y2,y3⟩, -⟩:=bC o6.out;obtain⟨⟨x0,x1,x2,x3⟩, -⟩:=bC (yU.out w5 iD.out);obtain⟨⟨a0,a1⟩, -⟩:=l6 ((jI.out.block _ hz1).trans Ci.out);have vM:Hid (bV.yG W s k i ⟨rk,rj,(m:Int),rl⟩=((decide (rk=k)&& !Sub.keeps s m (bV.rR W k i rj).toNat)||(decide ((m:Int)=k)&&decide ((bV.KI W s ⟨rk,rj,(m:Int),rl⟩ i:Int)<rl)))):=hid rfl;by_cases hkk:rk=k
   ·subst hkk
    have hmW:m<W.length:=by have:=tW.out;omega
    have hms:m<s.length:=by rw[Ri.out];exact hmW
    have hm0:(0:Int)<=(m:Int):=aB
    have hm1:(m:Int)<(s.length:Int):=aB
    have hk1:(rk:Int)<(W.length:Int):=aB
    obtain⟨uk,PI, -,hrow⟩:=(HWv.out w5 iD.out).at hk;obtain⟨ua,uc,rfl,hsu, -, -⟩:=hrow.form;obtain⟨ui,hui, -,D9⟩:=hrow.at hi;obtain⟨ia,ic,rfl,hsi, -, -⟩:=D9.form;have MW:rj<W[rk][i].length:=by rw[Ym.out rk hk _ (gm hi)];exact q2
    obtain⟨uv,huv, -,rfl⟩:=D9.at MW;have hat:bV.rR W rk i rj=W[rk][i][rj]:=Jc hk hi MW;have Ob:0<=bV.rR W rk i rj/\bV.rR W rk i rj<ah.fQ W (m:Int):=HLj.out i hk hi;rw[hat] at Ob;obtain⟨bk,hbk, -,nO⟩:=(HSv.out w5 iD.out).at hms;obtain⟨ba,bc,rfl,hsb, -, -⟩:=nO.form;rw[fZ,f9,Nat.zero_add] at hbk
    have hle:ah.fQ W (m:Int)=s[m].length:=by
     rw[FK.out m hmW hms];unfold ah.fQ;rw[Int.toNat_natCast,Sub.aQ hmW]
    obtain⟨v,hv⟩:∃v:Nat,W[rk][i][rj]=(v:Int):=⟨W[rk][i][rj].toNat,aB⟩;have hvs:v<s[m].length:=aB
    obtain⟨ub,hub, -,rfl⟩:=nO.at hvs;have D8:Hid (Sub.keeps s m (bV.rR W rk i rj).toNat=s[m][v]):=hid (by unfold Sub.keeps;rw[hat,hv,Int.toNat_natCast,Sub.aQ hms,Sub.aQ hvs]);have hv0:(0:Int)<=(v:Int):=aB
    have hv1:(v:Int)<(s[m].length:Int):=aB
    have hj2:(0:Int)<=(rj:Int):=aB
    have hj3:(rj:Int)<(W[rk][i].length:Int):=aB
    have hi1:(i:Int)<(W[rk].length:Int):=aB
    rw[hv] at huv;have HHi:=hid hi;have HHk:=hid hk;clear hrow D9 nO hat Ob hle hv;generalize s[m][v]=kp at*;clear hvs;generalize s[m].length=ns at*;generalize W[rk][i].length=ln at*;cases kp with
    |false=>
     have aaH:Hid (bV.wrong rs W s rk i=true):=hid (Rs.out (by rw[vM.out,D8.out];simp))
     clear vM D8 Yq Rs
     go_wp2
     go_quiet (fail)
     go_wp2
     go_ret
     exact⟨by rw[aaH.out];rfl,aI iD.out _⟩
    |true=>
     have hmk:¬(m:Int)=(rk:Int):=aB
     have Vh:Hid ((rs.take (j+1)).any (bV.yG W s rk i)=false):=hid (by rw[Yq.out,vM.out,D8.out];simp[hmk])
     clear vM D8 Yq Rs
     exact Yp
   ·have Rt:¬(rk:Int)=(k:Int):=by omega
    by_cases hmk:(m:Int)=(k:Int)
    ·obtain rfl:m=k:=by omega
     obtain⟨lf,hlf⟩:=bB (bV.KI W s ⟨rk,rj,(m:Int),rl⟩ i);have Ru:Hid (bV.yG W s m i ⟨rk,rj,(m:Int),rl⟩=decide ((lf:Int)<rl)):=hid (by rw[vM.out,hlf];simp[hkk])
     have HLk:Hid (∀V,BL w V->(Instr.lookup 162 (.map (some (bs[j]' Lu))) (.agg #[.int .i64 (m:Int),.int .i64 (i:Int)]) false).run Tryz.prog V=.ok (.int .i64 (lf:Int)) V):=hid (fun V hV=>by
      have h1:=(HCj.out V hV).look (a:=(m:Int)) (c:=(i:Int)) ⟨aB,aB⟩ ⟨aB,by have:=sZ.out m hk;omega⟩;have h2:je W s ⟨rk,rj,(m:Int),rl⟩ (m:Int) (i:Int)=(lf:Int):=by rw[hlf];unfold je kU bV.KI;rw[if_pos rfl]
      rw[h2] at h1;exact h1)
     have HLo:Hid (∀V,BL w V->(Instr.lookup 157 (.map (some B2)) (.int .i64 (j:Int)) false).run Tryz.prog V=.ok (.map (some (bs[j]' Lu))) V):=hid (fun V hV=>(HOv.out V hV).look Lu aB);clear hlf vM;generalize (bs[j]' Lu)=bj at*;go_wp2;go_quiet (fail);go_upto_region 6 with fail;have Yk:=jI.out.size;have hqx0:=eO w5 ⟨B2+1,0,none⟩ (.slice ar rs.length cr) fun xh=>(bC (yU.out xh.1 (cG iD.out xh.2))).1.1;have aaI:=eO w5 ⟨B2+1,1,none⟩ (.slice aw W.length cw) fun xh=>(bC (yU.out xh.1 (cG iD.out xh.2))).1.2.1;have aaJ:=eO w5 ⟨B2+1,2,none⟩ (.slice (some ⟨gs,0,none⟩) s.length s.length) fun xh=>(bC (yU.out xh.1 (cG iD.out xh.2))).1.2.2.1;have aaK:=eO w5 ⟨B2+1,3,none⟩ (.map (some B2)) fun xh=>(bC (yU.out xh.1 (cG iD.out xh.2))).1.2.2.2;have hqy0:=eO w5 ⟨wr.heap.size,0,none⟩ (.int .i64 (rk:Int)) fun xh=>(bC ((xh.2.block _ (aC o6.out)).trans o6.out)).1.1;have aaL:=eO w5 ⟨wr.heap.size,1,none⟩ (.int .i64 (rj:Int)) fun xh=>(bC ((xh.2.block _ (aC o6.out)).trans o6.out)).1.2.1;have aaM:=eO w5 ⟨wr.heap.size,2,none⟩ (.int .i64 (m:Int)) fun xh=>(bC ((xh.2.block _ (aC o6.out)).trans o6.out)).1.2.2.1;have hqy3:=eO w5 ⟨wr.heap.size,3,none⟩ (.int .i64 rl) fun xh=>(bC ((xh.2.block _ (aC o6.out)).trans o6.out)).1.2.2.2;have Rv:=eO w5 ⟨w.heap.size,0,none⟩ (.int .i64 (m:Int)) fun xh=>(l6 ((xh.2.block _ (show w.heap.size<w5.heap.size by omega)).trans ((jI.out.block _ hz1).trans Ci.out))).1.1;have Rw:=eO w5 ⟨w.heap.size,1,none⟩ (.int .i64 (i:Int)) fun xh=>(l6 ((xh.2.block _ (show w.heap.size<w5.heap.size by omega)).trans ((jI.out.block _ hz1).trans Ci.out))).1.2;refine aZ 16 (.quiet 0 (.quiet 1 (.quiet 2 (.quiet 3 (.quiet 4 (.quiet 5 (.quiet 6 (.quiet 10 (.quiet 12 (.quiet 14 (.quiet 15 (.one 7 (.quiet 8 (.quiet 9 (.one 11 (.one 13 .done)))))))))))))))) (BL w5) oL (by kernel_rfl) (aI (aI aF _) 1) ?_;generalize hw8:World.drewN _ 1=w8;have tK:Hid (Below w5.heap.size w5 w8):=hid (by rw[<-hw8];exact aI (aI aF _) 1);clear hw8;have oW:=aU iD tK.out;have HL8:=aU jI tK.out;have hlo:=HLo.out w8 oW.out;have hlk:=HLk.out w8 oW.out;clear x0 x1 x2 x3 y0 y1 y2 y3 a0 a1
     iterate 11 refine fE ?_
     refine aT rfl ?_;go_wp2_with fail;refine aJ (BL w5) (fun _ h=>h) tK.out ?_
     iterate 2 refine fE ?_
     iterate 2
      refine aT rfl ?_
      go_wp2_with fail
      refine aJ (BL w5) (fun _ h=>h) tK.out ?_
     refine bh ?_;try simp only[jZ,jP]
     clear hqx0 aaI aaJ aaK hqy0 aaL aaM hqy3 Rv Rw hlo hlk;by_cases hlr:(lf:Int)<rl
     ·have aaH:Hid (bV.wrong rs W s m i=true):=hid (Rs.out (by rw[Ru.out];exact decide_eq_true hlr))
      go_wp2;go_ret;exact⟨by rw[aaH.out];rfl,oW.out⟩
     ·have Vh:Hid ((rs.take (j+1)).any (bV.yG W s m i)=false):=hid (by rw[Yq.out,Ru.out];exact decide_eq_false hlr)
      go_wp2;go_roundw;case rel=>exact⟨j+1,aB,by go_num,Vh,HL8⟩
      simp[intOf];omega
    ·have Ru:Hid (bV.yG W s k i ⟨rk,rj,(m:Int),rl⟩=false):=hid (by rw[vM.out];simp[hkk,hmk])
     have Vh:Hid ((rs.take (j+1)).any (bV.yG W s k i)=false):=hid (by rw[Yq.out,Ru.out]);clear vM Ru Yq Rs
     exact Yp
  ·obtain rfl:rs.length=j:=by omega
   have HW0:Hid (bV.wrong rs W s k i=false):=hid (by have:=Ma.out;rw[List.take_length] at this;exact this);go_wp2;go_ret;exact⟨by rw[HW0.out];rfl,jF.out⟩
structure zi(B0 B1 B2 M n:Nat)(rs:List bV.Ref)(W:ah.eE)(s:Sub.S)(w:World):Prop where
 MN:B0<=B1
 b12:B1<=B2
 Tj:B2+2<=M
 box:∃ar cr aw cw gs,w.heap[B2+1]?=some (.cells #[.slice ar rs.length cr,.slice aw W.length cw,.slice (some ⟨gs,0,none⟩) s.length s.length,.map (some B2)] 159 (0,0))/\
  Cb (fun b=>B0<=b/\b<B1) w (.slice ar rs.length cr) rs/\bN (·<B0) w (.slice aw W.length cw) W/\kJ (fun b=>B1<=b/\b<B2) w (.slice (some ⟨gs,0,none⟩) s.length s.length) s
 maps:∃bs:List Nat,lT w B2 bs/\bs.length=rs.length/\bs.Nodup/\(∀b∈bs,B2+2<=b/\b<M)/\∀k (h:k<bs.length) (h2:k<rs.length),eA w bs[k] n (je W s rs[k])
theorem zi.toV{B0 B1 B2 M n:Nat}{rs:List bV.Ref}{W:ah.eE}{s:Sub.S}{w:World}(h:zi B0 B1 B2 M n rs W s w):StV B0 B1 B2 n rs W s w where
 MN:=h.MN
 b12:=h.b12
 box:=h.box
 maps:=by
  obtain⟨bs,h1,h2,h3,h4,h5⟩:=h.maps;exact⟨bs,h1,h2,h3,fun b hb=>(h4 b hb).1,h5⟩
theorem StV.toD{B0 B1 B2 n:Nat}{rs:List bV.Ref}{W:ah.eE}{s:Sub.S}{w:World}(h:StV B0 B1 B2 n rs W s w):zi B0 B1 B2 w.heap.size n rs W s w where
 MN:=h.MN
 b12:=h.b12
 Tj:=by
  obtain⟨ar,cr,aw,cw,gs,h1, -⟩:=h.box;exact aC h1
 box:=h.box
 maps:=by
  obtain⟨bs,h1,h2,h3,h4,h5⟩:=h.maps;refine⟨bs,h1,h2,h3,fun b hb=>⟨h4 b hb,?_⟩,h5⟩;obtain⟨k,hk,rfl⟩:=List.getElem_of_mem hb;exact(h5 k hk aB).lt
theorem zi.tg{B0 B1 B2 M n:Nat}{rs:List bV.Ref}{W:ah.eE}{s:Sub.S}{w w':World}(h:zi B0 B1 B2 M n rs W s w)(hk:aD (·<M) w w'):zi B0 B1 B2 M n rs W s w' where
 MN:=h.MN
 b12:=h.b12
 Tj:=h.Tj
 box:=by
  have h1:=h.MN;have h2:=h.b12;have h3:=h.Tj;obtain⟨ar,cr,aw,cw,gs,g1,g2,g3,g4⟩:=h.box;refine⟨ar,cr,aw,cw,gs,?_,dQ.keep dM g2 (fun b hb hlt=>hk b (by have:=hb.2;show b<M;omega) hlt),g3.keep (fun b (hb:b<B0) hlt=>hk b (by show b<M;omega) hlt),ez.keep g4 (fun b hb hlt=>hk b (by have:=hb.2;show b<M;omega) hlt)⟩;rw[hk _ (by show B2+1<M;omega) (aC g1)];exact g1
 maps:=by
  have h3:=h.Tj;obtain⟨bs,g1,g2,g3,g4,g5⟩:=h.maps;exact⟨bs,g1.keep (hk _ (by show B2<M;omega) g1.lt),g2,g3,g4,fun k a b=>(g5 k a b).keep (hk _ (g4 _ (gm a)).2 (g5 k a b).lt)⟩
theorem zi.mono{B0 B1 B2 M n m:Nat}{rs:List bV.Ref}{W:ah.eE}{s:Sub.S}{w:World}(h:zi B0 B1 B2 M n rs W s w)(hm:n<=m):zi B0 B1 B2 M m rs W s w where
 MN:=h.MN
 b12:=h.b12
 Tj:=h.Tj
 box:=h.box
 maps:=by
  obtain⟨bs,g1,g2,g3,g4,g5⟩:=h.maps;exact⟨bs,g1,g2,g3,g4,fun k a b=>(g5 k a b).mono hm⟩
theorem aM.adq{A:Nat->Obj->Prop}{n0 M:Nat}{w w':World}(h:aM A n0 w w')(hA:∀b o,b<M->¬A b o):aD (·<M) w w':=fun b hb hlt=>by
 have ho:w.heap[b]?=some w.heap[b]:=Array.getElem?_eq_getElem hlt;rw[ho,h.2 b _ ho (hA b _ hb)]
theorem aM.dD{A:Nat->Obj->Prop}{n0:Nat}{S:Nat->Prop}{w w':World}(h:Turns S w w')(hn:n0<=w.heap.size)(h0:∀b,S b->n0<=b)(hA:∀b o,S b->w.heap[b]?=some o->A b o):aM A n0 w w':=
 ⟨h.below hn h0,fun b o ho hb=>(h.block b (fun hS=>hb (hA b o hS ho)) (aC ho)).trans ho⟩
theorem eA.obj{w:World}{b n:Nat}{f:Int->Int->Int}(h:eA w b n f){o:Obj}(ho:w.heap[b]?=some o):¬book o:=by
 obtain⟨D,⟨es,clock,hb, -⟩, -⟩:=h;rw[hb] at ho;cases ho;simp[book]
theorem rK(W:ah.eE)(s:Sub.S)(r:bV.Ref)(k i:Nat)(c:Int):∀n,bV.pX W (Sub.drop s k i) r c n+(if r.kind=k/\i<n/\Sub.keeps s k i=true/\bV.rR W k i r.field=c then 1 else 0)=bV.pX W s r c n
 |0=>by simp[bV.pX]
 |n+1=>by
  have ih:=rK W s r k i c n;rw[oB,oB,Sub.lK];by_cases e:r.kind=k/\n=i
  ·obtain⟨rfl,rfl⟩:=e
   rw[if_neg aB] at ih;have h1:n<n+1:=aB
   cases hk:Sub.keeps s r.kind n<;>simp[h1]<;>omega
  ·have h2:(decide (r.kind=k)&&decide (n=i))=false:=by simpa using e
   rw[h2];by_cases hr:r.kind=k
   ·have hni:n≠i:=fun h=>e ⟨hr,h⟩
    have h3:(i<n+1)↔i<n:=aB
    simp only[h3];simp only[Bool.not_false,Bool.and_true];omega
   ·simp only[hr,false_and,if_false] at ih ⊢
    simp only[Bool.not_false,Bool.and_true];omega
theorem Dq{W:ah.eE}{s:Sub.S}{r:bV.Ref}{k i:Nat}(h:r.kind≠k):je W (Sub.drop s k i) r=je W s r:=by
 funext a c;unfold je kU;have:=rK W s r k i c (W.getD r.kind []).length;rw[if_neg (by simp[h]),Nat.add_zero] at this;rw[this]
theorem Bf{W:ah.eE}{s:Sub.S}{r:bV.Ref}{k i:Nat}(h:r.kind=k)(hi:i<(W.getD k []).length)(hk:Sub.keeps s k i=true):
  je W (Sub.drop s k i) r=Bd (je W s r) r.up (bV.rR W k i r.field) (je W s r r.up (bV.rR W k i r.field)-1):=by
 subst h;funext a c;unfold Bd je kU;have:=rK W s r r.kind i c (W.getD r.kind []).length;by_cases ha:a=r.up
 ·subst ha
  by_cases hc:c=bV.rR W r.kind i r.field
  ·subst hc
   rw[if_pos ⟨rfl,hi,hk,rfl⟩] at this;rw[if_pos rfl,if_pos ⟨rfl,rfl⟩,if_pos rfl];omega
  ·rw[if_neg (fun h=>hc h.2.2.2.symm),Nat.add_zero] at this
   rw[if_pos rfl,if_neg (fun h=>hc h.2),if_pos rfl,this]
 ·rw[if_neg ha,if_neg (fun h=>ha h.1),if_neg ha]
theorem Rx(x:ah.cA)(W:ah.eE)(s:Sub.S)(hfw:bV.sK x W)(hsh:W.map List.length=s.map List.length)(B0 B1 B2 M n:Nat)(hn:n<=100000)(k i:Nat)(hk:k<W.length)(hi:i<W[k].length)(hki:Sub.keeps s k i=true)(w:World)(h:zi B0 B1 B2 M n (bV.iN x) W s w):
  Calls Tryz.prog 87 #[.pointer (some ⟨B2+1,0,none⟩),.agg #[.int .i64 (k:Int),.int .i64 (i:Int)]] w fun e w'=>(∃v,e=.returned v)/\zi B0 B1 B2 M (n+1) (bV.iN x) W (Sub.drop s k i) w'/\aM (fun b o=>(B1<=b/\b<M)/\¬book o) B1 w w':=by
 have hrf:=hfw.refs;have Ob:=hfw.lead;have hrc:=hfw.rF;have tH:=hfw.tot;have hkn:=hfw.aA;have hlen:=hfw.len;have hST:=hid h;obtain⟨ar,cr,aw,cw,gs,tf,Rj,K1,hsf⟩:=h.box;obtain⟨bs,ho,hbl,hnd,hbs,hcn⟩:=h.maps;have aaG:=h.MN;have Rq:=h.b12;have hb2m:=h.Tj;have h60:=hfw.many;clear h hfw;generalize bV.iN x=rs at*;have LI:B2+1<w.heap.size:=aC tf;have hsl:s.length=W.length:=Y9
 have hks:k<s.length:=aB
 have hrow:s[k].length=W[k].length:=by
  have:=congrArg (fun l=>l[k]?) hsh;have e:W[k].length=s[k].length:=by simpa [hk,hks] using this
  exact e.symm
 have sZ:Hid (∀k (h1:k<W.length),W[k].length<=512):=hid (fun k h1=>by
  have h4:W[k].length<=ah.total W:=jx h1;omega)
 obtain⟨sd,hsd⟩:=bB (Sub.drop s k i);have hsd2:sd=s.set k (s[k].set i false):=by rw[hsd];unfold Sub.drop;rw[Sub.aQ hks]
 have aaN:sd.length=s.length:=by rw[hsd2,List.length_set]
 rw[<-hsd];obtain⟨ao,co,eo,hso, -, -⟩:=Rj.form;cases eo;obtain⟨ZR,ZS,ew,hsw, -, -⟩:=K1.form;cases ew;obtain⟨w1,hw1⟩:=bB (w.alloc (.cells #[.int .i64 (k:Int),.int .i64 (i:Int)] 136));have bT:Hid (Below w.heap.size w w1):=hid Ab;have Ci:Hid (w1.heap[w.heap.size]?=some (.cells #[.int .i64 (k:Int),.int .i64 (i:Int)] 136 (0,0))):=hid CM;have yU:Hid (∀V,BL w V->V.heap[B2+1]?=some (.cells #[.slice ar rs.length cr,.slice aw W.length cw,.slice (some ⟨gs,0,none⟩) s.length s.length,.map (some B2)] 159 (0,0))):=hid (fun V hV=>(hV.block _ LI).trans tf);have adr:=ez.keep hsf (aD.below bT.out);obtain⟨uk,Sk,g',cap,e1,PI,nO,hSk,hngs,hgs,hset⟩:=gZ.inner eW adr hks;cases e1;obtain⟨nb,hnb⟩:=bB (s[k].length);have hib:i<nb:=aB
 have hform:=eV nO.1 aB;obtain⟨gk,ck,e2,hck, -, -,hat⟩:=hform;subst e2;have MG:Sk gk:=nO.2 gk rfl;have hgk:=hSk gk MG
 obtain⟨ogk,ads⟩:∃c,w1.heap[gk]?=some (.cells c 4 (0,0)):=by
  rcases nO.1.2 with⟨h2,_⟩|⟨g2,c2,cur,hv2,hb2,hg2,_⟩
  ·cases h2
  ·cases hv2;exact⟨_,hg2⟩
 have HGk:Hid (∀V:World,V.heap=w1.heap->(∃b,V.cell? ⟨gk,i,none⟩=some (.bool b))/\V.frozen? ⟨gk,i,none⟩=false):=hid (fun V hV=>by
  have h0:=hat i lC;have e3:V.heap[gk]?=w1.heap[gk]?:=by rw[hV]
  refine⟨⟨(s[k])[i]' aB,?_⟩,?_⟩
  ·rw[World.cell?_of_block (w:=w1) (a:=⟨gk,i,none⟩) e3,h0.1];simp
  ·rw[World.frozen?_of_block (w:=w1) (a:=⟨gk,i,none⟩) e3,h0.2])
 have XL:Hid (∀V,BL w1 V->V.cell? ⟨gs,k,none⟩=some (.slice (some ⟨gk,0,none⟩) nb ck)):=hid (fun V hV=>by
  rw[hnb];exact(World.cell?_of_block (w:=w1) (a:=⟨gs,k,none⟩) (hV.block _ (Ae w1 ⟨gs,k,none⟩ PI))).trans PI)
 have HW1:=hid hw1;have hz1:w.heap.size<w1.heap.size:=jH
 have NW:B1<=w.heap.size:=aB
 have adt:=hgk.1;have hgk2:=hgk.2
 have Vi:Hid (∀V:World,V.heap=w1.heap->kJ (fun b=>B1<=b/\b<B2) (V.setCell ⟨gk,i,none⟩ (.bool false)) (.slice (some ⟨gs,0,none⟩) sd.length sd.length) sd):=hid (fun V hV=>by
  rw[aaN,hsd2];refine hset _ _ (iM.set (eW.keep nO (fun b _ _=>by rw[hV])) rfl i false) (fun b hb hlt=>?_);have hne:b≠gk:=fun e=>hb.2 (e▸MG);exact(jQ _ _ _ _ hne).trans (by rw[hV]))
 have Tf:Hid (∀V:World,V.heap=w1.heap->BL w1 V->aM (fun b o=>(B1<=b/\b<M)/\¬book o) B1 w (V.setCell ⟨gk,i,none⟩ (.bool false))):=hid (fun V hV hb=>by
  have h1:aM (fun b o=>(B1<=b/\b<M)/\¬book o) B1 w V:=aM.aS (cG bT.out hb) NW;exact h1.setCell (p:=⟨gk,i,none⟩) (o:=.cells ogk 4 (0,0)) (by rw[hV];exact ads) ⟨⟨adt,by show gk<M;omega⟩,xL⟩ adt _)
 have Vf:Hid (Cb (fun b=>B0<=b/\b<B1) w (.slice ar rs.length cr) rs):=hid Rj;have HWv:Hid (bN (·<B0) w (.slice aw W.length cw) W):=hid K1;have HOv:Hid (lT w B2 bs):=hid ho;have HCv:=hid hcn;have tW:=hid hlen;have Ri:=hid hsl;have rW:=hid hbl;have Av:=hid hrf;have Ac:=hid Ob;have Ym:=hid hrc;have HNb:=hid hnb;have FK:=hid hrow;have HSd:=hid hsd;have HSdl:=hid aaN;have HNd:=hid hnd;have tJ:=hid hbs;have D3:=hid hki;have hk0:(0:Int)<=(k:Int):=aB
 have hi0:(0:Int)<=(i:Int):=aB
 have hk1:(k:Int)<(s.length:Int):=aB
 have hi1:(i:Int)<(nb:Int):=aB
 have hi2:(i:Int)<(W[k].length:Int):=aB
 have hk2:(k:Int)<(W.length:Int):=aB
 clear hw1 hlen hsl hbl hrf Ob hrc ho hcn K1 Rj hsf tf hST hsh adr PI nO hSk hngs hgs hset hck hat MG hgk ads hsd hsd2 aaN hnd hbs hrow hnb hki;go_enter Tryz.func87,Tryz.ntmps87;go_upto_region 1 with fail;rw[<-HW1.out];have aaJ:=eO w1 ⟨B2+1,2,none⟩ (.slice (some ⟨gs,0,none⟩) s.length s.length) fun xh=>(bC (yU.out xh.1 (cG bT.out xh.2))).1.2.2.1;have Rv:=eO w1 ⟨w.heap.size,0,none⟩ (.int .i64 (k:Int)) fun xh=>(l6 ((xh.2.block _ hz1).trans Ci.out)).1.1;have Rw:=eO w1 ⟨w.heap.size,1,none⟩ (.int .i64 (i:Int)) fun xh=>(l6 ((xh.2.block _ hz1).trans Ci.out)).1.2;have hqu:=eO w1 ⟨gs,k,none⟩ (.slice (some ⟨gk,0,none⟩) nb ck) fun xh=>XL.out xh.1 xh.2;refine aZ 10 (.quiet 0 (.quiet 1 (.quiet 2 (.quiet 3 (.quiet 4 (.quiet 5 (.quiet 6 (.quiet 7 (.quiet 8 (.quiet 9 .done)))))))))) (BL w1) oL (by kernel_rfl) (aI aF 1) ?_;have XG:Hid (BL w1 (w1.drewN 1)):=hid (aI aF 1);have HH8:Hid ((w1.drewN 1).heap=w1.heap):=hid rfl;generalize w1.drewN 1=w8 at*
 iterate 10 refine fE ?_
 refine bh ?_;try simp only[jZ,jP]
 clear aaJ Rv Rw hqu;obtain⟨⟨xb,hcc⟩,Am⟩:=HGk.out w8 HH8.out;go_upto_region 2 with fail;obtain⟨w2,hw2⟩:=bB (w8.setCell ⟨gk,i,none⟩ (.bool false));rw[<-hw2];have Ah:Hid (aM (fun b o=>(B1<=b/\b<M)/\¬book o) B1 w w2):=hid (by rw[hw2];exact Tf.out w8 HH8.out XG.out);have tG:Hid (kJ (fun b=>B1<=b/\b<B2) w2 (.slice (some ⟨gs,0,none⟩) sd.length sd.length) sd):=hid (by rw[hw2];exact Vi.out w8 HH8.out);have yt:Hid (∀b,b≠gk->b<w.heap.size->w2.heap[b]?=w.heap[b]?):=hid (fun b h1 h2=>by rw[hw2];exact(jQ _ _ _ _ h1).trans (by rw[HH8.out];exact bT.out.block _ h2));have Ap:Hid (w2.heap[B2+1]?=some (.cells #[.slice ar rs.length cr,.slice aw W.length cw,.slice (some ⟨gs,0,none⟩) s.length s.length,.map (some B2)] 159 (0,0))):=hid ((yt.out _ aB LI).trans (yU.out w aF));have tX:Hid (w2.heap[w.heap.size]?=some (.cells #[.int .i64 (k:Int),.int .i64 (i:Int)] 136 (0,0))):=hid (by rw[hw2];exact(jQ _ _ _ _ (show w.heap.size≠gk by omega)).trans (by rw[HH8.out];exact Ci.out));have vU:Hid (Cb (fun b=>B0<=b/\b<B1) w2 (.slice ar rs.length cr) rs):=hid (dQ.keep dM Vf.out (fun b hb hlt=>yt.out b (by have:=hb.2;omega) hlt));have HW2:Hid (bN (·<B0) w2 (.slice aw W.length cw) W):=hid (HWv.out.keep (fun b (hb:b<B0) hlt=>yt.out b aB hlt));have xD:Hid (lT w2 B2 bs):=hid (HOv.out.keep (yt.out _ aB HOv.out.lt));have HC2:Hid (∀q (h:q<bs.length) (h2:q<rs.length),eA w2 bs[q] n (je W s rs[q])):=hid (fun q h h2=>(HCv.out q h h2).keep (yt.out _ (by have:=(tJ.out _ (gm h)).1;omega) (HCv.out q h h2).lt));clear hw2 hcc Am XG HH8 Tf Vi XL HGk;obtain⟨⟨x0,x1,x2,x3⟩, -⟩:=bC Ap.out;go_wp2;clear x0 x1 x2 x3;go_loopw [22] (fun jj wr=>∃j:Nat,j<=rs.length/\jj=.int .i64 j/\Hid (Turns (·∈bs) w2 wr)/\Hid (aM (fun b o=>(B1<=b/\b<M)/\¬book o) B1 w wr)/\Hid (∀q (h:q<bs.length) (h2:q<rs.length),q<j->eA wr bs[q] (n+1) (je W sd rs[q]))/\Hid (∀q (h:q<bs.length) (h2:q<rs.length),j<=q->eA wr bs[q] n (je W s rs[q]))) (fun jj _=>rs.length-(intOf jj).toNat);case atStart=>exact⟨0,Nat.zero_le _,rfl,hid (Turns.refl _ _),Ah,hid (fun q h h2 h3=>absurd h3 aB),hid (fun q h h2 _=>HC2.out q h h2)⟩
 case round=>
  obtain⟨j,hj,rfl,HTr,adu,HDn,KM⟩:=hrel;have U3:Hid (∀b,b<B2+2->b<w2.heap.size->wr.heap[b]?=w2.heap[b]?):=hid (fun b h1 h2=>HTr.out.block b (fun hb=>by have:=(tJ.out b hb).1;omega) h2);have I4:Hid (Cb (fun b=>B0<=b/\b<B1) wr (.slice ar rs.length cr) rs):=hid (dQ.keep dM vU.out (fun b hb hlt=>U3.out b (by have:=hb.2;omega) hlt));have Ti:Hid (wr.heap[B2+1]?=some (.cells #[.slice ar rs.length cr,.slice aw W.length cw,.slice (some ⟨gs,0,none⟩) s.length s.length,.map (some B2)] 159 (0,0))):=hid ((U3.out _ aB (aC Ap.out)).trans Ap.out);have HWr:Hid (bN (·<B0) wr (.slice aw W.length cw) W):=hid (HW2.out.keep (fun b (hb:b<B0) hlt=>U3.out b aB hlt));have HOr:Hid (lT wr B2 bs):=hid (xD.out.keep (U3.out _ aB xD.out.lt))
  have mQ:Hid (∀b∈bs,b<w.heap.size):=hid (fun b hb=>by
   obtain⟨q,hq,rfl⟩:=List.getElem_of_mem hb;exact(HCv.out q hq (by have:=rW.out;omega)).lt)
  have Yr:Hid (wr.heap[w.heap.size]?=some (.cells #[.int .i64 (k:Int),.int .i64 (i:Int)] 136 (0,0))):=hid ((HTr.out.block _ (fun hb=>by have:=mQ.out _ hb;omega) (aC tX.out)).trans tX.out);have N7:w.heap.size<wr.heap.size:=aC Yr.out;by_cases hlt:j<rs.length
  ·have hj0:(0:Int)<=(j:Int):=by omega
   have hj1:(j:Int)<(rs.length:Int):=aB
   have hjb:j<bs.length:=Lu
   obtain⟨-,us,MF,hcs,hur⟩:=dQ.at I4.out hlt;obtain rfl:us=_:=hur;have y0:wr.cell? ⟨bL ar,bP ar+j*4,none⟩=some (.int .i64 (rs[j].kind:Int)):=hcs 0 _ rfl;have y1:wr.cell? ⟨bL ar,bP ar+j*4+1,none⟩=some (.int .i64 (rs[j].field:Int)):=hcs 1 _ rfl;have y2:wr.cell? ⟨bL ar,bP ar+j*4+2,none⟩=some (.int .i64 rs[j].up):=hcs 2 _ rfl;have y3:wr.cell? ⟨bL ar,bP ar+j*4+3,none⟩=some (.int .i64 rs[j].least):=hcs 3 _ rfl;have hmem:rs[j]∈rs:=gm hlt;obtain⟨q1,q2,q3,q4,q5,q6, -, -⟩:=Av.out _ hmem;have HLj:=hid (Ac.out _ hmem);have HRj:Hid (∀(h:j<rs.length),rs[j]=rs[j]):=hid (fun _=>rfl);have HCj:=hid (KM.out j hjb hlt aH);have adv:=tJ.out _ (gm hjb);have hbjw:=mQ.out _ (gm hjb);have HNj:Hid (∀q (h:q<bs.length),q≠j->bs[q]≠bs[j]):=hid (fun q h hne e=>hne ((List.getElem_inj HNd.out).1 e));obtain⟨rf,hrf⟩:=bB (rs[j]);obtain⟨bj,hbj⟩:=bB (bs[j])
   have Ys:Hid (∀V,(∀q (h:q<bs.length),q≠j->V.heap[bs[q]]?=wr.heap[bs[q]]?)->eA V bj (n+1) (je W sd rf)->
     (∀q (h:q<bs.length) (h2:q<rs.length),q<j+1->eA V bs[q] (n+1) (je W sd rs[q]))/\∀q (h:q<bs.length) (h2:q<rs.length),j+1<=q->eA V bs[q] n (je W s rs[q])):=hid (fun V hV hc=>by
    refine⟨fun q h h2 h3=>?_,fun q h h2 h3=>(KM.out q h h2 aB).keep (hV q h aB)⟩;by_cases e:q=j
    ·subst e
     rw[hbj,hrf] at hc;exact hc
    ·exact(HDn.out q h h2 aB).keep (hV q h e))
   have HNj2:Hid (∀q (h:q<bs.length),q≠j->bs[q]≠bj):=hid (by rw[hbj];exact HNj.out);have hol:=HOr.out.look hjb aB;have HLo:Hid (∀V:World,V.heap[B2]?=wr.heap[B2]?->(Instr.lookup 157 (.map (some B2)) (.int .i64 (j:Int)) false).run Tryz.prog V=.ok (.map (some bj)) V):=hid (fun V hV=>by rw[hbj];exact(HOr.out.keep hV).look hjb aB);rw[<-hrf] at y0 y1 y2 y3 q1 q2 q3 q4 q5 q6 HLj HCj;rw[<-hbj] at HCj adv hbjw;have HRfj:=hid hrf;have HBj:=hid hbj;clear hcs MF hmem hrf hbj hol HRj HNj;obtain⟨rk,rj,ru,rl⟩:=rf;simp only at y0 y1 y2 y3 q1 q2 q3 q4 q5 q6;obtain⟨m,rfl⟩:∃m:Nat,ru=(m:Int):=⟨ru.toNat,aB⟩;obtain⟨w5,hw⟩:=bB (wr.alloc (.cells #[.int .i64 (rk:Int),.int .i64 (rj:Int),.int .i64 (m:Int),.int .i64 rl] 161));have o6:Hid (w5.heap[wr.heap.size]?=some (.cells #[.int .i64 (rk:Int),.int .i64 (rj:Int),.int .i64 (m:Int),.int .i64 rl] 161 (0,0))):=hid Lp;have jI:Hid (Below wr.heap.size wr w5):=hid Ec;have HT5:Hid (Turns (·∈bs) w2 w5):=hid (by rw[hw];exact HTr.out.alloc _);have adw:Hid (aM (fun b o=>(B1<=b/\b<M)/\¬book o) B1 w w5):=hid (by rw[hw];exact adu.out.alloc NW _);have IE:Hid (eA w5 bj n (je W s ⟨rk,rj,(m:Int),rl⟩)):=hid (HCj.out.keep (jI.out.block _ HCj.out.lt));have Yk:wr.heap.size<w5.heap.size:=aC o6.out;have Aq:=hid hw;clear hw;go_upto_region 5 with fail;rw[<-Aq.out];clear y0 y1 y2 y3;obtain⟨⟨y0,y1,y2,y3⟩, -⟩:=bC o6.out;obtain⟨⟨a0,a1⟩, -⟩:=l6 ((jI.out.block _ N7).trans Yr.out);by_cases hkk:rk=k
   ·subst hkk
    have D8:Hid (∀V,Turns (·=bj) w5 V->aD (·<B0) w5 V):=hid (fun V hV b (hb:b<B0) hlt=>hV.block b (show ¬b=bj by omega) hlt);obtain⟨uk,Ry,PI⟩:=(HWr.out.keep (w':=w5) (fun b (hb:b<B0) hlt=>jI.out.block b hlt)).qt hk;obtain⟨ua,uc,rfl,hsu, -, -⟩:=Ry.form;obtain⟨ui,Rz,hui⟩:=Ry.qt hi;obtain⟨ia,ic,rfl,hsi, -, -⟩:=Rz.form;have MW:rj<W[rk][i].length:=by rw[Ym.out rk hk _ (gm hi)];exact q2
    obtain⟨uv,huve,huv⟩:=Rz.qt MW;obtain rfl:uv=_:=huve;have hat:bV.rR W rk i rj=W[rk][i][rj]:=Jc hk hi MW
    have MU:Hid (qu (W[rk][i][rj])):=hid (by
     have h1:0<=bV.rR W rk i rj/\bV.rR W rk i rj<ah.fQ W (m:Int):=HLj.out i hk hi
     rw[hat] at h1
     have h2:=FJ W (m:Int)
     exact⟨aB,aB⟩)
    have MT:Hid (qu (m:Int)):=hid ⟨aB,aB⟩;have XL:=hid (fun V (hV:Turns (·=bj) w5 V)=>PI V (D8.out V hV));have HUi:=hid (fun V (hV:Turns (·=bj) w5 V)=>hui V (D8.out V hV));have HUv:=hid (fun V (hV:Turns (·=bj) w5 V)=>huv V (D8.out V hV))
    have UZ:Hid (je W sd ⟨rk,rj,(m:Int),rl⟩=Bd (je W s ⟨rk,rj,(m:Int),rl⟩) (m:Int) (W[rk][i][rj]) (je W s ⟨rk,rj,(m:Int),rl⟩ (m:Int) (W[rk][i][rj])-1)):=hid (by
     rw[HSd.out,Bf (r:=⟨rk,rj,(m:Int),rl⟩) rfl (by rw[Sub.aQ hk];exact hi) D3.out,hat])
    have hj2:(0:Int)<=(rj:Int):=aB
    have hj3:(rj:Int)<(W[rk][i].length:Int):=aB
    have hfr:0<=je W s ⟨rk,rj,(m:Int),rl⟩ (m:Int) (W[rk][i][rj])/\je W s ⟨rk,rj,(m:Int),rl⟩ (m:Int) (W[rk][i][rj])<=(W.getD rk []).length:=yZ _ _ _ _ _ _;rw[Sub.aQ hk] at hfr;have hw512:=sZ.out rk hk;obtain⟨F,hF⟩:=bB (je W s ⟨rk,rj,(m:Int),rl⟩);rw[<-hF] at hfr UZ IE;clear hF Ry PI Rz hui huv hat;generalize W[rk][i][rj]=v at*;clear MW;generalize W[rk][i].length=ln at*;obtain⟨fc,hfc⟩:=bB (F (m:Int) v);rw[<-hfc] at UZ hfr;have hf0:=hfr.1;have hf1:fc<=512:=aB
    have HFc:=hid hfc;have adx:¬B2+1=bj:=aB
    have aaO:¬wr.heap.size=bj:=aB
    have ady:¬w.heap.size=bj:=aB
    have hne4:¬B2=bj:=aB
    have HX5:Hid (w5.heap[B2+1]?=some (.cells #[.slice ar rs.length cr,.slice aw W.length cw,.slice (some ⟨gs,0,none⟩) s.length s.length,.map (some B2)] 159 (0,0))):=hid ((jI.out.block _ (aC Ti.out)).trans Ti.out);have Vj:Hid (w5.heap[w.heap.size]?=some (.cells #[.int .i64 (rk:Int),.int .i64 (i:Int)] 136 (0,0))):=hid ((jI.out.block _ N7).trans Yr.out);have HO5:Hid (∀V,Turns (·=bj) w5 V->V.heap[B2]?=wr.heap[B2]?):=hid (fun V hV=>(hV.block B2 hne4 (by have:=HOr.out.lt;omega)).trans (jI.out.block _ HOr.out.lt));clear hfr hfc;go_upto_region 6 with fail;clear y0 y1 y2 y3 a0 a1;have aaI:∀xh:Held (fun V=>Turns (·=bj) w5 V/\eA V bj (n+1) F),xh.1.cell? ⟨B2+1,1,none⟩=some (.slice aw W.length cw):=fun xh=>(bC ((xh.2.1.block _ adx (aC HX5.out)).trans HX5.out)).1.2.1;have aaK:∀xh:Held (fun V=>Turns (·=bj) w5 V/\eA V bj (n+1) F),xh.1.cell? ⟨B2+1,3,none⟩=some (.map (some B2)):=fun xh=>(bC ((xh.2.1.block _ adx (aC HX5.out)).trans HX5.out)).1.2.2.2;have aaL:∀xh:Held (fun V=>Turns (·=bj) w5 V/\eA V bj (n+1) F),xh.1.cell? ⟨wr.heap.size,1,none⟩=some (.int .i64 (rj:Int)):=fun xh=>(bC ((xh.2.1.block _ aaO (aC o6.out)).trans o6.out)).1.2.1;have aaM:∀xh:Held (fun V=>Turns (·=bj) w5 V/\eA V bj (n+1) F),xh.1.cell? ⟨wr.heap.size,2,none⟩=some (.int .i64 (m:Int)):=fun xh=>(bC ((xh.2.1.block _ aaO (aC o6.out)).trans o6.out)).1.2.2.1;have Rv:∀xh:Held (fun V=>Turns (·=bj) w5 V/\eA V bj (n+1) F),xh.1.cell? ⟨w.heap.size,0,none⟩=some (.int .i64 (rk:Int)):=fun xh=>(l6 ((xh.2.1.block _ ady (aC Vj.out)).trans Vj.out)).1.1;have Rw:∀xh:Held (fun V=>Turns (·=bj) w5 V/\eA V bj (n+1) F),xh.1.cell? ⟨w.heap.size,1,none⟩=some (.int .i64 (i:Int)):=fun xh=>(l6 ((xh.2.1.block _ ady (aC Vj.out)).trans Vj.out)).1.2;have hquk:∀xh:Held (fun V=>Turns (·=bj) w5 V/\eA V bj (n+1) F),xh.1.cell? ⟨bL aw,bP aw+rk,none⟩=some (.slice ua W[rk].length uc):=fun xh=>XL.out xh.1 xh.2.1;have hqui:∀xh:Held (fun V=>Turns (·=bj) w5 V/\eA V bj (n+1) F),xh.1.cell? ⟨bL ua,bP ua+i,none⟩=some (.slice ia ln ic):=fun xh=>HUi.out xh.1 xh.2.1;have hquv:∀xh:Held (fun V=>Turns (·=bj) w5 V/\eA V bj (n+1) F),xh.1.cell? ⟨bL ia,bP ia+rj,none⟩=some (.int .i64 v):=fun xh=>HUv.out xh.1 xh.2.1;have hql:∀xh:Held (fun V=>Turns (·=bj) w5 V/\eA V bj (n+1) F),(Instr.lookup 157 (.map (some B2)) (.int .i64 (j:Int)) false).run Tryz.prog xh.1=.ok (.map (some bj)) xh.1:=fun xh=>HLo.out xh.1 (HO5.out xh.1 xh.2.1)
    have hqk:∀xh:Held (fun V=>Turns (·=bj) w5 V/\eA V bj (n+1) F),(Instr.lookup 162 (.map (some bj)) (.agg #[.int .i64 (m:Int),.int .i64 v]) false).run Tryz.prog xh.1=.ok (.int .i64 fc) xh.1:=fun xh=>by
     rw[HFc.out];exact xh.2.2.look MT.out MU.out
    refine aZ 29 (.quiet 0 (.quiet 1 (.quiet 2 (.quiet 3 (.quiet 4 (.quiet 5 (.quiet 6 (.quiet 7 (.quiet 8 (.quiet 9 (.quiet 10 (.quiet 11 (.quiet 12 (.quiet 13 (.quiet 14 (.quiet 15 (.quiet 16 (.quiet 17 (.quiet 18 (.quiet 19 (.quiet 20 (.quiet 21 (.quiet 22 (.quiet 23 (.quiet 24 (.quiet 25 (.quiet 26 (.one 27 (.quiet 28 .done))))))))))))))))))))))))))))) (fun V=>Turns (·=bj) w5 V/\eA V bj (n+1) F) oL (by kernel_rfl) ⟨Turns.aS (aI aF 1),IE.out.mono aB⟩ ?_;have KU:Hid (Turns (·=bj) w5 (w5.drewN 1)):=hid (Turns.aS (aI aF 1));have tK:Hid (eA (w5.drewN 1) bj n F):=hid (IE.out.keep rfl);generalize w5.drewN 1=w8 at*;obtain⟨v0,st,w9,aaF,hC9,Rl,hst⟩:=tK.out.entry aB MT.out MU.out;unfold qt at aaF;have Yo:qu (fc-1):=⟨aB,aB⟩;obtain⟨lX,Rm,Rn,Ro⟩:=hst w9 (fc-1) Yo rfl;have adp:(Instr.entryStore 162 (.map (some bj)) (.int .i64 (st:Int)) (.int .i64 (fc-1))).run Tryz.prog w9=.ok () lX:=Rm;have Yi:Hid (Turns (·=bj) w5 w9):=hid (KU.out.trans Rl);have QV:=hid hC9;have Je:Hid (Turns (·=bj) w5 lX):=hid (Yi.out.trans Ro);have xM:Hid (eA lX bj (n+1) (je W sd ⟨rk,rj,(m:Int),rl⟩)):=hid (by rw[UZ.out];exact Rn);clear hC9 Rl hst Rn Ro Yo Rm
    iterate 27 refine fE ?_
    refine aT rfl ?_;go_wp2_with fail;refine aJ (fun V=>Turns (·=bj) w5 V/\eA V bj (n+1) F) (fun _ h=>h) ⟨Yi.out,QV.out⟩ ?_;refine fE ?_;refine bh ?_;try simp only[jZ,jP]
    clear aaI aaK aaL aaM Rv Rw hquk hqui hquv hql hqk;have adz:Hid (Turns (·∈bs) w2 lX):=hid (HT5.out.trans (Je.out.mono (fun b _ (e:b=bj)=>by rw[e,HBj.out];exact gm hjb)))
    have adA:Hid (aM (fun b o=>(B1<=b/\b<M)/\¬book o) B1 w lX):=hid (adw.out.trans (aM.dD Je.out aB (fun b (e:b=bj)=>by omega) (fun b o (e:b=bj) ho=>by
     subst e;exact⟨⟨aB,adv.2⟩,IE.out.obj ho⟩)))
    have Tk:=hid (Ys.out lX (fun q h hne=>(Je.out.block _ (HNj2.out q h hne) Zi).trans (jI.out.block _ Zi)) xM.out);go_wp2;go_roundw;case rel=>exact⟨j+1,aB,by go_num,adz,adA,hid Tk.out.1,hid Tk.out.2⟩
    simp[intOf];omega
   ·have Rt:¬(rk:Int)=(k:Int):=by omega
    have Tk:=hid (Ys.out w5 (fun q h hne=>jI.out.block _ Zi) (by
     rw[HSd.out,Dq (r:=⟨rk,rj,(m:Int),rl⟩) hkk]
     exact IE.out.mono aB))
    go_wp2;go_roundw;case rel=>exact⟨j+1,aB,by go_num,HT5,adw,hid Tk.out.1,hid Tk.out.2⟩
    simp[intOf];omega
  ·obtain rfl:rs.length=j:=by omega
   have HF:Hid (zi B0 B1 B2 M (n+1) rs W sd wr):=hid ⟨aaG,Rq,hb2m,⟨ar,cr,aw,cw,gs,by rw[HSdl.out];exact Ti.out,I4.out,HWr.out,ez.keep tG.out (fun b hb hlt=>U3.out b (by have:=hb.2;omega) hlt)⟩,
    ⟨bs,HOr.out,rW.out,HNd.out,tJ.out,fun q h h2=>HDn.out q h h2 h2⟩⟩
   go_wp2;go_end0;exact⟨⟨_,rfl⟩,HF.out,adu.out⟩
end Go.Proofs.YtibacilhkciihaaGreatDoor
