/- Part 7 of the walks and plain laws that the proof needs (packed). -/
import Derived.Deep.WholeRow
import Derived.Laws.Tables
import Derived.Laws.IdiomStrings
import Derived.BigRegion
import Derived.Shelf.Strings.Builder1
import Derived.Shelf.LaysM
import Derived.Shelf.Strconv.Itoa3
import Derived.Test.YtohddpbgflgiaaaGreatDoorProg
import Derived.WalkSmall
import Derived.Test.YtohddpbgflgiaaaGreatDoorQ1
import Derived.Test.YtohddpbgflgiaaaGreatDoorQ4
import Derived.Test.YtohddpbgflgiaaaGreatDoorQ6
set_option linter.all false
set_option maxRecDepth 100000
set_option maxHeartbeats 8000000
open Go.Proofs.Tryz
variable{p:Prop}
namespace Go.Proofs.YtohddpbgflgiaaaGreatDoor
namespace Sub
abbrev S:=List (List Bool)
def keeps(s:S)(k i:Nat):Bool:=(s.getD k []).getD i false
def Fit(a:List Nat)(s:S):Prop:=s.length=a.length/\∀k,(s.getD k []).length=a.getD k 0
def le(s t:S):Prop:=∀k i,keeps s k i=true->keeps t k i=true
theorem le.refl(s:S):le s s:=fun _ _ h=>h
theorem le.trans{s t u:S}(h:le s t)(g:le t u):le s u:=fun k i a=>g k i (h k i a)
theorem bh{α:Type}{xs:List α}{d:α}{k:Nat}(h:k<xs.length):xs.getD k d=xs[k]:=by
 rw[iY,lN h];rfl
theorem yM{α:Type}{xs:List α}{d:α}{k:Nat}(h:xs.length<=k):xs.getD k d=d:=by
 rw[iY,zxr h];rfl
theorem abW{a b:List Bool}(c:a.length=b.length)(h:∀i,a.getD i false=b.getD i false):a=b:=by
 refine alW c fun i d e=>?_;have:=h i;rwa [bh d,bh e] at this
theorem ext{b:List Nat}{s t:S}(c:Fit b s)(d:Fit b t)(h:∀k i,keeps s k i=keeps t k i):s=t:=by
 refine alW (by rw[c.1,d.1]) fun k e f=>?_;have g:=c.2 k;have j:=d.2 k;have a:=fun i=>h k i;unfold keeps at a;rw[bh e] at g;rw[bh f] at j;rw[bh e,bh f] at a;exact abW aD a
theorem le_antisymm{a:List Nat}{s t:S}(b:Fit a s)(c:Fit a t)(h:le s t)(g:le t s):s=t:=
 ext b c fun k i=>by
  have d:=h k i;have e:=g k i;cases e1:keeps s k i<;>cases e2:keeps t k i<;>simp_all
def drop(s:S)(k i:Nat):S:=s.set k ((s.getD k []).set i false)
theorem Df{α:Type}(xs:List α)(k j:Nat)(x d:α):(xs.set k x).getD j d=if k=j/\j<xs.length then x else xs.getD j d:=by
 rw[iY,List.getElem?_set,iY];by_cases h:k=j
 ·subst h
  by_cases g:k<xs.length
  ·simp[g]
  ·simp[g]
 ·simp[h]
theorem o9(s:S)(k i a b:Nat):keeps (drop s k i) a b=(keeps s a b&& !(decide (a=k)&&decide (b=i))):=by
 unfold keeps drop;rw[Df];by_cases h:k=a/\a<s.length
 ·rw[if_pos h,Df]
  obtain⟨rfl,c⟩:=h;by_cases g:i=b/\b<(s.getD k []).length
  ·rw[if_pos g]
   simp[g.1]
  ·rw[if_neg g]
   by_cases e:b=i
   ·subst e
    rw[yM aD];simp
   ·simp[e]
 ·rw[if_neg h]
  by_cases e:a=k
  ·subst e
   rw[yM (xs:=s) aD];simp
  ·simp[e]
theorem YF{a:List Nat}{s:S}(h:Fit a s)(k i:Nat):Fit a (drop s k i):=by
 refine⟨by unfold drop;rw[zxl];exact h.1,fun j=>?_⟩;unfold drop;rw[Df];split
 ·rename_i g
  rw[zxl,g.1];exact h.2 j
 ·exact h.2 j
theorem Rf(s:S)(k i:Nat):le (drop s k i) s:=fun a b h=>by
 rw[o9,pR] at h;exact h.1
theorem Dg{s:S}{k i:Nat}(h:keeps s k i=true):k<s.length/\i<(s.getD k []).length:=by
 unfold keeps at h;constructor
 ·apply Classical.byContradiction;intro g
  rw[yM (xs:=s) aD] at h;simp at h
 ·apply Classical.byContradiction;intro g
  rw[yM aD] at h;cases h
def IV(k:Nat)(l:List Bool):List (Nat×Nat):=(List.range l.length).filterMap fun i=>if l.getD i false then some (k,i) else none
def kept(s:S):List (Nat×Nat):=(List.range s.length).flatMap fun k=>IV k (s.getD k [])
theorem nA{s:S}{k i:Nat}:(k,i)∈kept s↔keeps s k i=true:=by
 unfold kept IV;simp only[List.mem_flatMap,List.mem_range,List.mem_filterMap];constructor
 ·rintro ⟨a,_,b,_,h⟩
  split at h
  ·rename_i g
   cases h;exact g
  ·cases h
 ·intro h
  have:=Dg h;exact⟨k,this.1,i,this.2,by unfold keeps at h;rw[if_pos h]⟩
theorem Ob(k:Nat)(l:List Bool):(IV k l).Nodup:=by
 unfold IV;refine List.Pairwise.filterMap _ (fun a f h b d g c=>?_) (List.nodup_range (n:=l.length));split at d
 ·split at c
  ·cases d;cases c
   intro e;injection e with _ e2;exact h e2
  ·cases c
 ·cases d
theorem xH(s:S):(kept s).Nodup:=by
 unfold kept;refine List.pairwise_flatMap.2 ⟨fun k _=>Ob k _,List.nodup_range.imp (fun {k k'} h x hx y a e=>?_)⟩;subst e;unfold IV at hx a;simp only[List.mem_filterMap] at hx a;obtain⟨i,_,b⟩:=hx;obtain⟨j,_,c⟩:=a;split at b
 ·split at c
  ·have d:=oO b
   have f:=oO c;rw[<-f] at d;injection d with e5 _;exact h e5
  ·cases c
 ·cases b
def size(s:S):Nat:=(kept s).length
theorem length_le_of_subset{α:Type}[DecidableEq α]{l m:List α}(h:l.Nodup)(a:∀x∈l,x∈m):l.length<=m.length:=by
 induction l generalizing m with
 |nil=>simp
 |cons x l ih=>
  have hx:x∈m:=a x bH
  have b:=List.nodup_cons.1 h
  have:=ih (m:=m.erase x) b.2 (fun y c=>(List.mem_erase_of_ne (by intro e;subst e;exact b.1 c)).2 (a y (by simp[c])))
  rw[List.length_erase_of_mem hx] at this
  have:0<m.length:=List.length_pos_of_mem hx
  simp only[zxg]
  omega
theorem size_le{s t:S}(h:le s t):size s<=size t:=
 length_le_of_subset (xH s) fun x hx=>by obtain⟨k,i⟩:=x;exact nA.2 (h k i (nA.1 hx))
theorem Rg{s t:S}(h:le s t){k i:Nat}(h1:keeps t k i=true)(h2:keeps s k i=false):size s<size t:=by
 have:((k,i)::kept s).length<=(kept t).length:=length_le_of_subset
  (List.nodup_cons.2 ⟨fun c=>absurd (nA.1 c) (by rw[h2];simp),xH s⟩) fun x hx=>by
   rcases mr.1 hx with e|hx
   ·rw[e];exact nA.2 h1
   ·obtain⟨a,b⟩:=x;exact nA.2 (h a b (nA.1 hx))
 simp only[zxg] at this;unfold size;omega
theorem IW{b:List Nat}{s t:S}(c:Fit b s)(d:Fit b t)(h:le s t)(a:s≠t):∃k i,keeps t k i=true/\keeps s k i=false:=by
 apply Classical.byContradiction;intro g;refine a (le_antisymm c d h fun k i f=>?_);cases e:keeps s k i
 ·exact absurd ⟨k,i,f,e⟩ g
 ·rfl
def pass(W:S->Nat->Nat->Bool):List (Nat×Nat)->S->S
 |[],s=>s
 |x::l,s=>pass W l (if W s x.1 x.2 then drop s x.1 x.2 else s)
theorem qR{W:S->Nat->Nat->Bool}{a:List Nat}:∀(l:List (Nat×Nat)) {s:S},Fit a s->Fit a (pass W l s)
 |[],_,h=>h
 |x::l,s,h=>qR l (by split;exact YF h _ _;exact h)
theorem rY{W:S->Nat->Nat->Bool}:∀(l:List (Nat×Nat)) (s:S),le (pass W l s) s
 |[],s=>le.refl s
 |x::l,s=>by
  unfold pass;split
  ·exact(rY l _).trans (Rf _ _ _)
  ·exact rY l s
def rZ(W:S->Nat->Nat->Bool):Nat->S->S
 |0,s=>s
 |n+1,s=>if pass W (kept s) s=s then s else rZ W n (pass W (kept s) s)
def great(W:S->Nat->Nat->Bool)(s:S):S:=rZ W (size s) s
theorem Ae{W:S->Nat->Nat->Bool}{b:List Nat}{l:List (Nat×Nat)}{s:S}(a:Fit b s)(h:pass W l s≠s):size (pass W l s)<size s:=by
 obtain⟨k,i,c,d⟩:=IW (qR l a) a (rY l s) h;exact Rg (rY l s) c d
theorem Bc{W:S->Nat->Nat->Bool}{a:List Nat}:∀(n m:Nat) {s:S},Fit a s->size s<=n->size s<=m->rZ W n s=rZ W m s
 |0,0,_,_,_,_=>rfl
 |0,m+1,s,hs,hn,_=>by
  have h:kept s=[]:=zxh (by unfold size at hn;omega);unfold rZ;rw[h];simp[pass]
 |n+1,0,s,hs,_,hm=>by
  have h:kept s=[]:=zxh (by unfold size at hm;omega);unfold rZ;rw[h];simp[pass]
 |n+1,m+1,s,hs,hn,hm=>by
  unfold rZ;split
  ·rfl
  ·rename_i h
   have:=Ae (l:=kept s) (W:=W) hs h;exact Bc n m (qR _ hs) aD aD
theorem Oc{W:S->Nat->Nat->Bool}{b:List Nat}{s:S}(a:Fit b s):great W s=if pass W (kept s) s=s then s else great W (pass W (kept s) s):=by
 unfold great;by_cases h:pass W (kept s) s=s
 ·rw[if_pos h]
  cases e:size s with
  |zero=>rfl
  |succ n=>unfold rZ;rw[if_pos h]
 ·rw[if_neg h]
  have:=Ae (l:=kept s) (W:=W) a h;cases e:size s with
  |zero=>omega
  |succ n=>
   rw[rZ,if_neg h]
   exact Bc _ _ (qR _ a) aD aL
end Sub
end Go.Proofs.YtohddpbgflgiaaaGreatDoor
namespace Go.Proofs.YtohddpbgflgiaaaGreatDoor
open Go.RowKit
def ai3(k:Nat)(n:Nat):List (Int×Int):=(List.range n).map fun i:Nat=>((k:Int),(i:Int))
def ad7(W:aC.dw):Nat->List (Int×Int)
 |0=>[]
 |k+1=>ad7 W k++ai3 k (W.getD k []).length
def lX(W:aC.dw):List (Int×Int):=ad7 W W.length
theorem si(W:aC.dw)(k:Nat):aC.total (W.take k)<=aC.total W:=by
 have:aC.total (W.take k++W.drop k)=aC.total (W.take k)+aC.total (W.drop k):=by simp only[aC.total,zxj,List.sum_append]
 rw[List.take_append_drop] at this;omega
abbrev pq(S:Nat->Prop):=eA (fun _ u (x:Bool)=>u=.bool x) S
abbrev nU(S:Nat->Prop):=eA (pq S) S
theorem pq.keep{S w w' v xs}(h:pq S w v xs)(a:aH S w w'):pq S w' v xs:=eA.keep h a fun _ _ h=>h
theorem pq.mono{S S' w v xs}(h:pq S w v xs)(a:∀b,b<w.heap.size->S b->S' b):pq S' w v xs:=eA.mono h a fun _ _ h=>h
theorem nU.keep{S w w' v xs}(h:nU S w v xs)(a:aH S w w'):nU S w' v xs:=eA.keep h a fun _ _ h=>pq.keep h a
theorem nU.mono{S S' w v xs}(h:nU S w v xs)(a:∀b,b<w.heap.size->S b->S' b):nU S' w v xs:=eA.mono h a fun _ _ h=>pq.mono h a
def ku(S:Nat->Prop)(w:World)(v:Value)(xs:List Bool):Prop:=
 w.ownsRow 0 4 1 v xs.length (xs.map (Value.bool))/\∀b,v.ownBlock=some b->S b
theorem gW:fA (α:=List Bool) ku:=
 ⟨fun h k=>⟨dZ h.1 h.2 k,h.2⟩,fun h k=>⟨h.1,fun b a=>k b (h.1.lt b a).2 (h.2 b a)⟩⟩
theorem ku.sl{S:Nat->Prop}{w:World}{v:Value}{xs:List Bool}(h:ku S w v xs):pq S w v xs:=
 oV h.1 h.2 bH (fun j a b=>by simp)
theorem ku.nil(S:Nat->Prop)(w:World):ku S w (.slice none 0 0) []:=⟨World.ownsRow_nil _ _ _ _,fun b a=>by simp[Value.ownBlock] at a⟩
abbrev pu:=jv ku 121
theorem gB:fA (α:=List (List Bool)) pu:=tI gW _
theorem pu.sl{S:Nat->Prop}{w:World}{v:Value}{xs:List (List Bool)}(h:pu S w v xs):nU S w v xs:=jv.sl (R:=fun S=>pq S) gW (fun h=>ku.sl h) h
theorem Tryz.appB:kF prog 121 4 1 1:=jV (z:=.bool false) zK zK rfl aD aD
section
variable {P:Program} {t e:TypeId} {bytes:Nat} {α:Type} {RR:(Nat->Prop)->World->Value->α->Prop} {w:World} {ops:Array Oper} {rest:List Oper} {o:Oper} {a:Act} {Q:Exit->Act->World->Prop}
theorem KW(l:o.guard=none)(s x:Operand)
  (C:o.op=.call {callee:=.builtin .append,args:=#[s,x],argTypes:=#[t,t]})(D:kF P t 4 1 bytes)
  {S:Nat->Prop}{w1:World}{v:Value}{xs:List Bool}(E:a.eval s=v)(e:ku S w1 v xs)(r:BL w1 w)
  {n:Option Addr}{m c:Nat}(hx:a.eval x=.slice n m c){T:Nat->Prop}{ys:List Bool}(F:pq T w (.slice n m c) ys)
  (f:xs.length+m<=1000000000)
  (h:∀k g,ku (Grow S w1.heap.size) g k (xs++ys)->Turns (fun b=>some b=v.ownBlock) w g->wpList P ops Q rest (a.put o.dst k) g):
  wpList P ops Q (o::rest) a w:=by
 obtain⟨rfl,p,z,A,l2,G⟩:=eA.news F
 have B:z=ys.map (Value.bool):=by
  refine alW (by simp[A]) (fun i q g2=>?_);simpa using G i q Kh
 have hsz:=r.size;have f2':w.ownsRow 0 4 1 v xs.length (xs.map (Value.bool)):=dZ (S:=fun _=>True) e.1 (fun _ _=>trivial) (aH.below r);refine amL l s x C D E f2' n ys.length c hx p z (by simpa using A) l2 ?_ f (zxa _) (fun k g q g2 j=>h k g ⟨?_,fun b d=>?_⟩ (Turns.gy g2 fun b d=>d.symm))
 ·rw[B];intro u H;obtain⟨y,_,rfl⟩:=List.mem_map.1 H;rfl
 ·rw[rK,zxj,<-B];exact q
 ·rcases j with j|j
  ·rw[j] at d;exact .inl ⟨e.2 b d,(e.1.lt b d).2⟩
  ·rw[j] at d;exact .inr (by have:=oO d;omega)
end
def nX(W:aC.dw):Sub.S:=W.map fun rows=>List.replicate rows.length true
theorem BR(n:Nat):madeCells (Value.bool false).cells (n*1)=(List.replicate n (Value.bool false)).toArray:=by
 apply Array.ext
 ·simp[madeCells,Value.cells]
 ·intro i a b
  simp[madeCells,Value.cells,Nat.mod_one]
theorem Di{P:Program}{t e:TypeId}{b:Nat}(c:P.underlying t=some (.slice e))(d:(P.info? e).map (fun i=>(i.zero,i.size,i.bytes))=some (some (.bool false),1,b))(l:b<=1000)
  (n:Nat)(hn:n<=1000000)(w:World):
  (Instr.makeSlice t (.int .i64 (n:Int)) (.int .i64 (n:Int))).run P w=.ok (.slice (some ⟨w.heap.size,0,none⟩) n n) (w.alloc (.cells (List.replicate n (Value.bool false)).toArray e)):=by
 obtain⟨i,f,g,j,m⟩:=info_parts d
 have k:(i.bytes:Int)*(n:Int)<=281474976710656:=by
  exact aeu
 have a:=run_make (P:=P) w t e i (.bool false) c f g .i64 .i64 (n:Int) (n:Int) aD aD k aD;rw[j,zxk,BR] at a;exact a
theorem ku.set{S:Nat->Prop}{w:World}{g n cap:Nat}{xs:List Bool}(h:ku S w (.slice (some ⟨g,0,none⟩) n cap) xs)(a:n=xs.length)(j:Nat)(x:Bool):
  ku S (w.setCell ⟨g,j,none⟩ (.bool x)) (.slice (some ⟨g,0,none⟩) n cap) (xs.set j x):=by
 subst a;refine⟨?_,h.2⟩;rw[zxl,List.map_set];exact wC h.1 j _
end Go.Proofs.YtohddpbgflgiaaaGreatDoor
namespace Go.Proofs.YtohddpbgflgiaaaGreatDoor.Vm
open aC (dw cE)
open Go.RowKit (wrap64)
structure Ins where
 op:Int
 a:Int
 b:Int
 c:Int
def YH(W:dw)(k:Int):Nat:=(W.getD k.toNat []).length
def valI(W:dw)(k i f:Int):Int:=((W.getD k.toNat []).getD i.toNat []).getD f.toNat 0
def Dj(r:List Int)(k:Int):Int:=r.getD k.toNat 0
def YI(r:List Int)(k v:Int):List Int:=r.set k.toNat v
def step(W:dw)(i:Ins)(r:List Int)(n:Nat):Option Int×List Int×Nat:=
 if i.op=0 then (some i.a,r,n)
 else if i.op=1 then (none,YI r i.a i.b,n)
 else if i.op=2 then (none,YI r i.a (wrap64 (Dj r i.b+Dj r i.c)),n)
 else if i.op=3 then (none,YI r i.a (wrap64 (Dj r i.b-Dj r i.c)),n)
 else if i.op=4 then (none,YI r i.a (YH W i.b),n)
 else if i.op=5 then (if Dj r i.a<0\/(YH W i.b:Int)<=Dj r i.a then (some 251,r,n) else (none,YI r i.a (valI W i.b (Dj r i.a) i.c),n))
 else if i.op=6 then (none,r,i.a.toNat)
 else if i.op=7 then (none,r,if Dj r i.a<Dj r i.b then i.c.toNat else n)
 else (none,r,if Dj r i.a=Dj r i.b then i.c.toNat else n)
end Go.Proofs.YtohddpbgflgiaaaGreatDoor.Vm
namespace Go.Proofs.YtohddpbgflgiaaaGreatDoor.bU
open aC (dw cE)
structure Ref where
 kind:Nat
 field:Nat
 up:Int
 least:Int
def yO(x:cE)(k j:Nat):List Ref:=if (aC.fd x k j).kind=1 then [⟨k,j,aC.eD x k j,(aC.fd x k j).lo⟩] else []
def kA(x:cE)(k n:Nat):List Ref:=(List.range n).flatMap (yO x k)
def oh(x:cE)(n:Nat):List Ref:=(List.range n).flatMap fun k=>kA x k (aC.kd x k).aF.length
def fS(x:cE):List Ref:=oh x x.ah.length
theorem Dk(x:cE)(k:Nat):kA x k 0=[]:=rfl
theorem py(x:cE)(k n:Nat):kA x k (n+1)=kA x k n++yO x k n:=by simp[kA,zxs]
theorem xI(x:cE)(n:Nat):oh x (n+1)=oh x n++kA x n (aC.kd x n).aF.length:=by simp[oh,zxs]
theorem Af{x:cE}{k j:Nat}(h:(aC.fd x k j).kind=1):yO x k j=[⟨k,j,aC.eD x k j,(aC.fd x k j).lo⟩]:=if_pos h
theorem KX{x:cE}{k j:Nat}(h:¬(aC.fd x k j).kind=1):yO x k j=[]:=if_neg h
def wM(W:dw)(k i j:Nat):Int:=((W.getD k []).getD i []).getD j 0
def uy(W:dw)(s:Sub.S)(r:Ref)(i:Int)(n:Nat):Nat:=((List.range n).filter fun a=>Sub.keeps s r.kind a&&decide (wM W r.kind a r.field=i)).length
def Ri(W:dw)(s:Sub.S)(r:Ref)(i:Int):Nat:=uy W s r i (W.getD r.kind []).length
def Dl(W:dw)(s:Sub.S)(k i:Nat)(r:Ref):Bool:=
 (decide (r.kind=k)&& !Sub.keeps s r.up.toNat (wM W k i r.field).toNat)||(decide (r.up=k)&&decide ((Ri W s r i:Int)<r.least))
def wrong(rs:List Ref)(W:dw)(s:Sub.S)(k i:Nat):Bool:=rs.any (Dl W s k i)
def sV(x:cE)(W:dw):Bool:=
 decide (W.length=x.ah.length)&&(List.range W.length).all (fun k=>(W.getD k []).all fun r=>decide (r.length=(aC.kd x k).aF.length))&&
 (fS x).all (fun r=>(W.getD r.kind []).all fun l=>decide (0<=l.getD r.field 0)&&decide (l.getD r.field 0<aC.gK W r.up))&&decide (aC.total W<=512)
def sj(W:dw)(s:Sub.S):Bool:=decide (W.map List.length=s.map List.length)
def shape(W:dw):List Nat:=W.map List.length
theorem Og{W:dw}{s:Sub.S}(h:sj W s=true):Sub.Fit (shape W) s:=by
 have h:=of_decide_eq_true h;refine⟨by simpa [shape] using (congrArg List.length h).symm,fun k=>?_⟩;have a:=congrArg (fun l=>l.getD k 0) h;simp only[iY,alY,shape] at a ⊢;rw[a];cases s[k]?<;>rfl
theorem Oh{W:dw}{s:Sub.S}(h:Sub.Fit (shape W) s):sj W s=true:=by
 refine decide_eq_true (alW (by simpa [shape] using h.1.symm) fun k a b=>?_);have c:=h.2 k;simp only[sM] at a b;simp only[iY,alY,shape,lN a,lN b,zOg,Option.map_some] at c;rw[zxo,zxo];exact c.symm
def Ag(x:cE)(W:dw)(s:Sub.S):Int:=if aC.okB x=true then (if sV x W=true then (if sj W s=true then 0 else 1) else 2) else 1
structure jE(x:cE)(W:dw):Prop where
 ah:x.ah.length<=6
 aF:∀k:Nat,(aC.kd x k).aF.length<=10
 refs:∀r∈fS x,r.kind<x.ah.length/\r.field<(aC.kd x r.kind).aF.length/\0<=r.up/\r.up<r.kind/\0<=r.least/\r.least<=65536/\(aC.fd x r.kind r.field).kind=1/\r.up=aC.eD x r.kind r.field
 len:W.length=x.ah.length
 lX:∀k (h:k<W.length),∀r∈W[k],r.length=(aC.kd x k).aF.length
 lead:∀r∈fS x,∀i (h:r.kind<W.length) (_hi:i<W[r.kind].length),0<=wM W r.kind i r.field/\wM W r.kind i r.field<aC.gK W r.up
 tot:aC.total W<=512
theorem Gp{x:cE}{r:Ref}(h:r∈fS x):r.kind<x.ah.length/\r.field<(aC.kd x r.kind).aF.length/\(aC.fd x r.kind r.field).kind=1/\r.up=aC.eD x r.kind r.field/\r.least=(aC.fd x r.kind r.field).lo:=by
 unfold fS oh at h;rw[List.mem_flatMap] at h;obtain⟨k,a,h⟩:=h;unfold kA at h;rw[List.mem_flatMap] at h;obtain⟨j,b,h⟩:=h;rw[List.mem_range] at a b;unfold yO at h;split at h
 ·rename_i c
  rw[nL] at h;subst h;exact⟨a,b,c,rfl,rfl⟩
 ·simp at h
theorem KY{x:cE}{k j:Nat}(a:k<x.ah.length)(b:j<(aC.kd x k).aF.length)(h1:(aC.fd x k j).kind=1):(⟨k,j,aC.eD x k j,(aC.fd x k j).lo⟩:Ref)∈fS x:=by
 unfold fS oh;refine List.mem_flatMap.2 ⟨k,List.mem_range.2 a,?_⟩;unfold kA;refine List.mem_flatMap.2 ⟨j,List.mem_range.2 b,?_⟩;rw[Af h1];simp
theorem Ah{x:cE}(h:aC.okB x=true):aC.mH x=0/\(∀i,i<x.ah.length->aC.wF x i=0/\∀j,j<(aC.kd x i).aF.length->aC.nR x i j=0):=by
 unfold aC.okB at h;simp only[pR,oW,alU,List.mem_range] at h;exact⟨h.1.1.1,fun i a=>⟨(h.1.2 i a).1,fun j b=>(h.1.2 i a).2 j b⟩⟩
theorem uD{x:cE}(h:aC.mH x=0):x.ah.length<=6/\x.aV.length<=6/\x.aX.length<=16/\∀k∈x.ah,aC.qF k=true:=by
 unfold aC.mH at h;split at h
 ·rename_i a
  unfold aC.ql at a;simp only[pR,oW,alU] at a;exact⟨a.1.1.1.1.1.2,a.1.1.1.1.2,a.1.1.1.2,a.1.1.2⟩
 ·omega
theorem YJ{x:cE}{k:Nat}(h:k<x.ah.length):aC.kd x k∈x.ah:=by
 unfold aC.kd;rw[zxk,iY,lN h];exact eV h
theorem afZ{x:cE}{k:Nat}(h:¬k<x.ah.length):aC.kd x k=aC.QC:=by
 unfold aC.kd;rw[zxk,iY,zxr aD];rfl
theorem af0{x:cE}{k j:Nat}(h:j<(aC.kd x k).aF.length):aC.fd x k j∈(aC.kd x k).aF:=by
 unfold aC.fd;rw[zxk,iY,lN h];exact eV h
theorem pE{k:aC.fT}(h:aC.qF k=true):k.aF.length<=10/\∀f∈k.aF,aC.dD f=true:=by
 unfold aC.qF at h;simp only[pR,oW,alU] at h;exact⟨h.1.2,h.2⟩
theorem YK{f:aC.dA}(h:aC.dD f=true)(a:f.kind=1):0<=f.lo/\f.lo<=65536:=by
 unfold aC.dD aC.kZ at h;rw[a] at h;simp[aC.ig] at h;omega
theorem YL{x:cE}{W:dw}(h:aC.okB x=true)(d:sV x W=true):jE x W:=by
 obtain⟨o,p⟩:=Ah h;obtain⟨q, -, -,m⟩:=uD o;unfold sV at d;simp only[pR,oW,alU,List.mem_range] at d;obtain⟨⟨⟨f1,f2⟩,s⟩,t⟩:=d;have af3:∀{k:Nat} (a:k<W.length),W.getD k []=W[k]:=fun {k} a=>by rw[iY,lN a];rfl
 refine⟨q,fun k=>?_,fun r b=>?_,f1,fun k a r b=>f2 k a r (by rw[af3 a];exact b),fun r b i a n=>?_,t⟩
 ·by_cases a:k<x.ah.length
  ·exact(pE (m _ (YJ a))).1
  ·rw[afZ a];exact zxa _
 ·obtain⟨f,g,j,u,A⟩:=Gp b
  have c:=(p _ f).2 _ g
  have v:0<=aC.eD x r.kind r.field:=by
   unfold aC.nR at c;split at c
   ·omega
   ·unfold aC.mC at c
    simp only[j] at c;by_cases w:aC.eD x r.kind r.field<0
    ·simp[w] at c
    ·omega
  have y:=YK ((pE (m _ (YJ f))).2 _ (af0 g)) j;have z:=aC.Ab x r.kind r.field aD;exact⟨f,g,aD,aD,aD,aD,j,u⟩
 ·have:=s r b W[r.kind][i] (by rw[af3 a];exact eV n)
  have e:wM W r.kind i r.field=W[r.kind][i].getD r.field 0:=by
   unfold wM;rw[af3 a,iY (l:=W[r.kind]),lN n];rfl
  rw[e];exact this
theorem Gq{x:cE}(b:x.ah.length<=6)(a:∀k:Nat,(aC.kd x k).aF.length<=10):∀n,n<=x.ah.length->(oh x n).length<=10*n
 |0,_=>aL
 |n+1,hn=>by
  have d:=Gq b a n aD
  have c:∀(k m:Nat),(kA x k m).length<=m:=fun k m=>by
   induction m with
   |zero=>exact aL
   |succ m ihm=>
    rw[py,rK]
    have:(yO x k m).length<=1:=by unfold yO;split<;>simp
    omega
  rw[xI,rK];have:=c n (aC.kd x n).aF.length;have:=a n;omega
theorem jE.many{x:cE}{W:dw}(h:jE x W):(fS x).length<=60:=by
 have:=Gq h.ah h.aF x.ah.length aL;unfold fS;have:=h.ah;omega
end Go.Proofs.YtohddpbgflgiaaaGreatDoor.bU
namespace Go.Proofs.YtohddpbgflgiaaaGreatDoor.bU
open aC
structure kV(x:cE)(W:dw):Prop where
 ah:x.ah.length<=6
 aF:∀k:Nat,(aC.kd x k).aF.length<=10
 refs:∀r∈fS x,r.kind<x.ah.length/\r.field<(aC.kd x r.kind).aF.length/\0<=r.up/\r.up<r.kind/\0<=r.least/\r.least<=65536/\(aC.fd x r.kind r.field).kind=1/\r.up=aC.eD x r.kind r.field
 len:W.length=x.ah.length
 lX:∀k (h:k<W.length),∀r∈W[k],r.length=(aC.kd x k).aF.length
 tot:aC.total W<=512
theorem jE.shape{x:cE}{W:dw}(h:jE x W):kV x W:=⟨h.ah,h.aF,h.refs,h.len,h.lX,h.tot⟩
def mD(W:dw)(f:Nat)(u:Int)(y:List Int):Bool:=decide (0<=y.getD f 0)&&decide (y.getD f 0<aC.gK W u)
def kB(x:cE)(W:dw):Bool:=(fS x).all fun r=>(W.getD r.kind []).all (mD W r.field r.up)
theorem qV{x:cE}{W:dw}:jE x W↔kV x W/\kB x W=true:=by
 constructor
 ·intro h
  refine⟨h.shape,?_⟩;unfold kB;simp only[alU];intro r b y g;obtain⟨i,a,rfl⟩:=zxf g;have c:r.kind<W.length:=by rw[h.len];exact(h.refs r b).1
  have e:W.getD r.kind []=W[r.kind]:=by rw[iY,lN c];rfl
  have d:i<W[r.kind].length:=by rw[<-e];exact a
  have:=h.lead r b i c d;unfold wM at this;rw[iY (l:=W.getD r.kind []),lN a,zOg] at this;unfold mD;rw[decide_eq_true this.1,decide_eq_true this.2];rfl
 ·rintro ⟨h,f⟩
  refine⟨h.ah,h.aF,h.refs,h.len,h.lX,fun r b i c a=>?_,h.tot⟩;unfold kB at f;simp only[alU] at f;have e:W.getD r.kind []=W[r.kind]:=by rw[iY,lN c];rfl
  have:=f r b W[r.kind][i] (by rw[e];exact eV a);unfold mD at this;simp only[pR,oW] at this;unfold wM;rw[e,iY (l:=W[r.kind]),lN a,zOg];exact this
end Go.Proofs.YtohddpbgflgiaaaGreatDoor.bU
namespace Go.Proofs.YtohddpbgflgiaaaGreatDoor
open Go.RowKit
theorem ad8{us:List Value}(h:us.length=2):∃a b,us=[a,b]:=by
 match us,h with
 |[a,b],_=>exact⟨a,b,rfl⟩
theorem ad9{us:List Value}(h:us.length=3):∃a b c,us=[a,b,c]:=by
 match us,h with
 |[a,b,c],_=>exact⟨a,b,c,rfl⟩
theorem aea{us:List Value}(h:us.length=4):∃a b c d,us=[a,b,c,d]:=by
 match us,h with
 |[a,b,c,d],_=>exact⟨a,b,c,d,rfl⟩
theorem aeb{us:List Value}(h:us.length=5):∃a b c d e,us=[a,b,c,d,e]:=by
 match us,h with
 |[a,b,c,d,e],_=>exact⟨a,b,c,d,e,rfl⟩
theorem aec{us:List Value}(h:us.length=8):∃a b c d e f g i,us=[a,b,c,d,e,f,g,i]:=by
 match us,h with
 |[a,b,c,d,e,f,g,i],_=>exact⟨a,b,c,d,e,f,g,i,rfl⟩
theorem nC{α:Type}(p:α->Bool)(F:List α):decide (0<=aC.iN p F 0)=F.any p:=by
 rcases aC.jS p F with⟨a,b⟩|⟨k,c,a,b,e⟩
 ·rw[a]
  have:F.any p=false:=by
   rw[List.any_eq_false];intro x hx;obtain⟨j,d,rfl⟩:=zxf hx;rw[b j d];simp
  rw[this];decide
 ·rw[a,List.any_eq_true.2 ⟨_,eV c,b⟩]
  exact decide_eq_true aD
theorem kS{α:Type}(p:α->Bool)(F:List α):aC.iN p F 0<F.length\/aC.iN p F 0= -1:=by
 rcases aC.jS p F with⟨a,b⟩|⟨k,c,a,b,d⟩
 ·exact .inr a
 ·exact .inl (by rw[a];omega)
theorem amH(h:p:=by
  have HE1:Hid (p F[k]=true->aC.iN p F 0=k):=hid (fun h=>by simpa using aC.pZ (i:=0) hlt (fun j hj hjk=>hpre.out j hj hjk) h)
  have HE2:Hid (p F[k]=false->∀j (h:j<F.length),j<k+1->p F[j]=false):=hid (fun h j hj hjk=>by
   by_cases e:j=k
   ·subst e;exact h
   ·exact hpre.out j hj aD)
  obtain⟨pb,hpb⟩:=bJ (p F[k])
  rw[<-hpb] at HC HE1 HE2
  clear hpb
  cases pb with
  |true=>
   have HE3:=hid (HE1.out rfl)
   clear HE1 HE2
   go_wp2_with fail
   refine HC.out.mono ?_
   rintro e w' ⟨rfl,hb2⟩
   have cH:=aR hb hb2
   clear hb2
   go_wp2
   go_ret
   exact⟨afq,cH.out⟩
  |false=>
   have HE3:=hid (HE2.out rfl)
   clear HE1 HE2
   go_wp2_with fail
   refine HC.out.mono ?_
   rintro e w' ⟨rfl,hb2⟩
   have cH:=aR hb hb2
   clear hb2
   go_wp2
   go_roundw
   case rel=>exact⟨k+1,aD,zG,HE3,cH⟩
   exact zI):p:=h
theorem Dm(h:p:=by
  have HE:Hid (aC.iN p F 0= -1):=hid (aC.oP fun j hj=>hpre.out j hj aD)
  obtain rfl:k=F.length:=aD
  go_wp2
  go_ret
  exact⟨wY,hb.out⟩):p:=h
theorem ad5(h:p:=by
  clear hx hx2 hl
  exact amH):p:=h
theorem YN{α:Type}{d:(Nat->Prop)->World->List Value->α->Prop}(o:dM d)(F:List α)(p:α->Bool)(v:Value)(S:Nat->Prop)(w:World)(f:fC 8 (d S) S w v F)(c:Nat)(g:Array Value)(u:∀args w,(callFunc c args).run prog w=.ok (.enter c args) w)
  (l:∀X,BL w X->∀j (h:j<F.length) b,b.length=8->d S X b F[j]->CP c (#[.agg b.toArray]++g) X fun e w'=>e=.returned (.bool (p F[j]))/\BL X w'):
  CB 99 #[v,.func (.func c) #[] g] w (.int .i64 (aC.iN p F 0)):=by
 have q:=hid f;obtain⟨a,cap,rfl,r,m,n⟩:=f.form;clear f;have HP:=hid l;clear l;go_enter func99,ntmps99;go_wp2;go_loopw [8] (fun i wr=>∃k:Nat,k<=F.length/\i=.int .i64 k/\Hid (∀j (h:j<F.length),j<k->p F[j]=false)/\Hid (BL w wr)) (fun i _=>F.length-(intOf i).toNat);case atStart=>exact⟨0,zxa _,rfl,hid fun j _ h=>absurd h aD,hid aG⟩
 case round=>
  obtain⟨k,x,rfl,hpre,hb⟩:=hrel;by_cases hlt:k<F.length
  ·have s:=zN k
   have t:=zL k F.length
   obtain⟨-,b,hl,hx,hx2⟩:=(fC.keep o q.out (aH.below hb.out)).at hlt;have HC:=hid (HP.out wr hb.out k hlt b hl hx2);obtain⟨u0,u1,u2,u3,u4,u5,u6,u7,rfl⟩:=aec hl;have y:wr.cell? ⟨bM a,bT a+k*8,none⟩=some u0:=hx 0 u0 rfl;have z:wr.cell? ⟨bM a,bT a+k*8+1,none⟩=some u1:=hx 1 u1 rfl;have A:wr.cell? ⟨bM a,bT a+k*8+2,none⟩=some u2:=hx 2 u2 rfl;have B:wr.cell? ⟨bM a,bT a+k*8+3,none⟩=some u3:=hx 3 u3 rfl;have C:wr.cell? ⟨bM a,bT a+k*8+4,none⟩=some u4:=hx 4 u4 rfl;have D:wr.cell? ⟨bM a,bT a+k*8+5,none⟩=some u5:=hx 5 u5 rfl;have E:wr.cell? ⟨bM a,bT a+k*8+6,none⟩=some u6:=hx 6 u6 rfl;have G:wr.cell? ⟨bM a,bT a+k*8+7,none⟩=some u7:=hx 7 u7 rfl;exact ad5
  ·exact Dm
theorem aez(h:p:=by
  go_wp2_with fail
  refine H.out.mono ?_
  rintro e w' ⟨rfl,hb⟩
  have HB:=hid hb
  clear hb
  go_wp2
  go_ret
  exact⟨gL HZ.out,HB.out⟩):p:=h
theorem abY{α:Type}{d:(Nat->Prop)->World->List Value->α->Prop}(k:dM d)(F:List α)(p:α->Bool)(v:Value)(S:Nat->Prop)(w:World)(hv:fC 8 (d S) S w v F)(c:Nat)(f:Array Value)(l:∀args w,(callFunc c args).run prog w=.ok (.enter c args) w)
  (i:∀X,BL w X->∀j (h:j<F.length) g,g.length=8->d S X g F[j]->CP c (#[.agg g.toArray]++f) X fun e w'=>e=.returned (.bool (p F[j]))/\BL X w'):
  CB 177 #[v,.func (.func c) #[] f] w (.bool (F.any p)):=by
 have H:=hid (YN k F p v S w hv c f l i);obtain⟨a,cap,rfl, -, -, -⟩:=hv.form;have HZ:=hid (nC p F);have HL:=hid (kS p F);have n:=aC.j8 p F 0;have o:(F.length:Int)<=9223372036854775807:=mT
 clear hv i;generalize aC.iN p F 0=z at*;generalize F.any p=b at*;have m:z<9223372036854775807:=abr
 go_enter func177,ntmps177;exact aez
theorem YO{α:Type}{d:(Nat->Prop)->World->List Value->α->Prop}(o:dM d)(F:List α)(p:α->Bool)(v:Value)(S:Nat->Prop)(w:World)(f:fC 4 (d S) S w v F)(c:Nat)(g:Array Value)(u:∀args w,(callFunc c args).run prog w=.ok (.enter c args) w)
  (l:∀X,BL w X->∀j (h:j<F.length) b,b.length=4->d S X b F[j]->CP c (#[.agg b.toArray]++g) X fun e w'=>e=.returned (.bool (p F[j]))/\BL X w'):
  CB 147 #[v,.func (.func c) #[] g] w (.int .i64 (aC.iN p F 0)):=by
 have q:=hid f;obtain⟨a,cap,rfl,r,m,n⟩:=f.form;clear f;have HP:=hid l;clear l;go_enter func147,ntmps147;go_wp2;go_loopw [8] (fun i wr=>∃k:Nat,k<=F.length/\i=.int .i64 k/\Hid (∀j (h:j<F.length),j<k->p F[j]=false)/\Hid (BL w wr)) (fun i _=>F.length-(intOf i).toNat);case atStart=>exact⟨0,zxa _,rfl,hid fun j _ h=>absurd h aD,hid aG⟩
 case round=>
  obtain⟨k,x,rfl,hpre,hb⟩:=hrel;by_cases hlt:k<F.length
  ·have s:=zN k
   have t:=zL k F.length
   obtain⟨-,b,hl,hx,hx2⟩:=(fC.keep o q.out (aH.below hb.out)).at hlt;have HC:=hid (HP.out wr hb.out k hlt b hl hx2);obtain⟨u0,u1,u2,u3,rfl⟩:=aea hl;have y:wr.cell? ⟨bM a,bT a+k*4,none⟩=some u0:=hx 0 u0 rfl;have z:wr.cell? ⟨bM a,bT a+k*4+1,none⟩=some u1:=hx 1 u1 rfl;have A:wr.cell? ⟨bM a,bT a+k*4+2,none⟩=some u2:=hx 2 u2 rfl;have B:wr.cell? ⟨bM a,bT a+k*4+3,none⟩=some u3:=hx 3 u3 rfl;exact ad5
  ·exact Dm
theorem abZ{α:Type}{d:(Nat->Prop)->World->List Value->α->Prop}(k:dM d)(F:List α)(p:α->Bool)(v:Value)(S:Nat->Prop)(w:World)(hv:fC 4 (d S) S w v F)(c:Nat)(f:Array Value)(l:∀args w,(callFunc c args).run prog w=.ok (.enter c args) w)
  (i:∀X,BL w X->∀j (h:j<F.length) g,g.length=4->d S X g F[j]->CP c (#[.agg g.toArray]++f) X fun e w'=>e=.returned (.bool (p F[j]))/\BL X w'):
  CB 131 #[v,.func (.func c) #[] f] w (.bool (F.any p)):=by
 have H:=hid (YO k F p v S w hv c f l i);obtain⟨a,cap,rfl, -, -, -⟩:=hv.form;have HZ:=hid (nC p F);have HL:=hid (kS p F);have n:=aC.j8 p F 0;have o:(F.length:Int)<=9223372036854775807:=mT
 clear hv i;generalize aC.iN p F 0=z at*;generalize F.any p=b at*;have m:z<9223372036854775807:=abr
 go_enter func131,ntmps131;exact aez
theorem af4{α:Type}{d:(Nat->Prop)->World->List Value->α->Prop}(o:dM d)(F:List α)(p:α->Bool)(v:Value)(S:Nat->Prop)(w:World)(f:fC 3 (d S) S w v F)(c:Nat)(g:Array Value)(u:∀args w,(callFunc c args).run prog w=.ok (.enter c args) w)
  (l:∀X,BL w X->∀j (h:j<F.length) b,b.length=3->d S X b F[j]->CP c (#[.agg b.toArray]++g) X fun e w'=>e=.returned (.bool (p F[j]))/\BL X w'):
  CB 97 #[v,.func (.func c) #[] g] w (.int .i64 (aC.iN p F 0)):=by
 have q:=hid f;obtain⟨a,cap,rfl,r,m,n⟩:=f.form;clear f;have HP:=hid l;clear l;go_enter func97,ntmps97;go_wp2;go_loopw [8] (fun i wr=>∃k:Nat,k<=F.length/\i=.int .i64 k/\Hid (∀j (h:j<F.length),j<k->p F[j]=false)/\Hid (BL w wr)) (fun i _=>F.length-(intOf i).toNat);case atStart=>exact⟨0,zxa _,rfl,hid fun j _ h=>absurd h aD,hid aG⟩
 case round=>
  obtain⟨k,x,rfl,hpre,hb⟩:=hrel;by_cases hlt:k<F.length
  ·have s:=zN k
   have t:=zL k F.length
   obtain⟨-,b,hl,hx,hx2⟩:=(fC.keep o q.out (aH.below hb.out)).at hlt;have HC:=hid (HP.out wr hb.out k hlt b hl hx2);obtain⟨u0,u1,u2,rfl⟩:=ad9 hl;have y:wr.cell? ⟨bM a,bT a+k*3,none⟩=some u0:=hx 0 u0 rfl;have z:wr.cell? ⟨bM a,bT a+k*3+1,none⟩=some u1:=hx 1 u1 rfl;have A:wr.cell? ⟨bM a,bT a+k*3+2,none⟩=some u2:=hx 2 u2 rfl;exact ad5
  ·exact Dm
theorem IX{α:Type}{d:(Nat->Prop)->World->List Value->α->Prop}(k:dM d)(F:List α)(p:α->Bool)(v:Value)(S:Nat->Prop)(w:World)(hv:fC 3 (d S) S w v F)(c:Nat)(f:Array Value)(l:∀args w,(callFunc c args).run prog w=.ok (.enter c args) w)
  (i:∀X,BL w X->∀j (h:j<F.length) g,g.length=3->d S X g F[j]->CP c (#[.agg g.toArray]++f) X fun e w'=>e=.returned (.bool (p F[j]))/\BL X w'):
  CB 53 #[v,.func (.func c) #[] f] w (.bool (F.any p)):=by
 have H:=hid (af4 k F p v S w hv c f l i);obtain⟨a,cap,rfl, -, -, -⟩:=hv.form;have HZ:=hid (nC p F);have HL:=hid (kS p F);have n:=aC.j8 p F 0;have o:(F.length:Int)<=9223372036854775807:=mT
 clear hv i;generalize aC.iN p F 0=z at*;generalize F.any p=b at*;have m:z<9223372036854775807:=abr
 go_enter func53,ntmps53;exact aez
theorem af5{α:Type}{d:(Nat->Prop)->World->List Value->α->Prop}(o:dM d)(F:List α)(p:α->Bool)(v:Value)(S:Nat->Prop)(w:World)(f:fC 5 (d S) S w v F)(c:Nat)(g:Array Value)(u:∀args w,(callFunc c args).run prog w=.ok (.enter c args) w)
  (l:∀X,BL w X->∀j (h:j<F.length) b,b.length=5->d S X b F[j]->CP c (#[.agg b.toArray]++g) X fun e w'=>e=.returned (.bool (p F[j]))/\BL X w'):
  CB 149 #[v,.func (.func c) #[] g] w (.int .i64 (aC.iN p F 0)):=by
 have q:=hid f;obtain⟨a,cap,rfl,r,m,n⟩:=f.form;clear f;have HP:=hid l;clear l;go_enter func149,ntmps149;go_wp2;go_loopw [8] (fun i wr=>∃k:Nat,k<=F.length/\i=.int .i64 k/\Hid (∀j (h:j<F.length),j<k->p F[j]=false)/\Hid (BL w wr)) (fun i _=>F.length-(intOf i).toNat);case atStart=>exact⟨0,zxa _,rfl,hid fun j _ h=>absurd h aD,hid aG⟩
 case round=>
  obtain⟨k,x,rfl,hpre,hb⟩:=hrel;by_cases hlt:k<F.length
  ·have s:=zN k
   have t:=zL k F.length
   obtain⟨-,b,hl,hx,hx2⟩:=(fC.keep o q.out (aH.below hb.out)).at hlt;have HC:=hid (HP.out wr hb.out k hlt b hl hx2);obtain⟨u0,u1,u2,u3,u4,rfl⟩:=aeb hl;have y:wr.cell? ⟨bM a,bT a+k*5,none⟩=some u0:=hx 0 u0 rfl;have z:wr.cell? ⟨bM a,bT a+k*5+1,none⟩=some u1:=hx 1 u1 rfl;have A:wr.cell? ⟨bM a,bT a+k*5+2,none⟩=some u2:=hx 2 u2 rfl;have B:wr.cell? ⟨bM a,bT a+k*5+3,none⟩=some u3:=hx 3 u3 rfl;have C:wr.cell? ⟨bM a,bT a+k*5+4,none⟩=some u4:=hx 4 u4 rfl;exact ad5
  ·exact Dm
theorem Rj{α:Type}{d:(Nat->Prop)->World->List Value->α->Prop}(k:dM d)(F:List α)(p:α->Bool)(v:Value)(S:Nat->Prop)(w:World)(hv:fC 5 (d S) S w v F)(c:Nat)(f:Array Value)(l:∀args w,(callFunc c args).run prog w=.ok (.enter c args) w)
  (i:∀X,BL w X->∀j (h:j<F.length) g,g.length=5->d S X g F[j]->CP c (#[.agg g.toArray]++f) X fun e w'=>e=.returned (.bool (p F[j]))/\BL X w'):
  CB 101 #[v,.func (.func c) #[] f] w (.bool (F.any p)):=by
 have H:=hid (af5 k F p v S w hv c f l i);obtain⟨a,cap,rfl, -, -, -⟩:=hv.form;have HZ:=hid (nC p F);have HL:=hid (kS p F);have n:=aC.j8 p F 0;have o:(F.length:Int)<=9223372036854775807:=mT
 clear hv i;generalize aC.iN p F 0=z at*;generalize F.any p=b at*;have m:z<9223372036854775807:=abr
 go_enter func101,ntmps101;exact aez
theorem af6{α:Type}{d:(Nat->Prop)->World->List Value->α->Prop}(o:dM d)(F:List α)(p:α->Bool)(v:Value)(S:Nat->Prop)(w:World)(f:fC 2 (d S) S w v F)(c:Nat)(g:Array Value)(u:∀args w,(callFunc c args).run prog w=.ok (.enter c args) w)
  (l:∀X,BL w X->∀j (h:j<F.length) b,b.length=2->d S X b F[j]->CP c (#[.agg b.toArray]++g) X fun e w'=>e=.returned (.bool (p F[j]))/\BL X w'):
  CB 220 #[v,.func (.func c) #[] g] w (.int .i64 (aC.iN p F 0)):=by
 have q:=hid f;obtain⟨a,cap,rfl,r,m,n⟩:=f.form;clear f;have HP:=hid l;clear l;go_enter func220,ntmps220;go_wp2;go_loopw [8] (fun i wr=>∃k:Nat,k<=F.length/\i=.int .i64 k/\Hid (∀j (h:j<F.length),j<k->p F[j]=false)/\Hid (BL w wr)) (fun i _=>F.length-(intOf i).toNat);case atStart=>exact⟨0,zxa _,rfl,hid fun j _ h=>absurd h aD,hid aG⟩
 case round=>
  obtain⟨k,x,rfl,hpre,hb⟩:=hrel;by_cases hlt:k<F.length
  ·have s:=zN k
   have t:=zL k F.length
   obtain⟨-,b,hl,hx,hx2⟩:=(fC.keep o q.out (aH.below hb.out)).at hlt;have HC:=hid (HP.out wr hb.out k hlt b hl hx2);obtain⟨u0,u1,rfl⟩:=ad8 hl;have y:wr.cell? ⟨bM a,bT a+k*2,none⟩=some u0:=hx 0 u0 rfl;have z:wr.cell? ⟨bM a,bT a+k*2+1,none⟩=some u1:=hx 1 u1 rfl;exact ad5
  ·exact Dm
theorem ab0{α:Type}{d:(Nat->Prop)->World->List Value->α->Prop}(k:dM d)(F:List α)(p:α->Bool)(v:Value)(S:Nat->Prop)(w:World)(hv:fC 2 (d S) S w v F)(c:Nat)(f:Array Value)(l:∀args w,(callFunc c args).run prog w=.ok (.enter c args) w)
  (i:∀X,BL w X->∀j (h:j<F.length) g,g.length=2->d S X g F[j]->CP c (#[.agg g.toArray]++f) X fun e w'=>e=.returned (.bool (p F[j]))/\BL X w'):
  CB 184 #[v,.func (.func c) #[] f] w (.bool (F.any p)):=by
 have H:=hid (af6 k F p v S w hv c f l i);obtain⟨a,cap,rfl, -, -, -⟩:=hv.form;have HZ:=hid (nC p F);have HL:=hid (kS p F);have n:=aC.j8 p F 0;have o:(F.length:Int)<=9223372036854775807:=mT
 clear hv i;generalize aC.iN p F 0=z at*;generalize F.any p=b at*;have m:z<9223372036854775807:=abr
 go_enter func184,ntmps184;exact aez
theorem Bd(h:p:=by
  go_wp2
  go_loopw [8] (fun i wr=>∃k:Nat,k<=F.length/\i=.int .i64 k/\Hid (∀j (h:j<F.length),j<k->p F[j]=false)/\Hid (BL w wr)) (fun i _=>F.length-(intOf i).toNat)
  case atStart=>exact⟨0,zxa _,rfl,hid fun j _ h=>absurd h aD,hid aG⟩
  case round=>
   obtain⟨k,hk,rfl,hpre,hb⟩:=hrel;by_cases hlt:k<F.length
   ·have hk0:=zN k
    have hk1:=zL k F.length
    obtain⟨u0,y0, -,hx2⟩:=(eA.keep (R:=RR S) HV.out (aH.below hb.out) (fun _ _ h=>hR.keep h (aH.below hb.out))).at hlt;have HC:=hid (HP.out wr hb.out k hlt u0 hx2);obtain⟨c0,rfl⟩:=hform _ _ _ hx2;clear hx2;exact amH
   ·exact Dm):p:=h
theorem ab1{α:Type}{RR:(Nat->Prop)->World->Value->α->Prop}(hR:fA RR)(F:List α)(p:α->Bool)(v:Value)(S:Nat->Prop)(w:World)(d:eA (RR S) S w v F)(hform:∀X u x,RR S X u x->∃c,u=.int .u8 c)(b:Nat)(f:Array Value)(o:∀args w,(callFunc b args).run prog w=.ok (.enter b args) w)
  (g:∀X,BL w X->∀j (h:j<F.length) u,RR S X u F[j]->CP b (#[u]++f) X fun e w'=>e=.returned (.bool (p F[j]))/\BL X w'):
  CB 217 #[v,.func (.func b) #[] f] w (.int .i64 (aC.iN p F 0)):=by
 have HV:=hid d;obtain⟨a,cap,rfl,n,l,m⟩:=d.form;clear d;have HP:=hid g;clear g;go_enter func217,ntmps217;exact Bd
theorem YP{α:Type}{g:(Nat->Prop)->World->Value->α->Prop}(l:fA g)(F:List α)(p:α->Bool)(v:Value)(S:Nat->Prop)(w:World)(hv:eA (g S) S w v F)(d:∀X u x,g S X u x->∃c,u=.int .u8 c)(f:Nat)(i:Array Value)(m:∀args w,(callFunc f args).run prog w=.ok (.enter f args) w)
  (k:∀X,BL w X->∀j (h:j<F.length) u,g S X u F[j]->CP f (#[u]++i) X fun e w'=>e=.returned (.bool (p F[j]))/\BL X w'):
  CB 174 #[v,.func (.func f) #[] i] w (.bool (F.any p)):=by
 have H:=hid (ab1 l F p v S w hv d f i m k);obtain⟨a,cap,rfl, -, -, -⟩:=hv.form;have HZ:=hid (nC p F);have HL:=hid (kS p F);have o:=aC.j8 p F 0;have q:(F.length:Int)<=9223372036854775807:=mT
 clear hv k;generalize aC.iN p F 0=z at*;generalize F.any p=b at*;have n:z<9223372036854775807:=abr
 go_enter func174,ntmps174;exact aez
theorem af7{α:Type}{RR:(Nat->Prop)->World->Value->α->Prop}(hR:fA RR)(F:List α)(p:α->Bool)(v:Value)(S:Nat->Prop)(w:World)(d:eA (RR S) S w v F)(hform:∀X u x,RR S X u x->∃c,u=.string c)(b:Nat)(f:Array Value)(o:∀args w,(callFunc b args).run prog w=.ok (.enter b args) w)
  (g:∀X,BL w X->∀j (h:j<F.length) u,RR S X u F[j]->CP b (#[u]++f) X fun e w'=>e=.returned (.bool (p F[j]))/\BL X w'):
  CB 219 #[v,.func (.func b) #[] f] w (.int .i64 (aC.iN p F 0)):=by
 have HV:=hid d;obtain⟨a,cap,rfl,n,l,m⟩:=d.form;clear d;have HP:=hid g;clear g;go_enter func219,ntmps219;exact Bd
theorem ab2{α:Type}{g:(Nat->Prop)->World->Value->α->Prop}(l:fA g)(F:List α)(p:α->Bool)(v:Value)(S:Nat->Prop)(w:World)(hv:eA (g S) S w v F)(d:∀X u x,g S X u x->∃c,u=.string c)(f:Nat)(i:Array Value)(m:∀args w,(callFunc f args).run prog w=.ok (.enter f args) w)
  (k:∀X,BL w X->∀j (h:j<F.length) u,g S X u F[j]->CP f (#[u]++i) X fun e w'=>e=.returned (.bool (p F[j]))/\BL X w'):
  CB 182 #[v,.func (.func f) #[] i] w (.bool (F.any p)):=by
 have H:=hid (af7 l F p v S w hv d f i m k);obtain⟨a,cap,rfl, -, -, -⟩:=hv.form;have HZ:=hid (nC p F);have HL:=hid (kS p F);have o:=aC.j8 p F 0;have q:(F.length:Int)<=9223372036854775807:=mT
 clear hv k;generalize aC.iN p F 0=z at*;generalize F.any p=b at*;have n:z<9223372036854775807:=abr
 go_enter func182,ntmps182;exact aez
theorem af8{α:Type}{f:(Nat->Prop)->World->Value->α->Prop}(s:fA f)(F:List α)(p:α->Bool)(v:Value)(S:Nat->Prop)(w:World)(l:eA (f S) S w v F)(b:∀X u x,f S X u x->∃a n c,u=.slice a n c)(g:Nat)(m:Array Value)(B:∀args w,(callFunc g args).run prog w=.ok (.enter g args) w)
  (o:∀X,BL w X->∀j (h:j<F.length) u,f S X u F[j]->CP g (#[u]++m) X fun e w'=>e=.returned (.bool (p F[j]))/\BL X w'):
  CB 190 #[v,.func (.func g) #[] m] w (.int .i64 (aC.iN p F 0)):=by
 have t:=hid l;obtain⟨a,cap,rfl,y,q,r⟩:=l.form;clear l;have HP:=hid o;clear o;go_enter func190,ntmps190;go_wp2;go_loopw [8] (fun i wr=>∃k:Nat,k<=F.length/\i=.int .i64 k/\Hid (∀j (h:j<F.length),j<k->p F[j]=false)/\Hid (BL w wr)) (fun i _=>F.length-(intOf i).toNat);case atStart=>exact⟨0,zxa _,rfl,hid fun j _ h=>absurd h aD,hid aG⟩
 case round=>
  obtain⟨k,C,rfl,hpre,hb⟩:=hrel;by_cases hlt:k<F.length
  ·have z:=zN k
   have A:=zL k F.length
   obtain⟨u0,D, -,d⟩:=(eA.keep (R:=f S) t.out (aH.below hb.out) (fun _ _ h=>s.keep h (aH.below hb.out))).at hlt;have HC:=hid (HP.out wr hb.out k hlt u0 d);obtain⟨a0,E,c0,rfl⟩:=b _ _ _ d;clear d;exact amH
  ·exact Dm
theorem Rk{α:Type}{g:(Nat->Prop)->World->Value->α->Prop}(l:fA g)(F:List α)(p:α->Bool)(v:Value)(S:Nat->Prop)(w:World)(hv:eA (g S) S w v F)(d:∀X u x,g S X u x->∃a n c,u=.slice a n c)(f:Nat)(i:Array Value)(m:∀args w,(callFunc f args).run prog w=.ok (.enter f args) w)
  (k:∀X,BL w X->∀j (h:j<F.length) u,g S X u F[j]->CP f (#[u]++i) X fun e w'=>e=.returned (.bool (p F[j]))/\BL X w'):
  CB 150 #[v,.func (.func f) #[] i] w (.bool (F.any p)):=by
 have H:=hid (af8 l F p v S w hv d f i m k);obtain⟨a,cap,rfl, -, -, -⟩:=hv.form;have HZ:=hid (nC p F);have HL:=hid (kS p F);have q:=aC.j8 p F 0;have r:(F.length:Int)<=9223372036854775807:=mT
 clear hv k;generalize aC.iN p F 0=z at*;generalize F.any p=b at*;have o:z<9223372036854775807:=abr
 go_enter func150,ntmps150;exact aez
theorem cF{P:Program}{f:FuncId}{a:Func}{c:Code}(d:P.funcs[f]?=some a)(e:(a.name== "runtime.NumGoroutine")=false)(g:a.body=some c)(args:Array Value)(w:World):(callFunc f args).run P w=.ok (.enter f args) w:=by
 have b:¬a.name= "runtime.NumGoroutine" :=by simpa using e
 simp[callFunc,d,b,g,mark]
theorem iO(n a b:Int)(w:World):CP 89 #[.int .i64 n,.int .i64 a,.int .i64 b] w fun e d=>e=.returned (.bool (aC.tE n a b))/\w=d:=by
 have c:Hid (aC.tE n a b=(decide (a<=n)&&decide (n<=b))):=hid rfl;by_cases h:a<=n
 ·go_enter func89,ntmps89
  go_wp2;go_ret;exact⟨by rw[c.out,decide_eq_true h];rfl,rfl⟩
 ·have f:n<a:=by omega
  go_enter func89,ntmps89;go_wp2;go_ret;exact⟨by rw[c.out,decide_eq_false (show ¬a<=n by omega)];rfl,rfl⟩
theorem mK(c d a b:Int)(w:World):CP 134 #[.int .i64 c,.int .i64 d,.int .i64 a,.int .i64 b] w fun e f=>e=.returned (.bool (aC.ig c d a b))/\w=f:=by
 have HE:Hid (aC.ig c d a b=(decide (a<=c)&&decide (c<=d)&&decide (d<=b))):=hid rfl;by_cases h:a<=c
 ·by_cases g:c<=d
  ·go_enter func134,ntmps134
   go_wp2;go_ret;exact⟨ahW,rfl⟩
  ·have i:d<c:=by omega
   go_enter func134,ntmps134;go_wp2;go_ret;exact⟨by rw[HE.out,decide_eq_false (show ¬c<=d by omega),Bool.and_false];rfl,rfl⟩
 ·have j:c<a:=by omega
  go_enter func134,ntmps134;go_wp2;go_ret;exact⟨by rw[HE.out,decide_eq_false (show ¬a<=c by omega)];rfl,rfl⟩
theorem amv(h:p:=by
  go_wp2
  go_ret
  exact⟨by rw[HE.out,decide_eq_false g,Bool.and_false];rfl,rfl⟩):p:=h
theorem amn(h:p:=by
  go_wp2
  go_ret
  exact⟨by rw[HE.out,decide_eq_false h];rfl,rfl⟩):p:=h
theorem yP(c:UInt8)(w:World):CP 173 #[.int .u8 (c.toNat:Int)] w fun e a=>e=.returned (.bool (aC.kG c))/\w=a:=by
 have HE:Hid (aC.kG c=(decide (97<=c.toNat)&&decide (c.toNat<=122))):=hid rfl;have i:=c.toNat_lt;generalize aC.kG c=b at*;generalize c.toNat=n at*;by_cases h:97<=n
 ·have d:(97:Int)<=n:=by omega
  by_cases g:n<=122
  ·have f:(n:Int)<=122:=by omega
   go_enter func173,ntmps173;go_wp2;go_ret;exact⟨ahW,rfl⟩
  ·have f:¬(n:Int)<=122:=by omega
   go_enter func173,ntmps173;exact amv
 ·have d:¬(97:Int)<=n:=by omega
  go_enter func173,ntmps173;exact amn
theorem KZ(c:UInt8)(w:World):CP 176 #[.int .u8 (c.toNat:Int)] w fun e a=>e=.returned (.bool (aC.nQ c))/\w=a:=by
 have HE:Hid (aC.nQ c=(decide (48<=c.toNat)&&decide (c.toNat<=57))):=hid rfl;have i:=c.toNat_lt;generalize aC.nQ c=b at*;generalize c.toNat=n at*;by_cases h:48<=n
 ·have d:(48:Int)<=n:=by omega
  by_cases g:n<=57
  ·have f:(n:Int)<=57:=by omega
   go_enter func176,ntmps176;go_wp2;go_ret;exact⟨ahW,rfl⟩
  ·have f:¬(n:Int)<=57:=by omega
   go_enter func176,ntmps176;exact amv
 ·have d:¬(48:Int)<=n:=by omega
  go_enter func176,ntmps176;exact amn
def qW(c:UInt8):Bool:= !(aC.kG c||aC.nQ c)
theorem amd(h:p:=by
  go_wp2
  go_ret
  exact⟨wY,rfl⟩):p:=h
theorem K0(c:UInt8)(w:World):CP 175 #[.int .u8 (c.toNat:Int)] w fun e d=>e=.returned (.bool (qW c))/\w=d:=by
 have f:=hid (fun W=>yP c W);have g:=hid (fun W=>KZ c W);have HE:Hid (qW c= !(aC.kG c||aC.nQ c)):=hid rfl;generalize qW c=z at*;generalize aC.kG c=a at*;generalize aC.nQ c=b at*;generalize c.toNat=n at*;cases a with
 |true=>
  go_enter func175,ntmps175
  go_wp2_with fail
  refine(f.out _).mono ?_
  rintro e d ⟨rfl,rfl⟩
  exact amd
 |false=>
  go_enter func175,ntmps175
  go_wp2_with fail
  refine(f.out _).mono ?_
  rintro e d ⟨rfl,rfl⟩
  go_wp2_with fail
  refine(g.out _).mono ?_
  rintro e d ⟨rfl,rfl⟩
  exact amd
abbrev ByV(S:Nat->Prop):=eA (fun _ u (x:UInt8)=>u=.int .u8 (x.toNat:Int)) S
theorem Tg:fA (fun(_:Nat->Prop) _ u (x:UInt8)=>u=.int .u8 (x.toNat:Int)):=⟨fun h _=>h,fun h _=>h⟩
theorem Oi(s:ByteArray):aC.bE s=(aC.tE s.size 1 12&&(aC.kG (s.data.getD 0 0)&& !s.data.toList.any qW)):=by
 unfold aC.bE aC.tE qW;rw[List.not_any_eq_all_not];have a:decide ((1:Int)<=(s.size:Int))=decide (1<=s.size):=by rw[decide_eq_decide];omega
 have b:decide ((s.size:Int)<=(12:Int))=decide (s.size<=12):=by rw[decide_eq_decide];omega
 rw[a,b];simp[Bool.and_assoc]
theorem Ti(w W:World)(s:ByteArray)(i:s.size<=1000000)(cap:Nat)(a:cap=grownCap w s.size 0 5)(b:Nat×Nat)(h:W.heap[w.heap.size]?=some (.cells (bytesRow s cap) 5 b)):
  ByV (fun _=>True) W (.slice (some ⟨w.heap.size,0,none⟩) s.size cap) s.data.toList:=by
 have c:s.data.toList.length=s.size:=rfl;have d:=grownCap_ge w s.size 0 5;have f:=grownCap_le_maxLen w s.size 0 5 Wy;rw[<-a] at d f;refine⟨some ⟨w.heap.size,0,none⟩,cap,by rw[c],fun _=>⟨_,_,rfl⟩,by rw[c];exact d,f,fun _=>trivial,fun j g=>⟨_,?_,rfl⟩⟩;have e:(⟨bM (some ⟨w.heap.size,0,none⟩),bT (some ⟨w.heap.size,0,none⟩)+j,none⟩:Addr)=⟨w.heap.size,j,none⟩:=by simp[bM,bT]
 rw[e,cell_of_row W _ j _ _ b h];unfold bytesRow;rw[Array.getElem?_append_left (by rw[Array.size_map];exact g),Array.getElem?_map]
 have:s.data[j]?=some s.data.toList[j]:=by
  rw[zxi g];simp
 rw[this];rfl
theorem dY(s:ByteArray)(w:World):CB 133 #[.string s] w (.bool (aC.bE s)):=by
 have HE:=hid (Oi s);have b:=hid (iO s.size 1 12 w);cases hin:aC.tE s.size 1 12 with
 |false=>
  rw[hin] at b HE
  clear hin
  go_enter func133,ntmps133
  go_wp2_with fail
  refine b.out.mono ?_
  rintro e a ⟨rfl,rfl⟩
  go_wp2
  go_ret
  exact⟨wY,aG⟩
 |true=>
  rw[hin] at b HE
  have hsz:1<=s.size/\s.size<=12:=by
   unfold aC.tE at hin;simp only[pR,oW] at hin;omega
  have k:0<s.size:=aD
  have c:(0:Int)<s.size:=aD
  have g:=hid (yP s[0] w)
  have HX:Hid (s.data.getD 0 0=s[0]):=hid (by
   have d:0<s.data.size:=k
   rw[Array.getD_eq_getD_getElem?,zxi d]
   rfl)
  have l:=hid hsz
  rw[HX.out] at HE
  clear hin hsz
  generalize aC.kG s[0]=m at*
  have f:∀W,(Instr.index 9 (.string s) (.int .i64 0)).run prog W=.ok (.int .u8 (s[0].toNat:Int)) W:=fun W=>by
   rw[run_index_string W _ _ _ _ zK,dif_pos ⟨Int.le_refl _,c⟩];rfl
  generalize s[0].toNat=c0 at*
  cases m with
  |false=>
   go_enter func133,ntmps133
   go_wp2_with fail
   refine b.out.mono ?_
   rintro e a ⟨rfl,rfl⟩
   go_wp2_with fail
   refine g.out.mono ?_
   rintro e a ⟨rfl,rfl⟩
   go_wp2
   go_ret
   exact⟨wY,aG⟩
  |true=>
   have n:=fun W:World=>run_bytes_of_string (P:=prog) W 9 209 5 s zK zK zK
   go_enter func133,ntmps133
   go_wp2_with fail
   refine b.out.mono ?_
   rintro e a ⟨rfl,rfl⟩
   go_wp2_with fail
   refine g.out.mono ?_
   rintro e a ⟨rfl,rfl⟩
   go_wp2_with fail
   refine(YP Tg s.data.toList qW _ (fun _=>True) _ (Ti w _ s (by have:=l.out;omega) _ rfl _ (bD w.drew _ rfl)) (fun X u x h=>⟨_,h⟩) 175 #[] (cF func175 zK rfl) (fun X t j v u o=>by
    subst o;exact(K0 _ X).mono fun e a ⟨p,q⟩=>⟨p,by rw[q];exact aG⟩)).mono ?_
   rintro e a ⟨rfl,i⟩
   have r:Hid (BL w a):=hid (((Below.refl w.heap.size w).drew.alloc aL _).trans (i.mono bH))
   clear i n f
   go_wp2
   go_ret
   exact⟨by rw[HE.out];simp,r.out⟩
theorem aeA(h:p:=by
  go_wp2_with fail
  refine HC.out.mono ?_
  rintro e w' ⟨rfl,hb2⟩
  have HB:=aR bL hb2
  clear hb2
  go_wp2
  go_ret
  exact⟨rfl,HB.out⟩):p:=h
theorem ab3(u0 u1 u2 u3:Value)(b:Nat)(a:Nat)(c:Array Value)(z:Bool)(w:World)(f:∀args w,(callFunc a args).run prog w=.ok (.enter a args) w)(g:w.cell? ⟨b,0,none⟩=some (.func (.func a) #[] c))(h:b<w.heap.size)
  (d:∀X,BL w X->CP a (#[.agg #[u0,u1,u2,u3]]++c) X fun e w'=>e=.returned (.bool z)/\BL X w'):
  CB 132 #[.agg #[u0,u1,u2,u3],.pointer (some ⟨b,0,none⟩)] w (.bool (!z)):=by
 have HP:=hid d;clear d;have bL:Hid (BL w (w.alloc (.cells #[u0,u1,u2,u3] 53))):=hid (aG.alloc aL _);have HC:=hid (HP.out _ bL.out);go_enter func132,ntmps132;exact aeA
theorem Dn(h:p:=by
  go_wp2_with fail
  refine HC.out.mono ?_
  rintro e w' ⟨rfl,hb2⟩
  have HB:=aR mN hb2
  clear hb2
  go_wp2
  go_ret
  exact⟨WQ,HB.out⟩):p:=h
theorem af9{α:Type}{g:(Nat->Prop)->World->List Value->α->Prop}(k:dM g)(F:List α)(q:α->Bool)(v:Value)(S:Nat->Prop)(w:World)(l:fC 4 (g S) S w v F)(c:Nat)(d:Array Value)(r:∀args w,(callFunc c args).run prog w=.ok (.enter c args) w)
  (m:∀X,BL w X->∀j (h:j<F.length) i,i.length=4->g S X i F[j]->CP c (#[.agg i.toArray]++d) X fun e w'=>e=.returned (.bool (q F[j]))/\BL X w'):
  CB 90 #[v,.func (.func c) #[] d] w (.bool (F.all q)):=by
 have HP:=hid m;clear m;have b:BL w (w.alloc (.cells #[.func (.func c) #[] d] 156)):=aG.alloc aL _;have f:fC 4 (g S) S (w.alloc (.cells #[.func (.func c) #[] d] 156)) v F:=fC.keep k l (aH.below b);obtain⟨a,cap,rfl, -, -, -⟩:=l.form
 have HC:=hid (abZ k F (fun x=> !q x) _ S _ f 132 #[.pointer (some ⟨w.heap.size,0,none⟩)] (cF func132 zK rfl) (fun X hX j s i n t=>by
  obtain⟨u0,u1,u2,u3,rfl⟩:=aea n;exact ab3 u0 u1 u2 u3 w.heap.size c d (q F[j]) X r ((hX.cell (p:=⟨w.heap.size,0,none⟩) bH).trans bH) R9 (fun Y o=>HP.out Y (bO b (bO hX o)) j s [u0,u1,u2,u3] n (k.keep t (aH.below o)))))
 have HN:Hid (F.all q= !F.any fun x=> !q x):=hid wZ;have mN:=hid b;generalize F.all q=u at*;generalize (F.any fun x=> !q x)=y at*;clear l f b;go_enter func90,ntmps90;exact Dn
theorem ab4(u0 u1 u2:Value)(b:Nat)(a:Nat)(c:Array Value)(z:Bool)(w:World)(f:∀args w,(callFunc a args).run prog w=.ok (.enter a args) w)(g:w.cell? ⟨b,0,none⟩=some (.func (.func a) #[] c))(h:b<w.heap.size)
  (d:∀X,BL w X->CP a (#[.agg #[u0,u1,u2]]++c) X fun e w'=>e=.returned (.bool z)/\BL X w'):
  CB 137 #[.agg #[u0,u1,u2],.pointer (some ⟨b,0,none⟩)] w (.bool (!z)):=by
 have HP:=hid d;clear d;have bL:Hid (BL w (w.alloc (.cells #[u0,u1,u2] 58))):=hid (aG.alloc aL _);have HC:=hid (HP.out _ bL.out);go_enter func137,ntmps137;exact aeA
theorem aga{α:Type}{g:(Nat->Prop)->World->List Value->α->Prop}(k:dM g)(F:List α)(q:α->Bool)(v:Value)(S:Nat->Prop)(w:World)(l:fC 3 (g S) S w v F)(c:Nat)(d:Array Value)(r:∀args w,(callFunc c args).run prog w=.ok (.enter c args) w)
  (m:∀X,BL w X->∀j (h:j<F.length) i,i.length=3->g S X i F[j]->CP c (#[.agg i.toArray]++d) X fun e w'=>e=.returned (.bool (q F[j]))/\BL X w'):
  CB 92 #[v,.func (.func c) #[] d] w (.bool (F.all q)):=by
 have HP:=hid m;clear m;have b:BL w (w.alloc (.cells #[.func (.func c) #[] d] 105)):=aG.alloc aL _;have f:fC 3 (g S) S (w.alloc (.cells #[.func (.func c) #[] d] 105)) v F:=fC.keep k l (aH.below b);obtain⟨a,cap,rfl, -, -, -⟩:=l.form
 have HC:=hid (IX k F (fun x=> !q x) _ S _ f 137 #[.pointer (some ⟨w.heap.size,0,none⟩)] (cF func137 zK rfl) (fun X hX j s i n t=>by
  obtain⟨u0,u1,u2,rfl⟩:=ad9 n;exact ab4 u0 u1 u2 w.heap.size c d (q F[j]) X r ((hX.cell (p:=⟨w.heap.size,0,none⟩) bH).trans bH) R9 (fun Y o=>HP.out Y (bO b (bO hX o)) j s [u0,u1,u2] n (k.keep t (aH.below o)))))
 have HN:Hid (F.all q= !F.any fun x=> !q x):=hid wZ;have mN:=hid b;generalize F.all q=u at*;generalize (F.any fun x=> !q x)=y at*;clear l f b;go_enter func92,ntmps92;exact Dn
theorem ab5(u0 u1 u2 u3 u4:Value)(b:Nat)(a:Nat)(c:Array Value)(z:Bool)(w:World)(f:∀args w,(callFunc a args).run prog w=.ok (.enter a args) w)(g:w.cell? ⟨b,0,none⟩=some (.func (.func a) #[] c))(h:b<w.heap.size)
  (d:∀X,BL w X->CP a (#[.agg #[u0,u1,u2,u3,u4]]++c) X fun e w'=>e=.returned (.bool z)/\BL X w'):
  CB 141 #[.agg #[u0,u1,u2,u3,u4],.pointer (some ⟨b,0,none⟩)] w (.bool (!z)):=by
 have HP:=hid d;clear d;have bL:Hid (BL w (w.alloc (.cells #[u0,u1,u2,u3,u4] 61))):=hid (aG.alloc aL _);have HC:=hid (HP.out _ bL.out);go_enter func141,ntmps141;exact aeA
theorem agb{α:Type}{g:(Nat->Prop)->World->List Value->α->Prop}(k:dM g)(F:List α)(q:α->Bool)(v:Value)(S:Nat->Prop)(w:World)(l:fC 5 (g S) S w v F)(c:Nat)(d:Array Value)(r:∀args w,(callFunc c args).run prog w=.ok (.enter c args) w)
  (m:∀X,BL w X->∀j (h:j<F.length) i,i.length=5->g S X i F[j]->CP c (#[.agg i.toArray]++d) X fun e w'=>e=.returned (.bool (q F[j]))/\BL X w'):
  CB 94 #[v,.func (.func c) #[] d] w (.bool (F.all q)):=by
 have HP:=hid m;clear m;have b:BL w (w.alloc (.cells #[.func (.func c) #[] d] 158)):=aG.alloc aL _;have f:fC 5 (g S) S (w.alloc (.cells #[.func (.func c) #[] d] 158)) v F:=fC.keep k l (aH.below b);obtain⟨a,cap,rfl, -, -, -⟩:=l.form
 have HC:=hid (Rj k F (fun x=> !q x) _ S _ f 141 #[.pointer (some ⟨w.heap.size,0,none⟩)] (cF func141 zK rfl) (fun X hX j s i n t=>by
  obtain⟨u0,u1,u2,u3,u4,rfl⟩:=aeb n;exact ab5 u0 u1 u2 u3 u4 w.heap.size c d (q F[j]) X r ((hX.cell (p:=⟨w.heap.size,0,none⟩) bH).trans bH) R9 (fun Y o=>HP.out Y (bO b (bO hX o)) j s [u0,u1,u2,u3,u4] n (k.keep t (aH.below o)))))
 have HN:Hid (F.all q= !F.any fun x=> !q x):=hid wZ;have mN:=hid b;generalize F.all q=u at*;generalize (F.any fun x=> !q x)=y at*;clear l f b;go_enter func94,ntmps94;exact Dn
theorem ab6(u0 u1 u2 u3 u4 u5 u6 u7:Value)(b:Nat)(a:Nat)(c:Array Value)(z:Bool)(w:World)(f:∀args w,(callFunc a args).run prog w=.ok (.enter a args) w)(g:w.cell? ⟨b,0,none⟩=some (.func (.func a) #[] c))(h:b<w.heap.size)
  (d:∀X,BL w X->CP a (#[.agg #[u0,u1,u2,u3,u4,u5,u6,u7]]++c) X fun e w'=>e=.returned (.bool z)/\BL X w'):
  CB 178 #[.agg #[u0,u1,u2,u3,u4,u5,u6,u7],.pointer (some ⟨b,0,none⟩)] w (.bool (!z)):=by
 have HP:=hid d;clear d;have bL:Hid (BL w (w.alloc (.cells #[u0,u1,u2,u3,u4,u5,u6,u7] 85))):=hid (aG.alloc aL _);have HC:=hid (HP.out _ bL.out);go_enter func178,ntmps178;exact aeA
theorem agc{α:Type}{g:(Nat->Prop)->World->List Value->α->Prop}(k:dM g)(F:List α)(q:α->Bool)(v:Value)(S:Nat->Prop)(w:World)(l:fC 8 (g S) S w v F)(c:Nat)(d:Array Value)(r:∀args w,(callFunc c args).run prog w=.ok (.enter c args) w)
  (m:∀X,BL w X->∀j (h:j<F.length) i,i.length=8->g S X i F[j]->CP c (#[.agg i.toArray]++d) X fun e w'=>e=.returned (.bool (q F[j]))/\BL X w'):
  CB 135 #[v,.func (.func c) #[] d] w (.bool (F.all q)):=by
 have HP:=hid m;clear m;have b:BL w (w.alloc (.cells #[.func (.func c) #[] d] 163)):=aG.alloc aL _;have f:fC 8 (g S) S (w.alloc (.cells #[.func (.func c) #[] d] 163)) v F:=fC.keep k l (aH.below b);obtain⟨a,cap,rfl, -, -, -⟩:=l.form
 have HC:=hid (abY k F (fun x=> !q x) _ S _ f 178 #[.pointer (some ⟨w.heap.size,0,none⟩)] (cF func178 zK rfl) (fun X hX j s i n t=>by
  obtain⟨u0,u1,u2,u3,u4,u5,u6,u7,rfl⟩:=aec n;exact ab6 u0 u1 u2 u3 u4 u5 u6 u7 w.heap.size c d (q F[j]) X r ((hX.cell (p:=⟨w.heap.size,0,none⟩) bH).trans bH) R9 (fun Y o=>HP.out Y (bO b (bO hX o)) j s [u0,u1,u2,u3,u4,u5,u6,u7] n (k.keep t (aH.below o)))))
 have HN:Hid (F.all q= !F.any fun x=> !q x):=hid wZ;have mN:=hid b;generalize F.all q=u at*;generalize (F.any fun x=> !q x)=y at*;clear l f b;go_enter func135,ntmps135;exact Dn
theorem ab7(u0 u1:Value)(b:Nat)(a:Nat)(c:Array Value)(z:Bool)(w:World)(f:∀args w,(callFunc a args).run prog w=.ok (.enter a args) w)(g:w.cell? ⟨b,0,none⟩=some (.func (.func a) #[] c))(h:b<w.heap.size)
  (d:∀X,BL w X->CP a (#[.agg #[u0,u1]]++c) X fun e w'=>e=.returned (.bool z)/\BL X w'):
  CB 185 #[.agg #[u0,u1],.pointer (some ⟨b,0,none⟩)] w (.bool (!z)):=by
 have HP:=hid d;clear d;have bL:Hid (BL w (w.alloc (.cells #[u0,u1] 59))):=hid (aG.alloc aL _);have HC:=hid (HP.out _ bL.out);go_enter func185,ntmps185;exact aeA
theorem agd{α:Type}{g:(Nat->Prop)->World->List Value->α->Prop}(k:dM g)(F:List α)(q:α->Bool)(v:Value)(S:Nat->Prop)(w:World)(l:fC 2 (g S) S w v F)(c:Nat)(d:Array Value)(r:∀args w,(callFunc c args).run prog w=.ok (.enter c args) w)
  (m:∀X,BL w X->∀j (h:j<F.length) i,i.length=2->g S X i F[j]->CP c (#[.agg i.toArray]++d) X fun e w'=>e=.returned (.bool (q F[j]))/\BL X w'):
  CB 139 #[v,.func (.func c) #[] d] w (.bool (F.all q)):=by
 have HP:=hid m;clear m;have b:BL w (w.alloc (.cells #[.func (.func c) #[] d] 207)):=aG.alloc aL _;have f:fC 2 (g S) S (w.alloc (.cells #[.func (.func c) #[] d] 207)) v F:=fC.keep k l (aH.below b);obtain⟨a,cap,rfl, -, -, -⟩:=l.form
 have HC:=hid (ab0 k F (fun x=> !q x) _ S _ f 185 #[.pointer (some ⟨w.heap.size,0,none⟩)] (cF func185 zK rfl) (fun X hX j s i n t=>by
  obtain⟨u0,u1,rfl⟩:=ad8 n;exact ab7 u0 u1 w.heap.size c d (q F[j]) X r ((hX.cell (p:=⟨w.heap.size,0,none⟩) bH).trans bH) R9 (fun Y o=>HP.out Y (bO b (bO hX o)) j s [u0,u1] n (k.keep t (aH.below o)))))
 have HN:Hid (F.all q= !F.any fun x=> !q x):=hid wZ;have mN:=hid b;generalize F.all q=u at*;generalize (F.any fun x=> !q x)=y at*;clear l f b;go_enter func139,ntmps139;exact Dn
theorem ab8(s:ByteArray)(b:Nat)(a:Nat)(c:Array Value)(z:Bool)(w:World)(f:∀args w,(callFunc a args).run prog w=.ok (.enter a args) w)(g:w.cell? ⟨b,0,none⟩=some (.func (.func a) #[] c))(_:b<w.heap.size)
  (d:∀X,BL w X->CP a (#[.string s]++c) X fun e w'=>e=.returned (.bool z)/\BL X w'):
  CB 183 #[.string s,.pointer (some ⟨b,0,none⟩)] w (.bool (!z)):=by
 have HP:=hid d;clear d;have bL:Hid (BL w w):=hid aG;have HC:=hid (HP.out _ bL.out);go_enter func183,ntmps183;exact aeA
theorem agf{α:Type}{g:(Nat->Prop)->World->Value->α->Prop}(l:fA g)(F:List α)(q:α->Bool)(v:Value)(S:Nat->Prop)(w:World)(m:eA (g S) S w v F)(b:∀X u x,g S X u x->∃c,u=.string c)(f:Nat)(i:Array Value)(s:∀args w,(callFunc f args).run prog w=.ok (.enter f args) w)
  (n:∀X,BL w X->∀j (h:j<F.length) u,g S X u F[j]->CP f (#[u]++i) X fun e w'=>e=.returned (.bool (q F[j]))/\BL X w'):
  CB 138 #[v,.func (.func f) #[] i] w (.bool (F.all q)):=by
 have HP:=hid n;clear n;have d:BL w (w.alloc (.cells #[.func (.func f) #[] i] 202)):=aG.alloc aL _;have k:eA (g S) S (w.alloc (.cells #[.func (.func f) #[] i] 202)) v F:=eA.keep (R:=g S) m (aH.below d) (fun _ _ h=>l.keep h (aH.below d));obtain⟨a,cap,rfl, -, -, -⟩:=m.form
 have HC:=hid (ab2 l F (fun x=> !q x) _ S _ k b 183 #[.pointer (some ⟨w.heap.size,0,none⟩)] (cF func183 zK rfl) (fun X hX j t u o=>by
  obtain⟨c,rfl⟩:=b _ _ _ o;exact ab8 c w.heap.size f i (q F[j]) X s ((hX.cell (p:=⟨w.heap.size,0,none⟩) bH).trans bH) R9 (fun Y r=>HP.out Y (bO d (bO hX r)) j t (.string c) (l.keep o (aH.below r)))))
 have HN:Hid (F.all q= !F.any fun x=> !q x):=hid wZ;have mN:=hid d;generalize F.all q=y at*;generalize (F.any fun x=> !q x)=z at*;clear m k d;go_enter func138,ntmps138;exact Dn
theorem aer(h:p:=by
  subst hx2
  subst hy2
  generalize xs[k]=x0 at*
  have hk0:=zN k
  have hk1:=zL k xs.length
  go_wp2
  go_quiet (fail)
  have cH:=hid (aJ HB.out nq)
  go_wp2
  go_roundw
  case rel=>exact⟨k+1,aD,zG,cH⟩
  exact zI):p:=h
theorem am5(h:p:=by
  go_wp2
  go_ret
  exact⟨rfl,HB.out⟩):p:=h
theorem YQ(xs:List Int)(u v:Value)(S T:Nat->Prop)(w:World)(c:bB S w u xs)(d:bB T w v xs):
  CB 44 #[u,v] w (.bool true):=by
 obtain⟨a,cap,rfl,h,e,f⟩:=c.form;obtain⟨m,g,rfl,n,o,p⟩:=d.form;have j:=hid c;have l:=hid d;clear c d;go_enter func44,ntmps44;go_wp2;go_loopw [13] (fun i wr=>∃k:Nat,k<=xs.length/\i=.int .i64 k/\Hid (BL w wr)) (fun i _=>xs.length-(intOf i).toNat);case atStart=>exact⟨0,zxa _,rfl,hid aG⟩
 case round=>
  obtain⟨k,q,rfl,HB⟩:=hrel;obtain⟨r,rfl⟩:=bJ (wr:World);by_cases b:k<xs.length
  ·obtain⟨x,hx, -,hx2⟩:=(bB.keep j.out (aH.below HB.out)).at b
   obtain⟨y,s, -,hy2⟩:=(bB.keep l.out (aH.below HB.out)).at b;exact aer
  ·exact am5
theorem YR(xs:List ByteArray)(u v:Value)(S T:Nat->Prop)(w:World)(c:gE S w u xs)(d:gE T w v xs):
  CB 218 #[u,v] w (.bool true):=by
 obtain⟨a,cap,rfl,h,e,f⟩:=c.form;obtain⟨m,g,rfl,n,o,p⟩:=d.form;have j:=hid c;have l:=hid d;clear c d;go_enter func218,ntmps218;go_wp2;go_loopw [13] (fun i wr=>∃k:Nat,k<=xs.length/\i=.int .i64 k/\Hid (BL w wr)) (fun i _=>xs.length-(intOf i).toNat);case atStart=>exact⟨0,zxa _,rfl,hid aG⟩
 case round=>
  obtain⟨k,q,rfl,HB⟩:=hrel;obtain⟨r,rfl⟩:=bJ (wr:World);by_cases b:k<xs.length
  ·obtain⟨x,hx, -,hx2⟩:=(gE.keep j.out (aH.below HB.out)).at b
   obtain⟨y,s, -,hy2⟩:=(gE.keep l.out (aH.below HB.out)).at b;exact aer
  ·exact am5
theorem Tj{w:World}{g:Nat}{b c d e f i j k:Value}{a:Array Value}(h:w.heap[g]?=some (.cells #[b,c,d,e,f,i,j,k] 85 (0,0)))(l:a[2]?=some (.pointer (some ⟨g,0,none⟩))):
  (results Tryz.f180 a).run prog w=.ok (.agg #[b,c,d,e,f,i,j,k]) w:=by
 obtain⟨⟨m,n,o,p,q,r,s,t⟩, -⟩:=ez h;simp[results,results180,go_sem,l,m,n,o,p,q,r,s,t]
theorem Oj{W:World}{k:Nat}{o:Obj}(h:W.heap[k]?=some o):W.drew.heap[k]?=some o:=h
theorem al6(h:p:=by
  go_wp2
  refine bodyPost_ret (Tj (g:=w.heap.size+1) ?h1 rfl) rfl ⟨rfl, ?h2⟩
  case h1=>first|exact cC _ (bD _ _ bH)|exact Oj (cC _ (bD _ _ bH))
  case h2=>first|exact((aG.alloc aL _).alloc bH _).alloc jo _|exact(((aG.alloc aL _).alloc bH _).alloc jo _).drew):p:=h
theorem amC(h:p:=by
  try unfold aC.nil
  go_enter func180,ntmps180
  exact al6):p:=h
theorem ai5(a:ByteArray)(b:Int)(c:Option Addr)(d e:Nat)(f:Option Addr)(h i:Nat)(w:World):
  CB 180 #[.agg #[.string a,.string aC.nil,.string aC.nil,.int .i64 0,.int .i64 b,.int .i64 0,.slice c d e,.slice f h i]] w (.agg #[.string a,.string aC.nil,.string aC.nil,.int .i64 0,.int .i64 b,.int .i64 0,.slice none 0 0,.slice none 0 0]):=by
 exact amC
theorem aeL(h:p:=by
  try unfold aC.nil
  go_enter func180,ntmps180
  go_wp2
  go_region
  exact al6):p:=h
theorem ai6(a:ByteArray)(o:ByteArray)(b:Int)(c:Int)(d:Option Addr)(e f:Nat)(h:Option Addr)(i j:Nat)(w:World):
  CB 180 #[.agg #[.string a,.string o,.string aC.nil,.int .i64 1,.int .i64 b,.int .i64 c,.slice d e f,.slice h i j]] w (.agg #[.string a,.string o,.string aC.nil,.int .i64 1,.int .i64 b,.int .i64 c,.slice none 0 0,.slice none 0 0]):=by
 exact aeL
theorem ai7(a:ByteArray)(b:Int)(c:Int)(d:Option Addr)(e f:Nat)(h:Option Addr)(i j:Nat)(w:World):
  CB 180 #[.agg #[.string a,.string aC.nil,.string aC.nil,.int .i64 2,.int .i64 b,.int .i64 c,.slice d e f,.slice h i j]] w (.agg #[.string a,.string aC.nil,.string aC.nil,.int .i64 2,.int .i64 b,.int .i64 c,.slice none 0 0,.slice none 0 0]):=by
 exact aeL
theorem ai8(a:ByteArray)(b:Option Addr)(c d:Nat)(e:Option Addr)(f h:Nat)(w:World):
  CB 180 #[.agg #[.string a,.string aC.nil,.string aC.nil,.int .i64 3,.int .i64 0,.int .i64 0,.slice b c d,.slice e f h]] w (.agg #[.string a,.string aC.nil,.string aC.nil,.int .i64 3,.int .i64 0,.int .i64 0,.slice b c d,.slice e f h]):=by
 exact aeL
theorem ai9(a:ByteArray)(o:ByteArray)(b:Int)(c:Int)(d:Option Addr)(e f:Nat)(h:Option Addr)(i j:Nat)(w:World):
  CB 180 #[.agg #[.string a,.string o,.string aC.nil,.int .i64 4,.int .i64 b,.int .i64 c,.slice d e f,.slice h i j]] w (.agg #[.string a,.string o,.string aC.nil,.int .i64 4,.int .i64 b,.int .i64 c,.slice none 0 0,.slice none 0 0]):=by
 exact aeL
theorem aja(a:ByteArray)(o:ByteArray)(b:Int)(c:Int)(d:Option Addr)(e f:Nat)(h:Option Addr)(i j:Nat)(w:World):
  CB 180 #[.agg #[.string a,.string o,.string aC.nil,.int .i64 5,.int .i64 b,.int .i64 c,.slice d e f,.slice h i j]] w (.agg #[.string a,.string o,.string aC.nil,.int .i64 5,.int .i64 b,.int .i64 c,.slice none 0 0,.slice none 0 0]):=by
 exact aeL
theorem ajb(a:ByteArray)(o:ByteArray)(b:Option Addr)(c d:Nat)(e:Option Addr)(f h:Nat)(w:World):
  CB 180 #[.agg #[.string a,.string o,.string aC.nil,.int .i64 6,.int .i64 0,.int .i64 0,.slice b c d,.slice e f h]] w (.agg #[.string a,.string o,.string aC.nil,.int .i64 6,.int .i64 0,.int .i64 0,.slice none 0 0,.slice none 0 0]):=by
 exact amC
theorem ajc(a:ByteArray)(o:ByteArray)(up:ByteArray)(b:Int)(c:Int)(d:Option Addr)(e f:Nat)(h:Option Addr)(i j:Nat)(w:World):
  CB 180 #[.agg #[.string a,.string o,.string up,.int .i64 7,.int .i64 b,.int .i64 c,.slice d e f,.slice h i j]] w (.agg #[.string a,.string o,.string up,.int .i64 7,.int .i64 b,.int .i64 c,.slice none 0 0,.slice none 0 0]):=by
 exact aeL
theorem ajd(a:ByteArray)(o:ByteArray)(up:ByteArray)(b:Option Addr)(c d:Nat)(e:Option Addr)(f h:Nat)(w:World):
  CB 180 #[.agg #[.string a,.string o,.string up,.int .i64 8,.int .i64 0,.int .i64 0,.slice b c d,.slice e f h]] w (.agg #[.string a,.string o,.string up,.int .i64 8,.int .i64 0,.int .i64 0,.slice none 0 0,.slice none 0 0]):=by
 exact aeL
def onV(k:Int)(v:Value):Value:=if k=3 then v else .slice none 0 0
theorem aac(h:p:=by
  rintro e w' ⟨rfl,hb⟩
  exact⟨rfl,hb⟩):p:=h
theorem YT(f:aC.dA)(b:aC.dD f=true)(c:Option Addr)(d g:Nat)(h:Option Addr)(i j:Nat)(w:World):
  CB 180 #[.agg (dh f (.slice c d g) (.slice h i j)).toArray] w (.agg (dh f (onV f.kind (.slice c d g)) (onV f.kind (.slice h i j))).toArray):=by
 obtain⟨p,k8⟩:=aC.mQ b;unfold aC.dD aC.lT at b;obtain⟨l,o,up,k,m,n,q,r⟩:=f;simp only at p k8;have:k=0\/k=1\/k=2\/k=3\/k=4\/k=5\/k=6\/k=7\/k=8:=aD
 simp only[dh];rcases this with rfl|rfl|rfl|rfl|rfl|rfl|rfl|rfl|rfl<;>simp only[pR,Bool.or_eq_true,oW] at b<;>simp at b
 ·obtain⟨⟨-,a⟩, -⟩:=b
  obtain⟨⟨⟨⟨rfl,rfl⟩,rfl⟩,rfl⟩,rfl⟩:=a;refine(ai5 l m c d g h i j w).mono ?_;exact aac
 ·obtain⟨⟨-,a⟩, -⟩:=b
  obtain⟨⟨rfl,rfl⟩,rfl⟩:=a;refine(ai6 l o m n c d g h i j w).mono ?_;exact aac
 ·obtain⟨⟨-,a⟩, -⟩:=b
  obtain⟨⟨⟨rfl,rfl⟩,rfl⟩,rfl⟩:=a;refine(ai7 l m n c d g h i j w).mono ?_;exact aac
 ·obtain⟨⟨-,a⟩, -⟩:=b
  obtain⟨⟨⟨rfl,rfl⟩,rfl⟩,rfl⟩:=a;refine(ai8 l c d g h i j w).mono ?_;exact aac
 ·obtain⟨⟨-,a⟩, -⟩:=b
  obtain⟨⟨rfl,rfl⟩,rfl⟩:=a;refine(ai9 l o m n c d g h i j w).mono ?_;exact aac
 ·obtain⟨⟨-,a⟩, -⟩:=b
  obtain⟨⟨rfl,rfl⟩,rfl⟩:=a;refine(aja l o m n c d g h i j w).mono ?_;exact aac
 ·obtain⟨⟨-,a⟩, -⟩:=b
  obtain⟨⟨⟨⟨rfl,rfl⟩,rfl⟩,rfl⟩,rfl⟩:=a;refine(ajb l o c d g h i j w).mono ?_;exact aac
 ·obtain⟨⟨-,a⟩, -⟩:=b
  obtain⟨rfl,rfl⟩:=a;refine(ajc l o up m n c d g h i j w).mono ?_;exact aac
 ·obtain⟨⟨-,a⟩, -⟩:=b
  obtain⟨⟨⟨rfl,rfl⟩,rfl⟩,rfl⟩:=a;refine(ajd l o up c d g h i j w).mono ?_;exact aac
theorem adz(h:p:=by
  go_wp2
  go_ret
  exact⟨rfl,cN.out⟩):p:=h
theorem Fs(f:aC.dA)(h b:Option Addr)(i c:Nat)(j l:Option Addr)(m n:Nat)(S T S' T':Nat->Prop)(w:World)
  (h1:gE S w (.slice h f.cV.length i) f.cV)(h2:gE T w (.slice b f.cV.length c) f.cV)(q:bB S' w (.slice j f.bY.length m) f.bY)(r:bB T' w (.slice l f.bY.length n) f.bY):
  CP 179 #[.agg (dh f (.slice h f.cV.length i) (.slice j f.bY.length m)).toArray,.agg (dh f (.slice b f.cV.length c) (.slice l f.bY.length n)).toArray] w
   fun e y=>e=.returned (.bool true)/\BL w y:=by
 have s:=hid (fun W (d:BL w W)=>YR f.cV _ _ S T W (h1.keep (aH.below d)) (h2.keep (aH.below d)));have t:=hid (fun W (d:BL w W)=>YQ f.bY _ _ S' T' W (q.keep (aH.below d)) (r.keep (aH.below d)));clear h1 h2 q r;obtain⟨B,o,up,k,C,D,z,A⟩:=f;simp only[dh] at s t ⊢;generalize z.length=u at*;generalize A.length=v at*;go_enter func179,ntmps179;go_wp2_with fail;refine(s.out _ ((aG.alloc aL _).alloc bH _)).mono ?_;rintro e w2 ⟨rfl,a⟩;have x:Hid (BL w w2):=hid (((aG.alloc aL _).alloc bH _).trans (a.mono jo))
 obtain⟨E,F,G,H⟩:w2.cell? ⟨w.heap.size,6,none⟩=some (.slice h u i)/\w2.cell? ⟨w.heap.size,7,none⟩=some (.slice j v m)/\w2.cell? ⟨w.heap.size+1,6,none⟩=some (.slice b u c)/\w2.cell? ⟨w.heap.size+1,7,none⟩=some (.slice l v n):=by
  refine⟨(a.cell (p:=⟨w.heap.size,6,none⟩) jo).trans bH,(a.cell (p:=⟨w.heap.size,7,none⟩) jo).trans bH,(a.cell (p:=⟨w.heap.size+1,6,none⟩) bH).trans bH,(a.cell (p:=⟨w.heap.size+1,7,none⟩) bH).trans bH⟩
 clear a;go_wp2_with fail;refine(t.out _ x.out).mono ?_;rintro e w3 ⟨rfl,g⟩;have cN:=aR x g;clear g;exact adz
theorem Tk(S:Nat->Prop):∀(X:World) (u:Value) (x:ByteArray),(fun(_:Nat->Prop) (_:World) u (x:ByteArray)=>u=Value.string x) S X u x->∃c,u=.string c:=fun _ _ _ h=>⟨_,h⟩
theorem Gt(a:List ByteArray)(v:Value)(S:Nat->Prop)(w:World)(c:gE S w v a):
  CB 138 #[v,.func (.func 133) #[] #[]] w (.bool (a.all aC.bE)):=
 agf NE a aC.bE v S w c (Tk S) 133 #[] (cF func133 zK rfl) (fun X _ j d u b=>by
  have b:u=.string a[j]:=b;subst b;exact dY a[j] X)
theorem Gu(a:List Int){k:Nat}(h:k<a.length):aC.tL (a.take (k+1))=aC.tL (a.take k)+a[k]:=by
 rw[yh h];unfold aC.tL;rw[List.foldl_append];rfl
theorem lZ{a:List aC.Nm}{b:List Int}(h:aC.kR a b=true):(∀g∈b,aC.tE g 0 1048576=true)/\aC.tE a.length 1 12=true/\a.length=b.length/\0<aC.tL b/\a.all aC.bE=true:=by
 unfold aC.kR at h;simp only[pR,oW,alU] at h;exact⟨h.1.1.1.1,h.1.1.1.2,h.1.1.2,h.1.2,by rw[alU];exact h.2⟩
theorem eM{n a b:Int}(h:aC.tE n a b=true):a<=n/\n<=b:=by
 unfold aC.tE at h;simpa using h
theorem amE(h:p:=by
  go_wp2
  go_ret
  exact⟨rfl,cH.out⟩):p:=h
theorem Ol(j:List ByteArray)(c:List Int)(h:aC.kR j c=true)(v u:Value)(S T:Nat->Prop)(w:World)(o:gE S w v j)(p:bB T w u c):
  CB 181 #[v,u] w (.bool true):=by
 obtain⟨p1,p2,p3,p4,p5⟩:=lZ h;have q:=(eM p2).2;have I:=hid p1;have J:=hid p2;have Y:=hid p3;have HP:=hid p4;obtain⟨a,cap,rfl,K,E,F⟩:=o.form;obtain⟨b,Z,rfl,L,r,t⟩:=p.form;have y:=hid (fun W (l:BL w W)=>Gt j _ S W (o.keep (aH.below l)));rw[p5] at y;have M:=hid p;rw[p3] at y q;have f:=hid (fun W=>iO (j.length:Int) 1 12 W);rw[J.out,p3] at f;rw[p3];clear o p h p1 p2 p3 p4 p5;have N:c.length<=12:=aD
 go_enter func181,ntmps181;go_upto_region 3 with fail;go_loopw [5,10] (fun s i wr=>∃(k:Nat) (z:Int),k<=c.length/\i=.int .i64 (k:Int)/\s=.int .i64 z/\Hid (z=aC.tL (c.take k)/\0<=z/\z<=1048576*k)/\Hid (BL w wr)) (fun _ i _=>c.length-(intOf i).toNat);case atStart=>exact⟨0,0,aD,rfl,rfl,hid ⟨rfl,aD,aD⟩,hid aG⟩
 case round=>
  obtain⟨k,z,hk,rfl,rfl,m,n⟩:=hrel;obtain⟨A,rfl⟩:=bJ (wr:World);by_cases d:k<c.length
  ·have O:=zN k
   have P:=zL k c.length
   obtain⟨x,hx, -,B⟩:=(bB.keep M.out (aH.below n.out)).at d;subst B;have C:=I.out _ (eV d);have Q:=eM C;have G:=hid (iO c[k] 0 1048576 A);rw[C] at G
   have R:Hid (z+c[k]=aC.tL (c.take (k+1))/\0<=z+c[k]/\z+c[k]<=1048576*(k+1:Nat)):=hid (by
    have:=m.out
    refine⟨by rw[Gu c d,this.1],aD,aD⟩)
   have U:0<=z:=m.out.2.1;have V:z<=1048576*12:=by have:=m.out.2.2;omega
   clear C;generalize c[k]=g at*;go_wp2_with fail;refine G.out.mono ?_;rintro e H ⟨rfl,rfl⟩;go_wp2;go_roundw;case rel=>exact⟨k+1,z+g,aD,zG,rfl,R,n⟩
   exact zI
  ·have hz:0<z:=by
    have:=m.out.1
    rw[this,ND aD]
    exact HP.out
   have X:=hid (y.out A n.out);have D:=hid (f.out A);go_wp2_with fail;refine D.out.mono ?_;rintro e H ⟨rfl,rfl⟩;go_wp2_with fail;refine X.out.mono ?_;rintro e H ⟨rfl,l⟩;have cH:=aR n l;clear l;exact amE
theorem YU{S:Nat->Prop}{w:World}{f:aC.dA}(g:aC.dD f=true){b:Option Addr}{d:Nat}(_h:gE S w (.slice b f.cV.length d) f.cV):
  ∃a c,onV f.kind (.slice b f.cV.length d)=.slice a f.cV.length c/\∀W,gE S W (.slice b f.cV.length d) f.cV->gE S W (.slice a f.cV.length c) f.cV:=by
 unfold onV;by_cases i:f.kind=3
 ·rw[if_pos i];exact⟨b,d,rfl,fun _ h=>h⟩
 ·rw[if_neg i]
  have j:f.cV=[]:=by
   unfold aC.dD aC.lT at g;simp only[pR,Bool.or_eq_true,oW] at g;rcases g.1.2.1.2 with e|e
   ·exact e
   ·exact absurd e i
  rw[j];exact⟨none,0,rfl,fun W _=>eA.nil _ _ _⟩
theorem YV{S:Nat->Prop}{w:World}{f:aC.dA}(g:aC.dD f=true){b:Option Addr}{d:Nat}(_h:bB S w (.slice b f.bY.length d) f.bY):
  ∃a c,onV f.kind (.slice b f.bY.length d)=.slice a f.bY.length c/\∀W,bB S W (.slice b f.bY.length d) f.bY->bB S W (.slice a f.bY.length c) f.bY:=by
 unfold onV;by_cases i:f.kind=3
 ·rw[if_pos i];exact⟨b,d,rfl,fun _ h=>h⟩
 ·rw[if_neg i]
  have j:f.bY=[]:=by
   unfold aC.dD aC.lT at g;simp only[pR,Bool.or_eq_true,oW] at g;rcases g.1.2.2 with e|e
   ·exact e
   ·exact absurd e i
  rw[j];exact⟨none,0,rfl,fun W _=>eA.nil _ _ _⟩
theorem qa{f:aC.dA}(h:aC.dD f=true):aC.bE f.name=true/\aC.kZ f=true:=by
 unfold aC.dD at h;simp only[pR] at h;exact⟨h.1.1,h.2⟩
theorem Q6(h:p:=by
  rw[hc2] at HX
  go_wp2_with fail
  refine HX.out.mono ?_
  rintro e w' ⟨rfl,rfl⟩
  clear HX
  go_wp2
  go_ret
  exact⟨rfl,Ai.out⟩):p:=h
theorem aee(h:p:=by
  go_wp2_with fail
  refine HX.out.mono ?_
  rintro e w' ⟨rfl,rfl⟩
  clear HX
  go_wp2
  go_ret
  exact⟨rfl,Dq.out⟩):p:=h
theorem K1(f:aC.dA)(E:aC.dD f=true)(U V:Value)(S T:Nat->Prop)(w:World)(h1:gE S w U f.cV)(h2:bB T w V f.bY):
  CB 136 #[.agg (dh f U V).toArray] w (.bool true):=by
 obtain⟨F,t⟩:=qa E;obtain⟨K3,YZ⟩:=aC.mQ E;obtain⟨K,L,rfl, -, -, -⟩:=h1.form;obtain⟨M,N,rfl, -, -, -⟩:=h2.form;obtain⟨a2,c2,G,X⟩:=YU E h1;obtain⟨b2,d2,H,Y⟩:=YV E h2;have z:=hid (fun W=>YT f E K f.cV.length L M f.bY.length N W);rw[G,H] at z;obtain⟨w1,hw1⟩:=bJ (w.alloc (.cells (dh f (.slice K f.cV.length L) (.slice M f.bY.length N)).toArray 85));have Z:Hid (Below w.heap.size w w1):=hid Cx;have u:Hid (∀W,BL w1 W->W.heap[w.heap.size]?=some (.cells (dh f (.slice K f.cV.length L) (.slice M f.bY.length N)).toArray 85 (0,0))):=hid (fun W hW=>(hW.block _ J6).trans BJ);have K5:=hid (fun W (c:BL w W)=>Fs f K a2 L c2 M b2 N d2 S S T T W (h1.keep (aH.below c)) (X W (h1.keep (aH.below c))) (h2.keep (aH.below c)) (Y W (h2.keep (aH.below c))));have I:=hid (fun(hp:aC.kR f.cV f.bY=true) (W:World) (c:BL w W)=>Ol f.cV f.bY hp _ _ S T W (h1.keep (aH.below c)) (h2.keep (aH.below c)));have O:=hid (fun W=>dY f.name W);rw[F] at O;have aa:w.heap.size<w1.heap.size:=J6
 clear h1 h2 G H X Y F;obtain⟨nm,o,up,k,r,v,ws,gs⟩:=f;simp only[dh] at hw1 z u K5 I O K3 YZ ⊢;generalize ws.length=nw at*;generalize gs.length=ng at*;obtain⟨⟨g,h,i,j,l,m,n,p⟩, -⟩:=ez (u.out w1 aG);have Dt:=hid (fun(x:gV w1)=>Calls.fQ (x:=x) (O.out x.1));have J:=hid (fun(x:gV w1)=>Calls.fQ (x:=x) (z.out x.1));have vV:=hid (fun(x:gV w1)=>Calls.fQ (x:=x) (K5.out x.1 (bO Z.out x.2)));have HW:=hid hw1;clear hw1;go_enter func136,ntmps136;go_upto_region 1 with fail;rw[<-HW.out];have hg:=gV.cell (w:=w1);refine cQ zK zK ?_;iterate 2 (go_big_quiet_step (fail))
 go_big_quiet_step ((exact Dt.out _));iterate 4 (go_big_quiet_step (fail))
 go_big_quiet_step ((exact J.out _));go_big_quiet_step ((exact vV.out _));repeat (go_big_quiet_step (fail))
 refine iU ?_;intro w2 hx;have A:=eP hx;clear hx hg Dt J vV g h i j l m n p;have B:Hid (BL w1 w2):=hid A;have Dq:Hid (BL w w2):=hid (bO Z.out A);clear A;obtain⟨⟨g,h,i,j,l,m,n,p⟩, -⟩:=ez (u.out w2 B.out);have y:=hid t;clear t;have:k=0\/k=1\/k=2\/k=3\/k=4\/k=5\/k=6\/k=7\/k=8:=aD
 rcases this with rfl|rfl|rfl|rfl|rfl|rfl|rfl|rfl|rfl
 ·have q:aC.tE r (-1048576) 1048576=true:=y.out
  have HX:=hid (iO r (-1048576) 1048576 w2);rw[q] at HX;exact aee
 ·have q:(aC.bE o&&aC.ig r v 0 65536)=true:=y.out
  obtain⟨d,hc2⟩:=zxv.1 q;have HX:=hid (dY o w2);rw[d] at HX;go_wp2_with fail;refine HX.out.mono ?_;rintro e w3 ⟨rfl,c⟩;have s:=aR B c;have Ai:Hid (BL w w3):=hid (bO Dq.out c);clear c HX g h i j l m n p;obtain⟨⟨g,h,i,j,l,m,n,p⟩, -⟩:=ez (u.out w3 s.out);have HX:=hid (mK r v 0 65536 w3);exact Q6
 ·have q:aC.ig r v (-1048576) 1048576=true:=y.out
  have HX:=hid (mK r v (-1048576) 1048576 w2);rw[q] at HX;exact aee
 ·have q:aC.kR ws gs=true:=y.out
  have HX:=hid (I.out q w2 Dq.out);go_wp2_with fail;refine HX.out.mono ?_;rintro e w3 ⟨rfl,c⟩;have Ai:Hid (BL w w3):=hid (bO Dq.out c);clear c HX;go_wp2;go_ret;exact⟨rfl,Ai.out⟩
 ·have q:((decide (o=aC.nil)||aC.bE o)&&aC.ig r v (-1048576) 1048576)=true:=y.out
  obtain⟨d,hc2⟩:=zxv.1 q;by_cases P:o=aC.nil
  ·subst P
   unfold aC.nil at*;have HX:=hid (mK r v (-1048576) 1048576 w2);rw[hc2] at HX;exact aee
  ·have C:aC.bE o=true:=by
    rw[decide_eq_false P] at d;exact d
   have ab:o.toList.isEmpty=false:=by
    cases hh:o.toList.isEmpty
    ·rfl
    ·exact absurd (str_inj (a:=o) (b:=aC.nil) (by rw[List.isEmpty_iff.1 hh,ByteArray.toList_eq];rfl)) P
   have HX:=hid (dY o w2);rw[C] at HX;go_wp2_with fail;refine HX.out.mono ?_;rintro e w3 ⟨rfl,c⟩;have s:=aR B c;have Ai:Hid (BL w w3):=hid (bO Dq.out c);clear c HX g h i j l m n p;obtain⟨⟨g,h,i,j,l,m,n,p⟩, -⟩:=ez (u.out w3 s.out);have HX:=hid (mK r v (-1048576) 1048576 w3);exact Q6
 ·have q:(aC.bE o&&aC.ig r v 0 32)=true:=y.out
  obtain⟨d,hc2⟩:=zxv.1 q;have HX:=hid (dY o w2);rw[d] at HX;go_wp2_with fail;refine HX.out.mono ?_;rintro e w3 ⟨rfl,c⟩;have s:=aR B c;have Ai:Hid (BL w w3):=hid (bO Dq.out c);clear c HX g h i j l m n p;obtain⟨⟨g,h,i,j,l,m,n,p⟩, -⟩:=ez (u.out w3 s.out);have HX:=hid (mK r v 0 32 w3);exact Q6
 ·have q:aC.bE o=true:=y.out
  have HX:=hid (dY o w2);rw[q] at HX;go_wp2_with fail;refine HX.out.mono ?_;rintro e w3 ⟨rfl,c⟩;have s:=aR B c;have Ai:Hid (BL w w3):=hid (bO Dq.out c);clear c HX g h i j l m n p;obtain⟨⟨g,h,i,j,l,m,n,p⟩, -⟩:=ez (u.out w3 s.out);go_wp2;go_ret;exact⟨rfl,Ai.out⟩
 ·have q:(aC.bE o&&aC.bE up&&aC.ig r v 0 1048576)=true:=y.out
  obtain⟨Q,C⟩:=zxv.1 q;obtain⟨d,hc2⟩:=zxv.1 Q;have HX:=hid (dY o w2);rw[d] at HX;go_wp2_with fail;refine HX.out.mono ?_;rintro e w3 ⟨rfl,c⟩;have s:=aR B c;have Ai:Hid (BL w w3):=hid (bO Dq.out c);clear c HX g h i j l m n p;obtain⟨⟨g,h,i,j,l,m,n,p⟩, -⟩:=ez (u.out w3 s.out);have HX:=hid (dY up w3);rw[hc2] at HX;go_wp2_with fail;refine HX.out.mono ?_;rintro e w4 ⟨rfl,c⟩;have R:=aR s c;have D:Hid (BL w w4):=hid (bO Ai.out c);clear c HX g h i j l m n p;obtain⟨⟨g,h,i,j,l,m,n,p⟩, -⟩:=ez (u.out w4 R.out);have HX:=hid (mK r v 0 1048576 w4);rw[C] at HX;go_wp2_with fail;refine HX.out.mono ?_;rintro e w' ⟨rfl,rfl⟩;clear HX;go_wp2;go_ret;exact⟨rfl,D.out⟩
 ·have q:(aC.bE o&&aC.bE up)=true:=y.out
  obtain⟨d,hc2⟩:=zxv.1 q;have HX:=hid (dY o w2);rw[d] at HX;go_wp2_with fail;refine HX.out.mono ?_;rintro e w3 ⟨rfl,c⟩;have s:=aR B c;have Ai:Hid (BL w w3):=hid (bO Dq.out c);clear c HX g h i j l m n p;obtain⟨⟨g,h,i,j,l,m,n,p⟩, -⟩:=ez (u.out w3 s.out);have HX:=hid (dY up w3);rw[hc2] at HX;go_wp2_with fail;refine HX.out.mono ?_;rintro e w4 ⟨rfl,c⟩;have R:=aR s c;have D:Hid (BL w w4):=hid (bO Ai.out c);clear c HX g h i j l m n p;obtain⟨⟨g,h,i,j,l,m,n,p⟩, -⟩:=ez (u.out w4 R.out);go_wp2;go_ret;exact⟨rfl,D.out⟩
theorem Om(fs:List aC.dA)(a:∀f∈fs,aC.dD f=true)(v:Value)(S:Nat->Prop)(w:World)(b:dx S w v fs):
  CB 135 #[v,.func (.func 136) #[] #[]] w (.bool true):=by
 have H:=agc bQ fs (fun _=>true) v S w b 136 #[] (cF func136 zK rfl) (fun X _ j c k _ d=>by
  obtain⟨e,g,rfl,h,i⟩:=d;exact K1 fs[j] (a _ (eV c)) e g S S X h i)
 have:fs.all (fun _=>true)=true:=bH
 rwa [this] at H
theorem lD{k:aC.fT}(h:aC.qF k=true):aC.bE k.name=true/\aC.ig k.lo k.hi 0 65536=true/\k.aF.length<=10/\∀f∈k.aF,aC.dD f=true:=by
 unfold aC.qF at h;simp only[pR,oW,alU] at h;exact⟨h.1.1.1,h.1.1.2,h.1.2,h.2⟩
theorem Oo(k:aC.fT)(g:aC.qF k=true)(h:Value)(S:Nat->Prop)(w:World)(b:dx S w h k.aF):
  CB 91 #[.agg (kH k h).toArray] w (.bool true):=by
 obtain⟨p1,p2,p3,p4⟩:=lD g;obtain⟨i,j,rfl, -, -, -⟩:=b.form;have l:=hid (fun W (a:BL w W)=>Om k.aF p4 _ S W (b.keep (aH.below a)));have c:=hid (fun W=>dY k.name W);have d:=hid (fun W=>mK k.lo k.hi 0 65536 W);rw[p1] at c;rw[p2] at d;obtain⟨w1,hw1⟩:=bJ (w.alloc (.cells (kH k (.slice i k.aF.length j)).toArray 53));have s:Hid (Below w.heap.size w w1):=hid Cx;have f:Hid (∀W,BL w1 W->W.heap[w.heap.size]?=some (.cells (kH k (.slice i k.aF.length j)).toArray 53 (0,0))):=hid (fun W t=>(t.block _ J6).trans BJ);clear b g p1 p2 p4;obtain⟨v,x,y,fs⟩:=k;simp only[kH] at hw1 f l c d p3 ⊢;generalize fs.length=n at*;have z:(n:Int)<=10:=aD
 have u:=hid hw1;clear hw1;obtain⟨m,o,p,q⟩:=b4z (f.out w1 aG);go_enter func91,ntmps91;go_upto_region 1 with fail;rw[<-u.out];go_wp2_with fail;refine(c.out _).mono ?_;rintro e w2 ⟨rfl,a⟩;clear m o p q;obtain⟨m,o,p,q⟩:=b4z (f.out w2 a);have r:=aR s a;clear a;go_wp2_with fail;refine(d.out _).mono ?_;rintro e A ⟨rfl,rfl⟩;go_wp2_with fail;refine(l.out _ r.out).mono ?_;rintro e w3 ⟨rfl,a⟩;have cN:=aR r a;clear a;exact adz
theorem amA(h:p:=by
  rintro e w' ⟨rfl,rfl⟩
  go_wp2
  go_ret
  exact⟨rfl,aG.alloc aL _⟩):p:=h
theorem K6(m:Int×Int)(n b:Nat)(a:aC.CG n m=true)(h:n<=100)(w:World)(g:w.cell? ⟨b,0,none⟩=some (.int .i64 (n:Int))):
  CB 140 #[.agg #[.int .i64 m.1,.int .i64 m.2],.pointer (some ⟨b,0,none⟩)] w (.bool true):=by
 unfold aC.CG at a;obtain⟨d,f⟩:=zxv.1 a;have H1:=hid (fun W=>iO m.1 0 ((n:Int)-1) W);have c:=hid (fun W=>iO m.2 0 ((n:Int)-1) W);rw[d] at H1;rw[f] at c;have i:b<w.heap.size:=kK w _ g;clear a d f;obtain⟨j,k⟩:=m;simp only at H1 c ⊢;go_enter func140,ntmps140;go_wp2_with fail;refine(H1.out _).mono ?_;rintro e w' ⟨rfl,rfl⟩;go_wp2_with fail;refine(c.out _).mono ?_;exact amA
theorem qb{x:aC.Iu}(h:aC.wD x=true):aC.bE x.name=true/\aC.tE x.dR.length 1 12=true/\x.dR.all aC.bE=true/\x.jd.length<=32/\∀m∈x.jd,aC.CG x.dR.length m=true:=by
 unfold aC.wD at h;simp only[pR,oW] at h;exact⟨h.1.1.1.1,h.1.1.1.2,h.1.1.2,h.1.2,alU.1 h.2⟩
theorem wN{w:World}{F:Nat}{a b c:Value}{t:TypeId}(h:w.heap[F]?=some (.cells #[a,b,c] t (0,0))):
  w.cell? ⟨F,0,none⟩=some a/\w.cell? ⟨F,1,none⟩=some b/\w.cell? ⟨F,2,none⟩=some c:=⟨(aP h 0).trans rfl,(aP h 1).trans rfl,(aP h 2).trans rfl⟩
theorem aeQ(h:p:=by
  go_wp2
  go_ret
  exact⟨rfl,gX.out⟩):p:=h
theorem Oq(x:aC.Iu)(hx:aC.wD x=true)(u1 u2:Value)(S:Nat->Prop)(w:World)(k:gE S w u1 x.dR)(l:yD S w u2 x.jd):
  CB 93 #[.agg #[.string x.name,u1,u2]] w (.bool true):=by
 obtain⟨p1,p2,p3,p4,p5⟩:=qb hx;obtain⟨a1,c1,rfl, -, -, -⟩:=k.form;obtain⟨y,c2,rfl, -, -, -⟩:=l.form;have B:=(eM p2).2;obtain⟨w1,hw1⟩:=bJ ((w.alloc (.cells #[.string x.name,.slice a1 x.dR.length c1,.slice y x.jd.length c2] 58)).alloc (.cells #[.int .i64 (x.dR.length:Int)] 3));have C:Hid (Below w.heap.size w w1):=hid Qw;have d:Hid (∀W,BL w1 W->W.heap[w.heap.size]?=some (.cells #[.string x.name,.slice a1 x.dR.length c1,.slice y x.jd.length c2] 58 (0,0))):=hid (fun W o=>(o.block _ (by rw[hw1];simp;omega)).trans abu);have c:Hid (∀W,BL w1 W->W.cell? ⟨w.heap.size+1,0,none⟩=some (.int .i64 (x.dR.length:Int))):=hid (fun W o=>(o.cell (p:=⟨w.heap.size+1,0,none⟩) J6).trans J6);have q:=hid (fun W=>dY x.name W);have r:=hid (fun W=>iO (x.dR.length:Int) 1 12 W);have s:=hid (fun W (a:BL w W)=>Gt x.dR _ S W (k.keep (aH.below a)))
 have t:=hid (fun W (a:BL w W) (u:BL w1 W)=>agd fW x.jd (fun _=>true) _ S W (fC.keep fW l (aH.below a)) 140 #[.pointer (some ⟨w.heap.size+1,0,none⟩)] (cF func140 zK rfl)
  (fun X D j E F _ v=>by
   have v:F=[.int .i64 x.jd[j].1,.int .i64 x.jd[j].2]:=v;subst v;exact K6 x.jd[j] x.dR.length (w.heap.size+1) (p5 _ (eV E)) aD X (c.out X (bO u D))))
 have b:x.jd.all (fun _=>true)=true:=bH
 rw[b] at t;rw[p1] at q;rw[p2] at r;rw[p3] at s;clear k l hx p1 p2 p3 p5 b;obtain⟨J,ss,ms⟩:=x;simp only at hw1 d c q r s t p4 B ⊢;generalize ss.length=n at*;generalize ms.length=m at*;have G:(m:Int)<=32:=aD
 have H:=hid hw1;clear hw1;have f:=c.out w1 aG;obtain⟨g,h,i⟩:=wN (d.out w1 aG);go_enter func93,ntmps93;go_upto_region 2 with fail;rw[<-H.out];go_wp2_with fail;refine(q.out _).mono ?_;rintro e w2 ⟨rfl,a⟩;clear g h i f;have f:=c.out w2 a;obtain⟨g,h,i⟩:=wN (d.out w2 a);have z:=aR C a;have I:=hid a;clear a;go_wp2_with fail;refine(r.out _).mono ?_;rintro e K ⟨rfl,rfl⟩;go_wp2_with fail;refine(s.out _ z.out).mono ?_;rintro e w3 ⟨rfl,a⟩;clear g h i f;have gT:=aR I a;have f:=c.out w3 gT.out;obtain⟨g,h,i⟩:=wN (d.out w3 gT.out);have A:=aR z a;clear a;go_wp2_with fail;refine(t.out _ A.out gT.out).mono ?_;rintro e w4 ⟨rfl,a⟩;have gX:=aR A a;clear a;exact aeQ
theorem qc{r:aC.Rul}(h:aC.wE r=true):aC.bE r.name=true/\aC.bE r.kind=true/\(r.a=aC.nil\/aC.bE r.a=true)/\(r.b=aC.nil\/aC.bE r.b=true)/\¬(r.a=aC.nil/\r.b=aC.nil)/\aC.tE r.n (-1048576) 1048576=true:=by
 unfold aC.wE at h;simp only[pR,Bool.or_eq_true,oW,Bool.not_eq_true',Bool.and_eq_false_iff,decide_eq_false_iff_not] at h;refine⟨h.1.1.1.1.1,h.1.1.1.1.2,h.1.1.1.2,h.1.1.2,fun⟨c,d⟩=>?_,h.2⟩;rcases h.1.2 with g|g
 ·exact g c
 ·exact g d
theorem nZ{o:ByteArray}(h:¬o=aC.nil):o.toList.isEmpty=false:=by
 cases hh:o.toList.isEmpty
 ·rfl
 ·exact absurd (str_inj (a:=o) (b:=aC.nil) (by rw[List.isEmpty_iff.1 hh,ByteArray.toList_eq];rfl)) h
end Go.Proofs.YtohddpbgflgiaaaGreatDoor
namespace Go.Proofs
open Go.Shelf Go.RowKit Go.Sort Go.Lib Go.Proofs.YtohddpbgflgiaaaGreatDoor
def Tryz.Be:Go.Shelf.Ren:=⟨fun|169=>146|n=>n,fun|70=>208|9=>9|0=>0|72=>211|37=>209|127=>250|3=>3|5=>5|n=>n,fun|n=>n⟩
theorem Tryz.acd:Go.Proofs.Lays.n169 prog Tryz.Be:={
 mixed:=by kernel_rfl
 f169:=func146.trans (congrArg some zK)
 t0:=underlying0
 a0:=Tryz.isAgg0
 z0:=Tryz.sizeOf0
 v0:=Tryz.zeroValue0
 t3:=underlying3
 a3:=Tryz.isAgg3
 z3:=Tryz.sizeOf3
 v3:=Tryz.zeroValue3
 t9:=underlying9
 a9:=Tryz.isAgg9
 z9:=Tryz.sizeOf9
 v9:=Tryz.zeroValue9
 t37:=underlying209
 a37:=Tryz.isAgg209
 z37:=Tryz.sizeOf209
 v37:=Tryz.zeroValue209
 t70:=underlying208
 a70:=Tryz.isAgg208
 z70:=Tryz.sizeOf208
 v70:=Tryz.zeroValue208
 t72:=underlying211
 a72:=Tryz.isAgg211
 z72:=Tryz.sizeOf211
 v72:=Tryz.zeroValue211
 t127:=underlying250
 a127:=Tryz.isAgg250
 z127:=Tryz.sizeOf250
 v127:=Tryz.zeroValue250}
theorem Tryz.yQ:Builder.Extra prog Tryz.Be:={
 sizeBuilder:=by kernel_rfl
 liesBuilder:=by kernel_rfl
 t5:=underlying5
 a5:=Tryz.isAgg5
 z5:=Tryz.sizeOf5
 v5:=Tryz.zeroValue5
 infoByte:=by kernel_rfl
 cellsByte:=by kernel_rfl
 sizeByte:=by kernel_rfl
 neB5:=by decide}
open Go.RowKit in
theorem Tryz.Builder_String_any(B b:Nat)(l:List UInt8)(w:World)(h:Lib.IsBuilder 211 5 B b (Lib.byteCells l) w)(a:B<=w.heap.size):
  CP 146 #[.pointer (some ⟨b,0,none⟩)] w fun e c=>e=.returned (.string ⟨l.toArray⟩)/\Below B w c:=Any.Builder_String_any Tryz.acd Tryz.yQ B b l w h a
def Tryz.IY:Go.Shelf.Ren:=⟨fun|171=>188|243=>222|246=>231|283=>234|284=>235|285=>236|286=>237|129=>200|317=>238|318=>239|319=>240|320=>241|337=>242|338=>243|n=>n,fun|3=>3|9=>9|2=>2|4=>4|171=>289|0=>0|53=>230|37=>209|5=>5|173=>291|212=>294|51=>227|20=>20|213=>295|46=>183|232=>296|233=>297|n=>n,fun|17=>2|18=>3|19=>4|n=>n⟩
theorem Tryz.Y0:Go.Proofs.LaysM.n171 prog Tryz.IY:={
 mixed:=by kernel_rfl
 f129:=func200.trans (congrArg some zK)
 f171:=func188.trans (congrArg some zK)
 f243:=func222.trans (congrArg some zK)
 f246:=func231.trans (congrArg some zK)
 f283:=func234.trans (congrArg some zK)
 f284:=func235.trans (congrArg some zK)
 f285:=func236.trans (congrArg some zK)
 f286:=func237.trans (congrArg some zK)
 f317:=func238.trans (congrArg some zK)
 f318:=func239.trans (congrArg some zK)
 f319:=func240.trans (congrArg some zK)
 f320:=func241.trans (congrArg some zK)
 f337:=func242.trans (congrArg some zK)
 f338:=func243.trans (congrArg some zK)
 t0:=underlying0
 a0:=Tryz.isAgg0
 z0:=Tryz.sizeOf0
 v0:=Tryz.zeroValue0
 t2:=underlying2
 a2:=Tryz.isAgg2
 z2:=Tryz.sizeOf2
 v2:=Tryz.zeroValue2
 t3:=underlying3
 a3:=Tryz.isAgg3
 z3:=Tryz.sizeOf3
 v3:=Tryz.zeroValue3
 t4:=underlying4
 a4:=Tryz.isAgg4
 z4:=Tryz.sizeOf4
 v4:=Tryz.zeroValue4
 t5:=underlying5
 a5:=Tryz.isAgg5
 z5:=Tryz.sizeOf5
 v5:=Tryz.zeroValue5
 t9:=underlying9
 a9:=Tryz.isAgg9
 z9:=Tryz.sizeOf9
 v9:=Tryz.zeroValue9
 t20:=underlying20
 a20:=Tryz.isAgg20
 z20:=Tryz.sizeOf20
 v20:=Tryz.zeroValue20
 t37:=underlying209
 a37:=Tryz.isAgg209
 z37:=Tryz.sizeOf209
 v37:=Tryz.zeroValue209
 t46:=underlying183
 a46:=Tryz.isAgg183
 z46:=Tryz.sizeOf183
 v46:=Tryz.zeroValue183
 t51:=underlying227
 a51:=Tryz.isAgg227
 z51:=Tryz.sizeOf227
 v51:=Tryz.zeroValue227
 t53:=underlying230
 a53:=Tryz.isAgg230
 z53:=Tryz.sizeOf230
 v53:=Tryz.zeroValue230
 t171:=underlying289
 a171:=Tryz.isAgg289
 z171:=Tryz.sizeOf289
 v171:=Tryz.zeroValue289
 t173:=underlying291
 a173:=Tryz.isAgg291
 z173:=Tryz.sizeOf291
 v173:=Tryz.zeroValue291
 t212:=underlying294
 a212:=Tryz.isAgg294
 z212:=Tryz.sizeOf294
 v212:=Tryz.zeroValue294
 t213:=underlying295
 a213:=Tryz.isAgg295
 z213:=Tryz.sizeOf295
 t232:=underlying296
 a232:=Tryz.isAgg296
 z232:=Tryz.sizeOf296
 v232:=Tryz.zeroValue296
 t233:=underlying297
 a233:=Tryz.isAgg297
 z233:=Tryz.sizeOf297
 v233:=Tryz.zeroValue297
 g17:=by kernel_rfl
 g18:=by kernel_rfl
 g19:=by kernel_rfl
 i0:=by kernel_rfl
 i2:=by kernel_rfl
 i3:=by kernel_rfl
 i4:=by kernel_rfl
 i5:=by kernel_rfl
 i9:=by kernel_rfl
 i20:=by kernel_rfl
 i37:=by kernel_rfl
 i46:=by kernel_rfl
 i51:=by kernel_rfl
 i53:=by kernel_rfl
 i171:=by kernel_rfl
 i173:=by kernel_rfl
 i212:=by kernel_rfl
 i232:=by kernel_rfl
 i233:=by kernel_rfl
 m17:=by kernel_rfl
 m18:=by kernel_rfl
 m19:=by kernel_rfl}
theorem Tryz.strconv_Itoa(n:Int)(h0: -9223372036854775808<=n)(h1:n<=9223372036854775807)(w:World)(a:Lib.TabIs prog w "internal/strconv.uint64pow10" .u64 Lib.pow10Tab):
  CP 188 #[.int .i64 n] w fun e b=>e=.returned (.string ⟨(Lib.itoa n).toArray⟩)/\∃k c,b=grow (w.drewN k) c:=Any.strconv_Itoa Tryz.Y0 n h0 h1 w a
end Go.Proofs
namespace Go.Proofs.YtohddpbgflgiaaaGreatDoor
open Go.RowKit
theorem K7:∃j,prog.info? 211=some j/\j.size=2:=by
 have h:(prog.info? 211).map (·.size)=some 2:=by kernel_rfl
 exact Option.map_eq_some_iff.1 h
theorem Du(b:Nat)(w:World)(h0:w.cell? ⟨b,0,none⟩=some (.pointer (some ⟨b,0,none⟩))):
  CP 186 #[.pointer (some ⟨b,0,none⟩)] w fun e a=>e=.returned (.tuple #[])/\w=a:=by
 obtain⟨j,c,_⟩:=K7;go_enter func186,ntmps186;go_wp2;rw[Lib.run_neq_ptr_same w _ underlying208 c];go_wp2;go_end0;exact⟨rfl,rfl⟩
theorem BS(b:Nat)(w:World)(h0:w.cell? ⟨b,0,none⟩=some (.pointer none))(a:w.shape? b=some (211,2))(f:w.frozen? ⟨b,0,none⟩=false):
  CP 186 #[.pointer (some ⟨b,0,none⟩)] w fun e g=>e=.returned (.tuple #[])/\w.setCell ⟨b,0,none⟩ (.pointer (some ⟨b,0,none⟩))=g:=by
 obtain⟨j,d,c⟩:=K7;go_enter func186,ntmps186;go_wp2;rw[Lib.run_to_unsafe w ⟨b,0,none⟩ underlying208 underlying274 d (by rw[c];decide) a (Nat.zero_lt_succ 1)];simp only[Result.andThen];rw[Oper.upon_value];go_wp2;rw[run_callFunc_extern func221 zK zK zK (e:=Extern.AbiNoEscape.same) zK];rw[Lib.run_noEscape];simp only[Result.andThen];rw[Oper.upon_value];go_wp2;rw[Lib.run_from_unsafe w ⟨b,0,none⟩ underlying274 underlying208 d a zK];simp only[Result.andThen];rw[Oper.upon_value];go_wp2;go_end0;exact⟨rfl,rfl⟩
def Y5(o:Obj):Prop:=∀cs a,o≠ .cells cs 5 a
def KB(b:Nat)(w w':World):Prop:=∀x o,w.heap[x]?=some o->x≠b->Y5 o->w'.heap[x]?=some o
theorem KB.refl(b:Nat)(w:World):KB b w w:=fun _ _ h _ _=>h
theorem KB.trans{b:Nat}{w w1 w2:World}(h:KB b w w1)(k:KB b w1 w2):KB b w w2:=fun x o d a c=>k x o (h x o d a c) a c
theorem KB.setCell(b i:Nat)(v:Value)(w:World):KB b w (w.setCell ⟨b,i,none⟩ v):=fun x o a c _=>by rw[heap_setCell_other _ _ _ _ c];exact a
theorem KB.grown{b base n:Nat}{w w':World}{v:Value}{xs:List Value}(c:w.ownsRow base 5 1 v n xs)(h:w.grownBy w' v.ownBlock):KB b w w':=fun x o a _ d=>by
 refine(h.block x (aI a) (fun e=>?_)).trans a;rcases c.2 with⟨rfl,_⟩|⟨g,cap,f,rfl,_,i,_⟩
 ·simp[Value.ownBlock] at e
 ·simp only[Value.ownBlock,Option.some.injEq] at e
  subst e;rw[i] at a;exact d _ _ (oO a).symm
theorem wO(B b:Nat)(c:List Value)(w:World)(h:Lib.IsBuilder 211 5 B b c w):
  CP 186 #[.pointer (some ⟨b,0,none⟩)] w fun e a=>e=.returned (.tuple #[])/\Lib.BuilderAt 211 5 B b (.pointer (some ⟨b,0,none⟩)) c a/\Below B w a/\KB b w a:=by
 rcases h with h|h
 ·refine(BS b w h.cell0 h.shape h.frozen0).mono ?_
  rintro e a ⟨rfl,rfl⟩;exact⟨rfl,h.used _,(Below.refl B w).setCell (p:=⟨b,0,none⟩) h.1 _,KB.setCell b 0 _ _⟩
 ·refine(Du b w h.cell0).mono ?_
  rintro e a ⟨rfl,rfl⟩;exact⟨rfl,h,Below.refl B _,KB.refl _ _⟩
def jA(B b n:Nat)(w:World):Prop:=∃l:List UInt8,l.length=n/\Lib.IsBuilder 211 5 B b (Lib.byteCells l) w
theorem Gv:(prog.info? 5).map (fun i=>(i.zero,i.size,i.bytes))=some (some (.int .u8 0),1,1):=by kernel_rfl
theorem fe(B b n:Nat)(s:ByteArray)(w:World)(h:jA B b n w)(i:n+s.size<=140737488355328)(D:B<=w.heap.size):
  CP 142 #[.pointer (some ⟨b,0,none⟩),.string s] w fun e j=>e=.returned (.tuple #[.int .i64 s.size,.nilIface])/\jA B b (n+s.size) j/\Below B w j/\KB b w j:=by
 obtain⟨l,z,h⟩:=h;have m:=Lib.byteCells_length l;have E:=hid z;have F:(Lib.byteCells l).length+s.size<=140737488355328:=aD
 clear m z i;obtain⟨i0,G,o,q,r⟩:=info_parts Gv;have H:=hid (wO B b _ w h);go_enter func142,ntmps142;go_wp2_with fail;refine H.out.mono ?_;rintro e w1 ⟨rfl,I,f,t⟩;obtain⟨hB,v,hbk,c,u⟩:=I;have c0:w1.cell? ⟨b,0,none⟩=some (.pointer (some ⟨b,0,none⟩)):=ahY
 have c1:w1.cell? ⟨b,1,none⟩=some v:=ahY
 go_wp2_with (at_builtin;refine Lib.wpList_append_own_string _ rfl _ _ 209 9 rfl B 5 i0 underlying209 underlying9 G o q r _ _ _ rfl c s rfl ?c3 ?c4 ?c5 ?_);case c3=>unfold maxLen;omega
 case c4=>omega
 case c5=>have:=f.size;omega
 intro J w2 d a _;have x:b<w1.heap.size:=aI hbk
 have hb2:w2.heap[b]?=some (.cells #[.pointer (some ⟨b,0,none⟩),v] 211 (0,0)):=by
  rw[a.block b x (fun e=>u e.symm)];exact hbk
 have M:w2.cell? ⟨b,0,none⟩=some (.pointer (some ⟨b,0,none⟩)):=afv
 have N:w2.cell? ⟨b,1,none⟩=some v:=afv
 have f1:w2.frozen? ⟨b,1,none⟩=false:=Lib.frozen_of_heap hb2 1
 obtain⟨A,C,cap,rfl⟩:∃A C cap,J=.slice A C cap:=by
  rcases d.2 with⟨y,_⟩|⟨g,cap,K,y,_⟩
  ·exact⟨_,_,_,y⟩
  ·exact⟨_,_,_,y⟩
 go_wp2;go_ret2;refine⟨rfl,⟨l++s.data.toList,by rw[rK,E.out];rfl,.inr ?_⟩,?_,?_⟩
 ·rw[Lib.byteCells_append,<-Lib.strCells_eq]
  exact Lib.BuilderAt.put (T:=211) (e:=5) hB hb2 (bs':=Lib.byteCells l++Lib.strCells s) (by simpa [Lib.strCells_length] using d) iG
 ·exact(f.grown a (by have:=f.size;omega) (fun k L=>(c.lt k L).1)).setCell (p:=⟨b,1,none⟩) hB _
 ·exact(t.trans (KB.grown c a)).trans (KB.setCell b 1 _ _)
theorem Ft(B b n:Nat)(c:UInt8)(w:World)(h:jA B b n w)(m:n+1<=140737488355328)(F:B<=w.heap.size):
  CP 187 #[.pointer (some ⟨b,0,none⟩),.int .u8 (c.toNat:Int)] w fun e A=>e=.returned .nilIface/\jA B b (n+1) A/\Below B w A:=by
 obtain⟨l,C,h⟩:=h;have q:=Lib.byteCells_length l;have G:=hid C;have H:(Lib.byteCells l).length+1<=140737488355328:=aD
 clear q C m;obtain⟨i0,I,r,s,t⟩:=info_parts Gv;have J:=hid (wO B b _ w h);have x:Hid (Lib.byteCells (l++[c])=Lib.byteCells l++[.int .u8 (c.toNat:Int)]):=hid (by rw[Lib.byteCells_append];rfl);generalize (c.toNat:Int)=D at*;go_enter func187,ntmps187;go_wp2_with fail;refine J.out.mono ?_;rintro e w1 ⟨rfl,K,f, -⟩;obtain⟨hB,v,hbk,i,y⟩:=K;have c0:w1.cell? ⟨b,0,none⟩=some (.pointer (some ⟨b,0,none⟩)):=ahY
 have c1:w1.cell? ⟨b,1,none⟩=some v:=ahY
 go_wp2_with (at_builtin;refine wpList_append_own _ rfl _ _ 209 rfl B 5 i0 (.int .u8 0) 1 1 underlying209 I r s t rfl iG _ _ _ rfl (i.alloc _) ⟨w1.heap.size,0,none⟩ 1 1 [.int .u8 D] rfl rfl ?c1 ?c2 ?c3 ?c4 ?c5 ?_)
 case c1=>
  intro j u o;match j,o with
  |0,o=>simp at o;subst o;simp[Addr.add]
 case c2=>intro u E;simp at E;subst E;rfl
 case c3=>unfold maxLen;omega
 case c4=>omega
 case c5=>have:=f.size;simp;omega
 intro L w2 a d _;have z:b<w1.heap.size:=aI hbk
 have hb2:w2.heap[b]?=some (.cells #[.pointer (some ⟨b,0,none⟩),v] 211 (0,0)):=by
  rw[d.block b jo (fun e=>y e.symm),Lib.alloc_old w1 _ b z];exact hbk
 have P:w2.cell? ⟨b,0,none⟩=some (.pointer (some ⟨b,0,none⟩)):=afv
 have Q:w2.cell? ⟨b,1,none⟩=some v:=afv
 have f1:w2.frozen? ⟨b,1,none⟩=false:=Lib.frozen_of_heap hb2 1
 obtain⟨g,cap,rfl⟩:∃g cap,L=.slice (some ⟨g,0,none⟩) ((Lib.byteCells l).length+1) cap:=by
  rcases a.2 with⟨_,R⟩|⟨g,cap,M,N,_⟩
  ·omega
  ·exact⟨g,cap,N⟩
 go_wp2;go_ret;refine⟨rfl,⟨l++[c],by rw[rK,G.out];rfl,.inr ?_⟩,?_⟩
 ·rw[x.out]
  exact Lib.BuilderAt.put (T:=211) (e:=5) hB hb2 (bs':=Lib.byteCells l++[.int .u8 D]) (by simpa using a) iG
 ·exact((f.alloc (by have:=f.size;omega) _).grown d (by have:=f.size;simp;omega) (fun k O=>(i.lt k O).1)).setCell (p:=⟨b,1,none⟩) hB _
theorem Dv(B b n:Nat)(w:World)(h:jA B b n w)(a:B<=w.heap.size):
  CP 146 #[.pointer (some ⟨b,0,none⟩)] w fun e c=>∃s:ByteArray,e=.returned (.string s)/\s.size=n/\Below B w c:=by
 obtain⟨l,d,h⟩:=h;exact(Tryz.Builder_String_any B b l w h a).mono fun e c ⟨f,g⟩=>⟨⟨l.toArray⟩,f,by show l.toArray.size=n;simpa using d,g⟩
def Ot:List ByteArray:=[⟨#[107,101,121]⟩,⟨#[114,101,102]⟩,⟨#[110,117,109]⟩,⟨#[112,105,99,107]⟩,⟨#[100,97,121]⟩,⟨#[115,116,101,112]⟩,⟨#[115,117,109]⟩,⟨#[115,104,97,114,101]⟩,⟨#[99,111,112,121]⟩]
structure LaidW(w:World):Prop where
 pow:Lib.TabIs prog w "internal/strconv.uint64pow10" .u64 Lib.pow10Tab
 cV:∀k (_:k<9),w.cell? ⟨1,k,none⟩=some (.string (Ot.getD k aC.nil))
 size:5<=w.heap.size
theorem aef:prog.globalNamed "internal/strconv.uint64pow10" =some 2:=by kernel_rfl
theorem LaidW.below{B:Nat}{w w':World}(h:LaidW w)(a:Below B w w')(hB:5<=B):LaidW w' where
 pow:=var?_below a aef aD h.pow
 cV k hk:=(a.cell (p:=⟨1,k,none⟩) (show 1<B by omega)).trans (h.cV k hk)
 size:=zxb h.size a.size
theorem LaidW.next{w w':World}(h:LaidW w)(a:BL w w'):LaidW w':=h.below a h.size
theorem IZ:∀(f n:Nat),n<10 ^ f->aC.xB f n=Lib.nDigits n
 |0,n,h=>by
  have:n=0:=Fa
  subst this;rw[Lib.nDigits_small aD];rfl
 |f+1,n,h=>by
  unfold aC.xB;split
  ·rename_i a;rw[Lib.nDigits_small a]
  ·rename_i a
   rw[Lib.nDigits_big a,IZ f (n / 10) (by rw[Nat.pow_succ] at h;omega)];omega
theorem K8(w:World)(k:Nat)(a:Array Obj):BL w (Go.Sort.grow (w.drewN k) a):=
 ⟨rfl,rfl,rfl,by simp[Go.Sort.grow],fun b c=>Go.Sort.heap_grow_old (w.drewN k) a c⟩
theorem Y6(n:Int)(h0: -1000000000000<=n)(h1:n<=1000000000000)(w:World)(b:LaidW w):
  CP 188 #[.int .i64 n] w fun e a=>∃s:ByteArray,e=.returned (.string s)/\s.size=aC.dN n/\BL w a:=by
 refine(Tryz.strconv_Itoa n aD aD w b.pow).mono ?_;rintro e a ⟨rfl,k,c,rfl⟩;refine⟨_,rfl,?_,K8 w k c⟩;show (Lib.itoa n).toArray.size=_
 rw[List.size_toArray];unfold Lib.itoa aC.dN;split
 ·rw[zxg,Lib.decDigits_length,IZ 40 _ aD];omega
 ·rw[Lib.decDigits_length,IZ 40 _ aD]
  have:n.natAbs=n.toNat:=aD
  rw[this];omega
end Go.Proofs.YtohddpbgflgiaaaGreatDoor
