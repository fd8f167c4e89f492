/- Part 7 of the walks and plain laws that the proof needs (packed). -/
import Derived.Deep.WholeRow
import Derived.Laws.Tables
import Derived.Laws.IdiomStrings
import Derived.BigRegion
import Derived.Shelf.Strings.Builder1
import Derived.Shelf.LaysM
import Derived.Shelf.Strconv.Itoa3
import Derived.Test.YtibacilhkciihaaGreatDoorProg
import Derived.WalkSmall
import Derived.Test.YtibacilhkciihaaGreatDoorQ1
import Derived.Test.YtibacilhkciihaaGreatDoorQ3
import Derived.Test.YtibacilhkciihaaGreatDoorQ4
import Derived.Test.YtibacilhkciihaaGreatDoorQ6
set_option linter.all false
set_option maxRecDepth 100000
set_option maxHeartbeats 8000000
namespace Go.Proofs.YtibacilhkciihaaGreatDoor
namespace Sub
abbrev S:=List (List Bool)
def keeps(s:S)(k i:Nat):Bool:=(s.getD k []).getD i false
def Fit(sh:List Nat)(s:S):Prop:=s.length=sh.length/\∀k,(s.getD k []).length=sh.getD k 0
def le(s t:S):Prop:=∀k i,keeps s k i=true->keeps t k i=true
theorem le.refl(s:S):le s s:=fun _ _ h=>h
theorem le.trans{s t u:S}(h:le s t)(g:le t u):le s u:=fun k i hk=>g k i (h k i hk)
theorem aQ{α:Type}{xs:List α}{d:α}{k:Nat}(h:k<xs.length):xs.getD k d=xs[k]:=by
 rw[jm,lE h];rfl
theorem sH{α:Type}{xs:List α}{d:α}{k:Nat}(h:xs.length<=k):xs.getD k d=d:=by
 rw[jm,List.getElem?_eq_none h];rfl
theorem Uy{a b:List Bool}(hl:a.length=b.length)(h:∀i,a.getD i false=b.getD i false):a=b:=by
 refine List.ext_getElem hl fun i h1 h2=>?_;have:=h i;rwa [aQ h1,aQ h2] at this
theorem ext{sh:List Nat}{s t:S}(hs:Fit sh s)(ht:Fit sh t)(h:∀k i,keeps s k i=keeps t k i):s=t:=by
 refine List.ext_getElem (by rw[hs.1,ht.1]) fun k h1 h2=>?_;have e1:=hs.2 k;have e2:=ht.2 k;have e3:=fun i=>h k i;unfold keeps at e3;rw[aQ h1] at e1;rw[aQ h2] at e2;rw[aQ h1,aQ h2] at e3;exact Uy aB e3
theorem le_antisymm{sh:List Nat}{s t:S}(hs:Fit sh s)(ht:Fit sh t)(h:le s t)(g:le t s):s=t:=
 ext hs ht fun k i=>by
  have h1:=h k i;have h2:=g k i;cases e1:keeps s k i<;>cases e2:keeps t k i<;>simp_all
def drop(s:S)(k i:Nat):S:=s.set k ((s.getD k []).set i false)
theorem yx{α:Type}(xs:List α)(k j:Nat)(x d:α):(xs.set k x).getD j d=if k=j/\j<xs.length then x else xs.getD j d:=by
 rw[jm,List.getElem?_set,jm];by_cases h:k=j
 ·subst h
  by_cases g:k<xs.length
  ·simp[g]
  ·simp[g]
 ·simp[h]
theorem lK(s:S)(k i k' i':Nat):keeps (drop s k i) k' i'=(keeps s k' i'&& !(decide (k'=k)&&decide (i'=i))):=by
 unfold keeps drop;rw[yx];by_cases h:k=k'/\k'<s.length
 ·rw[if_pos h,yx]
  obtain⟨rfl,h1⟩:=h;by_cases g:i=i'/\i'<(s.getD k []).length
  ·rw[if_pos g]
   simp[g.1]
  ·rw[if_neg g]
   by_cases e:i'=i
   ·subst e
    rw[sH aB];simp
   ·simp[e]
 ·rw[if_neg h]
  by_cases e:k'=k
  ·subst e
   rw[sH (xs:=s) aB];simp
  ·simp[e]
theorem Qh{sh:List Nat}{s:S}(h:Fit sh s)(k i:Nat):Fit sh (drop s k i):=by
 refine⟨by unfold drop;rw[List.length_set];exact h.1,fun j=>?_⟩;unfold drop;rw[yx];split
 ·rename_i g
  rw[List.length_set,g.1];exact h.2 j
 ·exact h.2 j
theorem KF(s:S)(k i:Nat):le (drop s k i) s:=fun k' i' h=>by
 rw[lK,pF] at h;exact h.1
theorem yA{s:S}{k i:Nat}(h:keeps s k i=true):k<s.length/\i<(s.getD k []).length:=by
 unfold keeps at h;constructor
 ·apply Classical.byContradiction;intro g
  rw[sH (xs:=s) aB] at h;simp at h
 ·apply Classical.byContradiction;intro g
  rw[sH aB] at h;cases h
def A4(k:Nat)(l:List Bool):List (Nat×Nat):=(List.range l.length).filterMap fun i=>if l.getD i false then some (k,i) else none
def kept(s:S):List (Nat×Nat):=(List.range s.length).flatMap fun k=>A4 k (s.getD k [])
theorem kg{s:S}{k i:Nat}:(k,i)∈kept s↔keeps s k i=true:=by
 unfold kept A4;simp only[List.mem_flatMap,List.mem_range,List.mem_filterMap];constructor
 ·rintro ⟨k',_,i',_,h⟩
  split at h
  ·rename_i g
   cases h;exact g
  ·cases h
 ·intro h
  have:=yA h;exact⟨k,this.1,i,this.2,by unfold keeps at h;rw[if_pos h]⟩
theorem Hu(k:Nat)(l:List Bool):(A4 k l).Nodup:=by
 unfold A4;refine List.Pairwise.filterMap _ (fun a a' h b hb b' hb'=>?_) (List.nodup_range (n:=l.length));split at hb
 ·split at hb'
  ·cases hb;cases hb'
   intro e;injection e with _ e2;exact h e2
  ·cases hb'
 ·cases hb
theorem rE(s:S):(kept s).Nodup:=by
 unfold kept;refine List.pairwise_flatMap.2 ⟨fun k _=>Hu k _,List.nodup_range.imp (fun {k k'} h x hx y hy e=>?_)⟩;subst e;unfold A4 at hx hy;simp only[List.mem_filterMap] at hx hy;obtain⟨i,_,e1⟩:=hx;obtain⟨j,_,e2⟩:=hy;split at e1
 ·split at e2
  ·have e3:=mM e1
   have e4:=mM e2;rw[<-e4] at e3;injection e3 with e5 _;exact h e5
  ·cases e2
 ·cases e1
def size(s:S):Nat:=(kept s).length
theorem length_le_of_subset{α:Type}[DecidableEq α]{l m:List α}(h:l.Nodup)(hs:∀x∈l,x∈m):l.length<=m.length:=by
 induction l generalizing m with
 |nil=>simp
 |cons x l ih=>
  have hx:x∈m:=hs x bp
  have hn:=List.nodup_cons.1 h
  have:=ih (m:=m.erase x) hn.2 (fun y hy=>(List.mem_erase_of_ne (by intro e;subst e;exact hn.1 hy)).2 (hs y (by simp[hy])))
  rw[List.length_erase_of_mem hx] at this
  have:0<m.length:=List.length_pos_of_mem hx
  simp only[List.length_cons]
  omega
theorem size_le{s t:S}(h:le s t):size s<=size t:=
 length_le_of_subset (rE s) fun x hx=>by obtain⟨k,i⟩:=x;exact kg.2 (h k i (kg.1 hx))
theorem KG{s t:S}(h:le s t){k i:Nat}(h1:keeps t k i=true)(h2:keeps s k i=false):size s<size t:=by
 have:((k,i)::kept s).length<=(kept t).length:=length_le_of_subset
  (List.nodup_cons.2 ⟨fun hm=>absurd (kg.1 hm) (by rw[h2];simp),rE s⟩) fun x hx=>by
   rcases kD.1 hx with e|hx
   ·rw[e];exact kg.2 h1
   ·obtain⟨a,b⟩:=x;exact kg.2 (h a b (kg.1 hx))
 simp only[List.length_cons] at this;unfold size;omega
theorem Dg{sh:List Nat}{s t:S}(hs:Fit sh s)(ht:Fit sh t)(h:le s t)(hne:s≠t):∃k i,keeps t k i=true/\keeps s k i=false:=by
 apply Classical.byContradiction;intro g;refine hne (le_antisymm hs ht h fun k i hk=>?_);cases e:keeps s k i
 ·exact absurd ⟨k,i,hk,e⟩ g
 ·rfl
def pass(W:S->Nat->Nat->Bool):List (Nat×Nat)->S->S
 |[],s=>s
 |x::l,s=>pass W l (if W s x.1 x.2 then drop s x.1 x.2 else s)
theorem nH{W:S->Nat->Nat->Bool}{sh:List Nat}:∀(l:List (Nat×Nat)) {s:S},Fit sh s->Fit sh (pass W l s)
 |[],_,h=>h
 |x::l,s,h=>nH l (by split;exact Qh h _ _;exact h)
theorem oq{W:S->Nat->Nat->Bool}:∀(l:List (Nat×Nat)) (s:S),le (pass W l s) s
 |[],s=>le.refl s
 |x::l,s=>by
  unfold pass;split
  ·exact(oq l _).trans (KF _ _ _)
  ·exact oq l s
def ou(W:S->Nat->Nat->Bool):Nat->S->S
 |0,s=>s
 |n+1,s=>if pass W (kept s) s=s then s else ou W n (pass W (kept s) s)
def great(W:S->Nat->Nat->Bool)(s:S):S:=ou W (size s) s
theorem uh{W:S->Nat->Nat->Bool}{sh:List Nat}{l:List (Nat×Nat)}{s:S}(hs:Fit sh s)(h:pass W l s≠s):size (pass W l s)<size s:=by
 obtain⟨k,i,h1,h2⟩:=Dg (nH l hs) hs (oq l s) h;exact KG (oq l s) h1 h2
theorem vC{W:S->Nat->Nat->Bool}{sh:List Nat}:∀(n m:Nat) {s:S},Fit sh s->size s<=n->size s<=m->ou W n s=ou W m s
 |0,0,_,_,_,_=>rfl
 |0,m+1,s,hs,hn,_=>by
  have h:kept s=[]:=List.eq_nil_of_length_eq_zero (by unfold size at hn;omega);unfold ou;rw[h];simp[pass]
 |n+1,0,s,hs,_,hm=>by
  have h:kept s=[]:=List.eq_nil_of_length_eq_zero (by unfold size at hm;omega);unfold ou;rw[h];simp[pass]
 |n+1,m+1,s,hs,hn,hm=>by
  unfold ou;split
  ·rfl
  ·rename_i h
   have:=uh (l:=kept s) (W:=W) hs h;exact vC n m (nH _ hs) aB aB
theorem Hv{W:S->Nat->Nat->Bool}{sh:List Nat}{s:S}(hs:Fit sh s):great W s=if pass W (kept s) s=s then s else great W (pass W (kept s) s):=by
 unfold great;by_cases h:pass W (kept s) s=s
 ·rw[if_pos h]
  cases e:size s with
  |zero=>rfl
  |succ n=>unfold ou;rw[if_pos h]
 ·rw[if_neg h]
  have:=uh (l:=kept s) (W:=W) hs h;cases e:size s with
  |zero=>omega
  |succ n=>
   rw[ou,if_neg h]
   exact vC _ _ (nH _ hs) aB aH
end Sub
namespace Sub
def places(sh:List Nat):List (Nat×Nat):=(List.range sh.length).flatMap fun k=>(List.range (sh.getD k 0)).map fun i=>(k,i)
def ow(s t:S):List (Nat×Nat)->Bool
 |[]=>false
 |x::l=>if keeps s x.1 x.2=keeps t x.1 x.2 then ow s t l else keeps s x.1 x.2
theorem qL(s:S):∀l,ow s s l=false
 |[]=>rfl
 |x::l=>by unfold ow;rw[if_pos rfl];exact qL s l
theorem sI{s t u:S}:∀l,ow s t l=true->ow t u l=true->ow s u l=true
 |[],h,_=>by cases h
 |x::l,h,g=>by
  unfold ow at h g ⊢;cases a:keeps s x.1 x.2<;>cases b:keeps t x.1 x.2<;>cases c:keeps u x.1 x.2<;>simp[a,b,c] at h g ⊢;all_goals exact sI l h g
def less(sh:List Nat)(s t:S):Bool:=decide (size s<size t)||(decide (size s=size t)&&ow s t (places sh))
theorem E1{sh:List Nat}{s t:S}:less sh s t=true↔size s<size t\/(size s=size t/\ow s t (places sh)=true):=by simp[less]
theorem mq(sh:List Nat)(s:S):less sh s s=false:=by
 cases h:less sh s s
 ·rfl
 ·rw[E1,qL] at h
  rcases h with h|h
  ·omega
  ·cases h.2
theorem Hw{sh:List Nat}{s t u:S}(h:less sh s t=true)(g:less sh t u=true):less sh s u=true:=by
 rw[E1] at h g ⊢;rcases h with h|⟨h,h2⟩<;>rcases g with g|⟨g,g2⟩
 ·exact .inl aB
 ·exact .inl aB
 ·exact .inl aB
 ·exact .inr ⟨aB,sI _ h2 g2⟩
theorem Hx{sh:List Nat}{s t:S}(h:less sh s t=true):less sh t s=false:=by
 cases g:less sh t s
 ·rfl
 ·have:=Hw h g
  rw[mq] at this;cases this
def Sorted(sh:List Nat)(l:List S):Prop:=l.Pairwise fun s t=>less sh s t=true
theorem sJ{sh:List Nat}{l:List S}(h:Sorted sh l):l.Nodup:=h.imp (fun {a b} hab e=>by rw[e,mq] at hab;cases hab)
theorem nI{sh:List Nat}:∀(l m:List S),Sorted sh l->Sorted sh m->(∀s,s∈l↔s∈m)->l=m
 |[],[],_,_,_=>rfl
 |[],y::m,_,_,h=>by have:=(h y).2 bp;simp at this
 |x::l,[],_,_,h=>by have:=(h x).1 bp;simp at this
 |x::l,y::m,hl,hm,h=>by
  have hl':=List.pairwise_cons.1 hl;have hm':=List.pairwise_cons.1 hm
  have e:x=y:=by
   rcases kD.1 ((h x).1 bp) with e|e
   ·exact e
   ·rcases kD.1 ((h y).2 bp) with e'|e'
    ·exact e'.symm
    ·have h1:=hm'.1 x e
     have h2:=hl'.1 y e';rw[Hx h1] at h2;cases h2
  subst e;congr 1;refine nI l m hl'.2 hm'.2 fun s=>⟨fun hs=>?_,fun hs=>?_⟩
  ·rcases kD.1 ((h s).1 (by simp[hs])) with e|e
   ·subst e
    have:=hl'.1 s hs;rw[mq] at this;cases this
   ·exact e
  ·rcases kD.1 ((h s).2 (by simp[hs])) with e|e
   ·subst e
    have:=hm'.1 s hs;rw[mq] at this;cases this
   ·exact e
end Sub
end Go.Proofs.YtibacilhkciihaaGreatDoor
namespace Go.Proofs.YtibacilhkciihaaGreatDoor
open Go.RowKit
def acQ(k:Nat)(n:Nat):List (Int×Int):=(List.range n).map fun i:Nat=>((k:Int),(i:Int))
def Xq(W:ah.eE):Nat->List (Int×Int)
 |0=>[]
 |k+1=>Xq W k++acQ k (W.getD k []).length
def rF(W:ah.eE):List (Int×Int):=Xq W W.length
theorem yB(W:ah.eE)(k:Nat):ah.total (W.take k)<=ah.total W:=by
 have:ah.total (W.take k++W.drop k)=ah.total (W.take k)+ah.total (W.drop k):=by simp only[ah.total,List.map_append,List.sum_append]
 rw[List.take_append_drop] at this;omega
abbrev lM(S:Nat->Prop):=eU (fun _ u (x:Bool)=>u=.bool x) S
abbrev kI(S:Nat->Prop):=eU (lM S) S
theorem lM.keep{S w w' v xs}(h:lM S w v xs)(hk:aD S w w'):lM S w' v xs:=eU.keep h hk fun _ _ h=>h
theorem lM.mono{S S' w v xs}(h:lM S w v xs)(hS:∀b,b<w.heap.size->S b->S' b):lM S' w v xs:=eU.mono h hS fun _ _ h=>h
theorem kI.keep{S w w' v xs}(h:kI S w v xs)(hk:aD S w w'):kI S w' v xs:=eU.keep h hk fun _ _ h=>lM.keep h hk
theorem kI.mono{S S' w v xs}(h:kI S w v xs)(hS:∀b,b<w.heap.size->S b->S' b):kI S' w v xs:=eU.mono h hS fun _ _ h=>lM.mono h hS
theorem Uz{α:Type}{l:List α}{k:Nat}{d:α}(h:k<l.length):l.getD k d=l[k]:=by
 rw[jm,lE h,zOg]
theorem yC{α:Type}{l:List α}{k:Nat}{d:α}(h:¬k<l.length):l.getD k d=d:=by
 rw[jm,List.getElem?_eq_none aB,Option.getD_none]
theorem yA{s:Sub.S}{k i:Nat}(h:Sub.keeps s k i=true):∃hk:k<s.length,i<s[k].length:=by
 unfold Sub.keeps at h;by_cases hk:k<s.length
 ·rw[Uz hk] at h
  refine⟨hk,?_⟩;by_cases hi:i<s[k].length
  ·exact hi
  ·rw[yC hi] at h
   exact absurd h bp
 ·rw[yC (l:=s) hk,yC bp] at h
  exact absurd h bp
def iM(S:Nat->Prop)(w:World)(v:Value)(xs:List Bool):Prop:=
 w.ownsRow 0 4 1 v xs.length (xs.map (Value.bool))/\∀b,v.ownBlock=some b->S b
theorem eW:eY (α:=List Bool) iM:=
 ⟨fun h k=>⟨cQ h.1 h.2 k,h.2⟩,fun h k=>⟨h.1,fun b hb=>k b (h.1.lt b hb).2 (h.2 b hb)⟩⟩
theorem iM.sl{S:Nat->Prop}{w:World}{v:Value}{xs:List Bool}(h:iM S w v xs):lM S w v xs:=
 lF h.1 h.2 bp (fun j h1 h2=>by simp)
theorem iM.nil(S:Nat->Prop)(w:World):iM S w (.slice none 0 0) []:=⟨World.ownsRow_nil _ _ _ _,fun b hb=>by simp[Value.ownBlock] at hb⟩
abbrev kJ:=gZ iM 87
theorem ez:eY (α:=List (List Bool)) kJ:=pq eW _
theorem kJ.sl{S:Nat->Prop}{w:World}{v:Value}{xs:List (List Bool)}(h:kJ S w v xs):kI S w v xs:=gZ.sl (R:=fun S=>lM S) eW (fun h=>iM.sl h) h
theorem Tryz.appB:jh Tryz.prog 87 4 1 1:=ji (z:=.bool false) (by kernel_rfl) (by kernel_rfl) rfl aB aB
section
variable {P:Program} {t e:TypeId} {bytes:Nat} {α:Type} {RR:(Nat->Prop)->World->Value->α->Prop} {w:World} {ops:Array Oper} {rest:List Oper} {o:Oper} {a:Act} {Q:Exit->Act->World->Prop}
theorem E2(hgd:o.guard=none)(s x:Operand)
  (ho:o.op=.call {callee:=.builtin .append,args:=#[s,x],argTypes:=#[t,t]})(hT:jh P t 4 1 bytes)
  {S:Nat->Prop}{w1:World}{v:Value}{xs:List Bool}(hs:a.eval s=v)(hown:iM S w1 v xs)(hb:BL w1 w)
  {ao:Option Addr}{m c:Nat}(hx:a.eval x=.slice ao m c){T:Nat->Prop}{ys:List Bool}(hy:lM T w (.slice ao m c) ys)
  (hsmall:xs.length+m<=1000000000)
  (h:∀v' w',iM (Grow S w1.heap.size) w' v' (xs++ys)->Turns (fun b=>some b=v.ownBlock) w w'->wpList P ops Q rest (a.put o.dst v') w'):
  wpList P ops Q (o::rest) a w:=by
 obtain⟨rfl,hok,us,l1,l2,l3⟩:=eU.news hy
 have qF:us=ys.map (Value.bool):=by
  exact OL
 have hsz:=hb.size;have f2':w.ownsRow 0 4 1 v xs.length (xs.map (Value.bool)):=cQ (S:=fun _=>True) hown.1 (fun _ _=>trivial) (aD.below hb);refine gB hgd s x ho hT hs f2' ao ys.length c hx hok us (by simpa using l1) l2 ?_ hsmall (Nat.zero_le _) (fun v' w' g1 g2 g3=>h v' w' ⟨?_,fun b hb'=>?_⟩ (Turns.fI g2 fun b hb'=>hb'.symm))
 ·rw[qF];intro u hu;obtain⟨y,_,rfl⟩:=List.mem_map.1 hu;rfl
 ·rw[xP,List.map_append,<-qF];exact g1
 ·rcases g3 with g3|g3
  ·rw[g3] at hb';exact .inl ⟨hown.2 b hb',(hown.1.lt b hb').2⟩
  ·rw[g3] at hb';exact .inr (by have:=mM hb';omega)
end
def gP(W:ah.eE):Sub.S:=W.map fun rows=>List.replicate rows.length true
theorem wT(n:Nat):madeCells (Value.bool false).cells (n*1)=(List.replicate n (Value.bool false)).toArray:=by
 apply Array.ext
 ·simp[madeCells,Value.cells]
 ·intro i h1 h2
  simp[madeCells,Value.cells,Nat.mod_one]
theorem yD{P:Program}{t e:TypeId}{b:Nat}(ht:P.underlying t=some (.slice e))(hi:(P.info? e).map (fun i=>(i.zero,i.size,i.bytes))=some (some (.bool false),1,b))(hb:b<=1000)
  (n:Nat)(hn:n<=1000000)(w:World):
  (Instr.makeSlice t (.int .i64 (n:Int)) (.int .i64 (n:Int))).run P w=.ok (.slice (some ⟨w.heap.size,0,none⟩) n n) (w.alloc (.cells (List.replicate n (Value.bool false)).toArray e)):=by
 obtain⟨i,h1,h2,h3,h4⟩:=info_parts hi
 have hy:(i.bytes:Int)*(n:Int)<=281474976710656:=by
  exact P8
 have hr:=run_make (P:=P) w t e i (.bool false) ht h1 h2 .i64 .i64 (n:Int) (n:Int) aB aB hy aB;rw[h3,Int.toNat_natCast,wT] at hr;exact hr
theorem iM.set{S:Nat->Prop}{w:World}{g n cap:Nat}{xs:List Bool}(h:iM S w (.slice (some ⟨g,0,none⟩) n cap) xs)(hn:n=xs.length)(j:Nat)(x:Bool):
  iM S (w.setCell ⟨g,j,none⟩ (.bool x)) (.slice (some ⟨g,0,none⟩) n cap) (xs.set j x):=by
 subst hn;refine⟨?_,h.2⟩;rw[List.length_set,List.map_set];exact qG h.1 j _
end Go.Proofs.YtibacilhkciihaaGreatDoor
namespace Go.Proofs.YtibacilhkciihaaGreatDoor.Vm
open ah (eE cA)
open Go.RowKit (wrap64)
structure Ins where
 op:Int
 a:Int
 b:Int
 c:Int
def KH:Ins:=⟨0,0,0,0⟩
def ZY:List (List Int):=[[1,0,0],[2,3,0],[2,2,2],[2,2,2],[2,4,0],[2,4,5],[6,0,0],[2,2,6],[2,2,6]]
def Qi(op:Int)(k:Nat):Int:=(ZY.getD op.toNat []).getD k 0
def Z0(s:Int):Int:=if s=3 then -1048576 else 0
def acR(s n:Int):Int:=if s=1 then 250 else if s=2 then 7 else if s=3 then 1048576 else if s=4 then 5 else if s=5 then 9 else if s=6 then n else 0
def oQ(s v n:Int):Bool:=decide (Z0 s<=v)&&decide (v<=acR s n)
def opB(i:Ins):Bool:=decide (0<=i.op)&&decide (i.op<9)
def insB(n:Int)(i:Ins):Bool:=opB i&&oQ (Qi i.op 0) i.a n&&oQ (Qi i.op 1) i.b n&&oQ (Qi i.op 2) i.c n
def nX(p:List Ins):Int:=if 128<p.length then 4 else if p.all (insB p.length)=true then 0 else 1
end Go.Proofs.YtibacilhkciihaaGreatDoor.Vm
namespace Go.Proofs.YtibacilhkciihaaGreatDoor.bV
open ah (eE cA)
structure Ref where
 kind:Nat
 field:Nat
 up:Int
 least:Int
def yE(x:cA)(k j:Nat):List Ref:=if (ah.fd x k j).kind=1 then [⟨k,j,ah.dI x k j,(ah.fd x k j).lo⟩] else []
def mr(x:cA)(k n:Nat):List Ref:=(List.range n).flatMap (yE x k)
def qM(x:cA)(n:Nat):List Ref:=(List.range n).flatMap fun k=>mr x k (ah.kd x k).aG.length
def iN(x:cA):List Ref:=qM x x.aA.length
theorem Hy(x:cA)(k:Nat):mr x k 0=[]:=rfl
theorem rG(x:cA)(k n:Nat):mr x k (n+1)=mr x k n++yE x k n:=by simp[mr,List.range_succ]
theorem yF(x:cA)(n:Nat):qM x (n+1)=qM x n++mr x n (ah.kd x n).aG.length:=by simp[qM,List.range_succ]
theorem L0{x:cA}{k j:Nat}(h:(ah.fd x k j).kind=1):yE x k j=[⟨k,j,ah.dI x k j,(ah.fd x k j).lo⟩]:=if_pos h
theorem Qj{x:cA}{k j:Nat}(h:¬(ah.fd x k j).kind=1):yE x k j=[]:=if_neg h
def rR(W:eE)(k i j:Nat):Int:=((W.getD k []).getD i []).getD j 0
def pX(W:eE)(s:Sub.S)(r:Ref)(i:Int)(n:Nat):Nat:=((List.range n).filter fun a=>Sub.keeps s r.kind a&&decide (rR W r.kind a r.field=i)).length
def KI(W:eE)(s:Sub.S)(r:Ref)(i:Int):Nat:=pX W s r i (W.getD r.kind []).length
def yG(W:eE)(s:Sub.S)(k i:Nat)(r:Ref):Bool:=
 (decide (r.kind=k)&& !Sub.keeps s r.up.toNat (rR W k i r.field).toNat)||(decide (r.up=k)&&decide ((KI W s r i:Int)<r.least))
def wrong(rs:List Ref)(W:eE)(s:Sub.S)(k i:Nat):Bool:=rs.any (yG W s k i)
def oQ(x:cA)(W:eE):Bool:=
 decide (W.length=x.aA.length)&&(List.range W.length).all (fun k=>(W.getD k []).all fun r=>decide (r.length=(ah.kd x k).aG.length))&&
 (iN x).all (fun r=>(W.getD r.kind []).all fun l=>decide (0<=l.getD r.field 0)&&decide (l.getD r.field 0<ah.fQ W r.up))&&decide (ah.total W<=512)
def ox(W:eE)(s:Sub.S):Bool:=decide (W.map List.length=s.map List.length)
def shape(W:eE):List Nat:=W.map List.length
theorem Hz{W:eE}{s:Sub.S}(h:ox W s=true):Sub.Fit (shape W) s:=by
 have h:=of_decide_eq_true h;refine⟨by simpa [shape] using (congrArg List.length h).symm,fun k=>?_⟩;have hk:=congrArg (fun l=>l.getD k 0) h;simp only[jm,List.getElem?_map,shape] at hk ⊢;rw[hk];cases s[k]?<;>rfl
theorem H9{W:eE}{s:Sub.S}(h:Sub.Fit (shape W) s):ox W s=true:=by
 refine decide_eq_true (List.ext_getElem (by simpa [shape] using h.1.symm) fun k h1 h2=>?_);have hk:=h.2 k;simp only[Bp] at h1 h2;simp only[jm,List.getElem?_map,shape,lE h1,lE h2,zOg,Option.map_some] at hk;rw[List.getElem_map,List.getElem_map];exact hk.symm
def uj(x:cA)(W:eE)(s:Sub.S):Int:=if ah.okB x=true then (if oQ x W=true then (if ox W s=true then 0 else 1) else 2) else 1
structure sK(x:cA)(W:eE):Prop where
 aA:x.aA.length<=6
 aG:∀k:Nat,(ah.kd x k).aG.length<=10
 refs:∀r∈iN x,r.kind<x.aA.length/\r.field<(ah.kd x r.kind).aG.length/\0<=r.up/\r.up<r.kind/\0<=r.least/\r.least<=65536/\(ah.fd x r.kind r.field).kind=1/\r.up=ah.dI x r.kind r.field
 len:W.length=x.aA.length
 rF:∀k (h:k<W.length),∀r∈W[k],r.length=(ah.kd x k).aG.length
 lead:∀r∈iN x,∀i (h:r.kind<W.length) (_hi:i<W[r.kind].length),0<=rR W r.kind i r.field/\rR W r.kind i r.field<ah.fQ W r.up
 tot:ah.total W<=512
theorem BO{x:cA}{r:Ref}(h:r∈iN x):r.kind<x.aA.length/\r.field<(ah.kd x r.kind).aG.length/\(ah.fd x r.kind r.field).kind=1/\r.up=ah.dI x r.kind r.field/\r.least=(ah.fd x r.kind r.field).lo:=by
 unfold iN qM at h;rw[List.mem_flatMap] at h;obtain⟨k,hk,h⟩:=h;unfold mr at h;rw[List.mem_flatMap] at h;obtain⟨j,hj,h⟩:=h;rw[List.mem_range] at hk hj;unfold yE at h;split at h
 ·rename_i h1
  rw[mL] at h;subst h;exact⟨hk,hj,h1,rfl,rfl⟩
 ·simp at h
theorem qn{x:cA}(h:ah.okB x=true):ah.nX x=0/\(∀i,i<x.aA.length->ah.xW x i=0/\∀j,j<(ah.kd x i).aG.length->ah.nZ x i j=0):=by
 unfold ah.okB at h;simp only[pF,qZ,List.all_eq_true,List.mem_range] at h;exact⟨h.1.1.1,fun i hi=>⟨(h.1.2 i hi).1,fun j hj=>(h.1.2 i hi).2 j hj⟩⟩
theorem pY{x:cA}(h:ah.nX x=0):x.aA.length<=6/\x.aP.length<=6/\x.aR.length<=16/\∀k∈x.aA,ah.oM k=true:=by
 unfold ah.nX at h;split at h
 ·rename_i hv
  unfold ah.pG at hv;simp only[pF,qZ,List.all_eq_true] at hv;exact⟨hv.1.1.1.1.1.2,hv.1.1.1.1.2,hv.1.1.1.2,hv.1.1.2⟩
 ·omega
theorem Qk{x:cA}{k:Nat}(h:k<x.aA.length):ah.kd x k∈x.aA:=by
 unfold ah.kd;rw[Int.toNat_natCast,jm,lE h];exact gm h
theorem Z1{x:cA}{k:Nat}(h:¬k<x.aA.length):ah.kd x k=ah.J6:=by
 unfold ah.kd;rw[Int.toNat_natCast,jm,List.getElem?_eq_none aB];rfl
theorem Z2{x:cA}{k j:Nat}(h:j<(ah.kd x k).aG.length):ah.fd x k j∈(ah.kd x k).aG:=by
 unfold ah.fd;rw[Int.toNat_natCast,jm,lE h];exact gm h
theorem lN{k:ah.dZ}(h:ah.oM k=true):k.aG.length<=10/\∀f∈k.aG,ah.cV f=true:=by
 unfold ah.oM at h;simp only[pF,qZ,List.all_eq_true] at h;exact⟨h.1.2,h.2⟩
theorem Ql{f:ah.cD}(h:ah.cV f=true)(hk:f.kind=1):0<=f.lo/\f.lo<=65536:=by
 unfold ah.cV ah.lG at h;rw[hk] at h;simp[ah.fJ] at h;omega
theorem Xr{x:cA}{W:eE}(h:ah.okB x=true)(hf:oQ x W=true):sK x W:=by
 obtain⟨hv,hE⟩:=qn h;obtain⟨h6, -, -,hK⟩:=pY hv;unfold oQ at hf;simp only[pF,qZ,List.all_eq_true,List.mem_range] at hf;obtain⟨⟨⟨f1,f2⟩,f3⟩,f4⟩:=hf;have Z3:∀{k:Nat} (hk:k<W.length),W.getD k []=W[k]:=fun {k} hk=>by rw[jm,lE hk];rfl
 refine⟨h6,fun k=>?_,fun r hr=>?_,f1,fun k hk r hr=>f2 k hk r (by rw[Z3 hk];exact hr),fun r hr i hk hi=>?_,f4⟩
 ·by_cases hk:k<x.aA.length
  ·exact(lN (hK _ (Qk hk))).1
  ·rw[Z1 hk];exact Nat.zero_le _
 ·obtain⟨r1,r2,r3,r4,r5⟩:=BO hr
  have Qm:=(hE _ r1).2 _ r2
  have hup:0<=ah.dI x r.kind r.field:=by
   unfold ah.nZ at Qm;split at Qm
   ·omega
   ·unfold ah.xV at Qm
    simp only[r3] at Qm;by_cases hu:ah.dI x r.kind r.field<0
    ·simp[hu] at Qm
    ·omega
  have hsp:=Ql ((lN (hK _ (Qk r1))).2 _ (Z2 r2)) r3;have hlt:=ah.tY x r.kind r.field aB;exact⟨r1,r2,aB,aB,aB,aB,r3,r4⟩
 ·have:=f3 r hr W[r.kind][i] (by rw[Z3 hk];exact gm hi)
  have e:rR W r.kind i r.field=W[r.kind][i].getD r.field 0:=by
   unfold rR;rw[Z3 hk,jm (l:=W[r.kind]),lE hi];rfl
  rw[e];exact this
theorem BP{x:cA}(h6:x.aA.length<=6)(hf:∀k:Nat,(ah.kd x k).aG.length<=10):∀n,n<=x.aA.length->(qM x n).length<=10*n
 |0,_=>aH
 |n+1,hn=>by
  have ih:=BP h6 hf n aB
  have h2:∀(k m:Nat),(mr x k m).length<=m:=fun k m=>by
   induction m with
   |zero=>exact aH
   |succ m ihm=>
    rw[rG,xP]
    have:(yE x k m).length<=1:=by unfold yE;split<;>simp
    omega
  rw[yF,xP];have:=h2 n (ah.kd x n).aG.length;have:=hf n;omega
theorem sK.many{x:cA}{W:eE}(h:sK x W):(iN x).length<=60:=by
 have:=BP h.aA h.aG x.aA.length aH;unfold iN;have:=h.aA;omega
end Go.Proofs.YtibacilhkciihaaGreatDoor.bV
namespace Go.Proofs.YtibacilhkciihaaGreatDoor
open Go.RowKit
theorem Xt{us:List Value}(h:us.length=2):∃a b,us=[a,b]:=by
 match us,h with
 |[a,b],_=>exact⟨a,b,rfl⟩
theorem Xu{us:List Value}(h:us.length=3):∃a b c,us=[a,b,c]:=by
 match us,h with
 |[a,b,c],_=>exact⟨a,b,c,rfl⟩
theorem Xv{us:List Value}(h:us.length=4):∃a b c d,us=[a,b,c,d]:=by
 match us,h with
 |[a,b,c,d],_=>exact⟨a,b,c,d,rfl⟩
theorem Xw{us:List Value}(h:us.length=5):∃a b c d e,us=[a,b,c,d,e]:=by
 match us,h with
 |[a,b,c,d,e],_=>exact⟨a,b,c,d,e,rfl⟩
theorem Xx{us:List Value}(h:us.length=8):∃a b c d e f g i,us=[a,b,c,d,e,f,g,i]:=by
 match us,h with
 |[a,b,c,d,e,f,g,i],_=>exact⟨a,b,c,d,e,f,g,i,rfl⟩
theorem ko{α:Type}(p:α->Bool)(F:List α):decide (0<=ah.fK p F 0)=F.any p:=by
 rcases ah.iy p F with⟨h1,h2⟩|⟨k,hk,h1,h2,h3⟩
 ·rw[h1]
  have:F.any p=false:=by
   rw[List.any_eq_false];intro x hx;obtain⟨j,hj,rfl⟩:=List.getElem_of_mem hx;rw[h2 j hj];simp
  rw[this];decide
 ·rw[h1,List.any_eq_true.2 ⟨_,gm hk,h2⟩]
  exact decide_eq_true aB
theorem jS{α:Type}(p:α->Bool)(F:List α):ah.fK p F 0<F.length\/ah.fK p F 0= -1:=by
 rcases ah.iy p F with⟨h1,h2⟩|⟨k,hk,h1,h2,h3⟩
 ·exact .inr h1
 ·exact .inl (by rw[h1];omega)
theorem yH{p:Prop}(h:p:=by
  have HE1:Hid (p F[k]=true->ah.fK p F 0=k):=hid (fun h=>by simpa using ah.mh (i:=0) hlt (fun j hj hjk=>hpre.out j hj hjk) h)
  have HE2:Hid (p F[k]=false->∀j (h:j<F.length),j<k+1->p F[j]=false):=hid (fun h j hj hjk=>by
   by_cases e:j=k
   ·subst e;exact h
   ·exact hpre.out j hj aB)
  obtain⟨pb,hpb⟩:=bB (p F[k])
  rw[<-hpb] at HC HE1 HE2
  clear hpb
  cases pb with
  |true=>
   have Wr:=hid (HE1.out rfl)
   clear HE1 HE2
   go_wp2_with fail
   refine HC.out.mono ?_
   rintro e w' ⟨rfl,hb2⟩
   have bX:=aU hb hb2
   clear hb2
   go_wp2
   go_ret
   exact⟨zT65,bX.out⟩
  |false=>
   have Wr:=hid (HE2.out rfl)
   clear HE1 HE2
   go_wp2_with fail
   refine HC.out.mono ?_
   rintro e w' ⟨rfl,hb2⟩
   have bX:=aU hb hb2
   clear hb2
   go_wp2
   go_roundw
   case rel=>exact⟨k+1,aB,by go_num,Wr,bX⟩
   simp[intOf];omega):p:=h
theorem yI{p:Prop}(h:p:=by
  have HE:Hid (ah.fK p F 0= -1):=hid (ah.lm fun j hj=>hpre.out j hj aB)
  obtain rfl:k=F.length:=aB
  go_wp2
  go_ret
  exact⟨qU,hb.out⟩):p:=h
theorem Qn{α:Type}{RR:(Nat->Prop)->World->List Value->α->Prop}(hR:cH RR)(F:List α)(p:α->Bool)(v:Value)(S:Nat->Prop)(w:World)(hv:dQ 8 (RR S) S w v F)(fo:Nat)(lb:Array Value)(mI:∀args w,(callFunc fo args).run Tryz.prog w=.ok (.enter fo args) w)
  (hp:∀X,BL w X->∀j (h:j<F.length) us,us.length=8->RR S X us F[j]->CP fo (#[.agg us.toArray]++lb) X fun e w'=>e=.returned (.bool (p F[j]))/\BL X w'):
  Calls Tryz.prog 77 #[v,.func (.func fo) #[] lb] w fun e w'=>e=.returned (.int .i64 (ah.fK p F 0))/\BL w w':=by
 have HV:=hid hv;obtain⟨a,cap,rfl,hok,hcap,hmax⟩:=hv.form;clear hv;have HP:=hid hp;clear hp;go_enter Tryz.func77,Tryz.ntmps77;go_wp2;go_loopw [8] (fun i wr=>∃k:Nat,k<=F.length/\i=.int .i64 k/\Hid (∀j (h:j<F.length),j<k->p F[j]=false)/\Hid (BL w wr)) (fun i _=>F.length-(intOf i).toNat);case atStart=>exact⟨0,Nat.zero_le _,rfl,hid fun j _ h=>absurd h aB,hid aF⟩
 case round=>
  obtain⟨k,hk,rfl,hpre,hb⟩:=hrel;by_cases hlt:k<F.length
  ·have hk0:(0:Int)<=(k:Int):=by omega
   have hk1:(k:Int)<(F.length:Int):=aB
   obtain⟨-,us,hl,hx,hx2⟩:=(dQ.keep hR HV.out (aD.below hb.out)).at hlt;have HC:=hid (HP.out wr hb.out k hlt us hl hx2);obtain⟨u0,u1,u2,u3,u4,u5,u6,u7,rfl⟩:=Xx hl;have y0:wr.cell? ⟨bL a,bP a+k*8,none⟩=some u0:=hx 0 u0 rfl;have y1:wr.cell? ⟨bL a,bP a+k*8+1,none⟩=some u1:=hx 1 u1 rfl;have y2:wr.cell? ⟨bL a,bP a+k*8+2,none⟩=some u2:=hx 2 u2 rfl;have y3:wr.cell? ⟨bL a,bP a+k*8+3,none⟩=some u3:=hx 3 u3 rfl;have y4:wr.cell? ⟨bL a,bP a+k*8+4,none⟩=some u4:=hx 4 u4 rfl;have y5:wr.cell? ⟨bL a,bP a+k*8+5,none⟩=some u5:=hx 5 u5 rfl;have y6:wr.cell? ⟨bL a,bP a+k*8+6,none⟩=some u6:=hx 6 u6 rfl;have y7:wr.cell? ⟨bL a,bP a+k*8+7,none⟩=some u7:=hx 7 u7 rfl;clear hx hx2 hl;exact yH
  ·exact yI
theorem vD{p:Prop}(h:p:=by
  go_wp2_with fail
  refine H.out.mono ?_
  rintro e w' ⟨rfl,hb⟩
  have HB:=hid hb
  clear hb
  go_wp2
  go_ret
  exact⟨mS HZ.out,HB.out⟩):p:=h
theorem UA{α:Type}{RR:(Nat->Prop)->World->List Value->α->Prop}(hR:cH RR)(F:List α)(p:α->Bool)(v:Value)(S:Nat->Prop)(w:World)(hv:dQ 8 (RR S) S w v F)(fo:Nat)(lb:Array Value)(mI:∀args w,(callFunc fo args).run Tryz.prog w=.ok (.enter fo args) w)
  (hp:∀X,BL w X->∀j (h:j<F.length) us,us.length=8->RR S X us F[j]->CP fo (#[.agg us.toArray]++lb) X fun e w'=>e=.returned (.bool (p F[j]))/\BL X w'):
  Calls Tryz.prog 137 #[v,.func (.func fo) #[] lb] w fun e w'=>e=.returned (.bool (F.any p))/\BL w w':=by
 have H:=hid (Qn hR F p v S w hv fo lb mI hp);obtain⟨a,cap,rfl, -, -, -⟩:=hv.form;have HZ:=hid (ko p F);have HL:=hid (jS p F);have hg:=ah.iI p F 0;have hm:(F.length:Int)<=9223372036854775807:=Wp
 clear hv hp;generalize ah.fK p F 0=z at*;generalize F.any p=b at*;have hz2:z<9223372036854775807:=CO
 go_enter Tryz.func137,Tryz.ntmps137;exact vD
theorem Qo{α:Type}{RR:(Nat->Prop)->World->List Value->α->Prop}(hR:cH RR)(F:List α)(p:α->Bool)(v:Value)(S:Nat->Prop)(w:World)(hv:dQ 4 (RR S) S w v F)(fo:Nat)(lb:Array Value)(mI:∀args w,(callFunc fo args).run Tryz.prog w=.ok (.enter fo args) w)
  (hp:∀X,BL w X->∀j (h:j<F.length) us,us.length=4->RR S X us F[j]->CP fo (#[.agg us.toArray]++lb) X fun e w'=>e=.returned (.bool (p F[j]))/\BL X w'):
  Calls Tryz.prog 118 #[v,.func (.func fo) #[] lb] w fun e w'=>e=.returned (.int .i64 (ah.fK p F 0))/\BL w w':=by
 have HV:=hid hv;obtain⟨a,cap,rfl,hok,hcap,hmax⟩:=hv.form;clear hv;have HP:=hid hp;clear hp;go_enter Tryz.func118,Tryz.ntmps118;go_wp2;go_loopw [8] (fun i wr=>∃k:Nat,k<=F.length/\i=.int .i64 k/\Hid (∀j (h:j<F.length),j<k->p F[j]=false)/\Hid (BL w wr)) (fun i _=>F.length-(intOf i).toNat);case atStart=>exact⟨0,Nat.zero_le _,rfl,hid fun j _ h=>absurd h aB,hid aF⟩
 case round=>
  obtain⟨k,hk,rfl,hpre,hb⟩:=hrel;by_cases hlt:k<F.length
  ·have hk0:(0:Int)<=(k:Int):=by omega
   have hk1:(k:Int)<(F.length:Int):=aB
   obtain⟨-,us,hl,hx,hx2⟩:=(dQ.keep hR HV.out (aD.below hb.out)).at hlt;have HC:=hid (HP.out wr hb.out k hlt us hl hx2);obtain⟨u0,u1,u2,u3,rfl⟩:=Xv hl;have y0:wr.cell? ⟨bL a,bP a+k*4,none⟩=some u0:=hx 0 u0 rfl;have y1:wr.cell? ⟨bL a,bP a+k*4+1,none⟩=some u1:=hx 1 u1 rfl;have y2:wr.cell? ⟨bL a,bP a+k*4+2,none⟩=some u2:=hx 2 u2 rfl;have y3:wr.cell? ⟨bL a,bP a+k*4+3,none⟩=some u3:=hx 3 u3 rfl;clear hx hx2 hl;exact yH
  ·exact yI
theorem UB{α:Type}{RR:(Nat->Prop)->World->List Value->α->Prop}(hR:cH RR)(F:List α)(p:α->Bool)(v:Value)(S:Nat->Prop)(w:World)(hv:dQ 4 (RR S) S w v F)(fo:Nat)(lb:Array Value)(mI:∀args w,(callFunc fo args).run Tryz.prog w=.ok (.enter fo args) w)
  (hp:∀X,BL w X->∀j (h:j<F.length) us,us.length=4->RR S X us F[j]->CP fo (#[.agg us.toArray]++lb) X fun e w'=>e=.returned (.bool (p F[j]))/\BL X w'):
  Calls Tryz.prog 102 #[v,.func (.func fo) #[] lb] w fun e w'=>e=.returned (.bool (F.any p))/\BL w w':=by
 have H:=hid (Qo hR F p v S w hv fo lb mI hp);obtain⟨a,cap,rfl, -, -, -⟩:=hv.form;have HZ:=hid (ko p F);have HL:=hid (jS p F);have hg:=ah.iI p F 0;have hm:(F.length:Int)<=9223372036854775807:=Wp
 clear hv hp;generalize ah.fK p F 0=z at*;generalize F.any p=b at*;have hz2:z<9223372036854775807:=CO
 go_enter Tryz.func102,Tryz.ntmps102;exact vD
theorem Z4{α:Type}{RR:(Nat->Prop)->World->List Value->α->Prop}(hR:cH RR)(F:List α)(p:α->Bool)(v:Value)(S:Nat->Prop)(w:World)(hv:dQ 3 (RR S) S w v F)(fo:Nat)(lb:Array Value)(mI:∀args w,(callFunc fo args).run Tryz.prog w=.ok (.enter fo args) w)
  (hp:∀X,BL w X->∀j (h:j<F.length) us,us.length=3->RR S X us F[j]->CP fo (#[.agg us.toArray]++lb) X fun e w'=>e=.returned (.bool (p F[j]))/\BL X w'):
  Calls Tryz.prog 75 #[v,.func (.func fo) #[] lb] w fun e w'=>e=.returned (.int .i64 (ah.fK p F 0))/\BL w w':=by
 have HV:=hid hv;obtain⟨a,cap,rfl,hok,hcap,hmax⟩:=hv.form;clear hv;have HP:=hid hp;clear hp;go_enter Tryz.func75,Tryz.ntmps75;go_wp2;go_loopw [8] (fun i wr=>∃k:Nat,k<=F.length/\i=.int .i64 k/\Hid (∀j (h:j<F.length),j<k->p F[j]=false)/\Hid (BL w wr)) (fun i _=>F.length-(intOf i).toNat);case atStart=>exact⟨0,Nat.zero_le _,rfl,hid fun j _ h=>absurd h aB,hid aF⟩
 case round=>
  obtain⟨k,hk,rfl,hpre,hb⟩:=hrel;by_cases hlt:k<F.length
  ·have hk0:(0:Int)<=(k:Int):=by omega
   have hk1:(k:Int)<(F.length:Int):=aB
   obtain⟨-,us,hl,hx,hx2⟩:=(dQ.keep hR HV.out (aD.below hb.out)).at hlt;have HC:=hid (HP.out wr hb.out k hlt us hl hx2);obtain⟨u0,u1,u2,rfl⟩:=Xu hl;have y0:wr.cell? ⟨bL a,bP a+k*3,none⟩=some u0:=hx 0 u0 rfl;have y1:wr.cell? ⟨bL a,bP a+k*3+1,none⟩=some u1:=hx 1 u1 rfl;have y2:wr.cell? ⟨bL a,bP a+k*3+2,none⟩=some u2:=hx 2 u2 rfl;clear hx hx2 hl;exact yH
  ·exact yI
theorem Dh{α:Type}{RR:(Nat->Prop)->World->List Value->α->Prop}(hR:cH RR)(F:List α)(p:α->Bool)(v:Value)(S:Nat->Prop)(w:World)(hv:dQ 3 (RR S) S w v F)(fo:Nat)(lb:Array Value)(mI:∀args w,(callFunc fo args).run Tryz.prog w=.ok (.enter fo args) w)
  (hp:∀X,BL w X->∀j (h:j<F.length) us,us.length=3->RR S X us F[j]->CP fo (#[.agg us.toArray]++lb) X fun e w'=>e=.returned (.bool (p F[j]))/\BL X w'):
  Calls Tryz.prog 43 #[v,.func (.func fo) #[] lb] w fun e w'=>e=.returned (.bool (F.any p))/\BL w w':=by
 have H:=hid (Z4 hR F p v S w hv fo lb mI hp);obtain⟨a,cap,rfl, -, -, -⟩:=hv.form;have HZ:=hid (ko p F);have HL:=hid (jS p F);have hg:=ah.iI p F 0;have hm:(F.length:Int)<=9223372036854775807:=Wp
 clear hv hp;generalize ah.fK p F 0=z at*;generalize F.any p=b at*;have hz2:z<9223372036854775807:=CO
 go_enter Tryz.func43,Tryz.ntmps43;exact vD
theorem Z5{α:Type}{RR:(Nat->Prop)->World->List Value->α->Prop}(hR:cH RR)(F:List α)(p:α->Bool)(v:Value)(S:Nat->Prop)(w:World)(hv:dQ 5 (RR S) S w v F)(fo:Nat)(lb:Array Value)(mI:∀args w,(callFunc fo args).run Tryz.prog w=.ok (.enter fo args) w)
  (hp:∀X,BL w X->∀j (h:j<F.length) us,us.length=5->RR S X us F[j]->CP fo (#[.agg us.toArray]++lb) X fun e w'=>e=.returned (.bool (p F[j]))/\BL X w'):
  Calls Tryz.prog 120 #[v,.func (.func fo) #[] lb] w fun e w'=>e=.returned (.int .i64 (ah.fK p F 0))/\BL w w':=by
 have HV:=hid hv;obtain⟨a,cap,rfl,hok,hcap,hmax⟩:=hv.form;clear hv;have HP:=hid hp;clear hp;go_enter Tryz.func120,Tryz.ntmps120;go_wp2;go_loopw [8] (fun i wr=>∃k:Nat,k<=F.length/\i=.int .i64 k/\Hid (∀j (h:j<F.length),j<k->p F[j]=false)/\Hid (BL w wr)) (fun i _=>F.length-(intOf i).toNat);case atStart=>exact⟨0,Nat.zero_le _,rfl,hid fun j _ h=>absurd h aB,hid aF⟩
 case round=>
  obtain⟨k,hk,rfl,hpre,hb⟩:=hrel;by_cases hlt:k<F.length
  ·have hk0:(0:Int)<=(k:Int):=by omega
   have hk1:(k:Int)<(F.length:Int):=aB
   obtain⟨-,us,hl,hx,hx2⟩:=(dQ.keep hR HV.out (aD.below hb.out)).at hlt;have HC:=hid (HP.out wr hb.out k hlt us hl hx2);obtain⟨u0,u1,u2,u3,u4,rfl⟩:=Xw hl;have y0:wr.cell? ⟨bL a,bP a+k*5,none⟩=some u0:=hx 0 u0 rfl;have y1:wr.cell? ⟨bL a,bP a+k*5+1,none⟩=some u1:=hx 1 u1 rfl;have y2:wr.cell? ⟨bL a,bP a+k*5+2,none⟩=some u2:=hx 2 u2 rfl;have y3:wr.cell? ⟨bL a,bP a+k*5+3,none⟩=some u3:=hx 3 u3 rfl;have y4:wr.cell? ⟨bL a,bP a+k*5+4,none⟩=some u4:=hx 4 u4 rfl;clear hx hx2 hl;exact yH
  ·exact yI
theorem KJ{α:Type}{RR:(Nat->Prop)->World->List Value->α->Prop}(hR:cH RR)(F:List α)(p:α->Bool)(v:Value)(S:Nat->Prop)(w:World)(hv:dQ 5 (RR S) S w v F)(fo:Nat)(lb:Array Value)(mI:∀args w,(callFunc fo args).run Tryz.prog w=.ok (.enter fo args) w)
  (hp:∀X,BL w X->∀j (h:j<F.length) us,us.length=5->RR S X us F[j]->CP fo (#[.agg us.toArray]++lb) X fun e w'=>e=.returned (.bool (p F[j]))/\BL X w'):
  Calls Tryz.prog 79 #[v,.func (.func fo) #[] lb] w fun e w'=>e=.returned (.bool (F.any p))/\BL w w':=by
 have H:=hid (Z5 hR F p v S w hv fo lb mI hp);obtain⟨a,cap,rfl, -, -, -⟩:=hv.form;have HZ:=hid (ko p F);have HL:=hid (jS p F);have hg:=ah.iI p F 0;have hm:(F.length:Int)<=9223372036854775807:=Wp
 clear hv hp;generalize ah.fK p F 0=z at*;generalize F.any p=b at*;have hz2:z<9223372036854775807:=CO
 go_enter Tryz.func79,Tryz.ntmps79;exact vD
theorem Z6{α:Type}{RR:(Nat->Prop)->World->List Value->α->Prop}(hR:cH RR)(F:List α)(p:α->Bool)(v:Value)(S:Nat->Prop)(w:World)(hv:dQ 2 (RR S) S w v F)(fo:Nat)(lb:Array Value)(mI:∀args w,(callFunc fo args).run Tryz.prog w=.ok (.enter fo args) w)
  (hp:∀X,BL w X->∀j (h:j<F.length) us,us.length=2->RR S X us F[j]->CP fo (#[.agg us.toArray]++lb) X fun e w'=>e=.returned (.bool (p F[j]))/\BL X w'):
  Calls Tryz.prog 174 #[v,.func (.func fo) #[] lb] w fun e w'=>e=.returned (.int .i64 (ah.fK p F 0))/\BL w w':=by
 have HV:=hid hv;obtain⟨a,cap,rfl,hok,hcap,hmax⟩:=hv.form;clear hv;have HP:=hid hp;clear hp;go_enter Tryz.func174,Tryz.ntmps174;go_wp2;go_loopw [8] (fun i wr=>∃k:Nat,k<=F.length/\i=.int .i64 k/\Hid (∀j (h:j<F.length),j<k->p F[j]=false)/\Hid (BL w wr)) (fun i _=>F.length-(intOf i).toNat);case atStart=>exact⟨0,Nat.zero_le _,rfl,hid fun j _ h=>absurd h aB,hid aF⟩
 case round=>
  obtain⟨k,hk,rfl,hpre,hb⟩:=hrel;by_cases hlt:k<F.length
  ·have hk0:(0:Int)<=(k:Int):=by omega
   have hk1:(k:Int)<(F.length:Int):=aB
   obtain⟨-,us,hl,hx,hx2⟩:=(dQ.keep hR HV.out (aD.below hb.out)).at hlt;have HC:=hid (HP.out wr hb.out k hlt us hl hx2);obtain⟨u0,u1,rfl⟩:=Xt hl;have y0:wr.cell? ⟨bL a,bP a+k*2,none⟩=some u0:=hx 0 u0 rfl;have y1:wr.cell? ⟨bL a,bP a+k*2+1,none⟩=some u1:=hx 1 u1 rfl;clear hx hx2 hl;exact yH
  ·exact yI
theorem UC{α:Type}{RR:(Nat->Prop)->World->List Value->α->Prop}(hR:cH RR)(F:List α)(p:α->Bool)(v:Value)(S:Nat->Prop)(w:World)(hv:dQ 2 (RR S) S w v F)(fo:Nat)(lb:Array Value)(mI:∀args w,(callFunc fo args).run Tryz.prog w=.ok (.enter fo args) w)
  (hp:∀X,BL w X->∀j (h:j<F.length) us,us.length=2->RR S X us F[j]->CP fo (#[.agg us.toArray]++lb) X fun e w'=>e=.returned (.bool (p F[j]))/\BL X w'):
  Calls Tryz.prog 144 #[v,.func (.func fo) #[] lb] w fun e w'=>e=.returned (.bool (F.any p))/\BL w w':=by
 have H:=hid (Z6 hR F p v S w hv fo lb mI hp);obtain⟨a,cap,rfl, -, -, -⟩:=hv.form;have HZ:=hid (ko p F);have HL:=hid (jS p F);have hg:=ah.iI p F 0;have hm:(F.length:Int)<=9223372036854775807:=Wp
 clear hv hp;generalize ah.fK p F 0=z at*;generalize F.any p=b at*;have hz2:z<9223372036854775807:=CO
 go_enter Tryz.func144,Tryz.ntmps144;exact vD
theorem Xy{p:Prop}(h:p:=by
  go_wp2
  go_loopw [8] (fun i wr=>∃k:Nat,k<=F.length/\i=.int .i64 k/\Hid (∀j (h:j<F.length),j<k->p F[j]=false)/\Hid (BL w wr)) (fun i _=>F.length-(intOf i).toNat)
  case atStart=>exact⟨0,Nat.zero_le _,rfl,hid fun j _ h=>absurd h aB,hid aF⟩
  case round=>
   obtain⟨k,hk,rfl,hpre,hb⟩:=hrel;by_cases hlt:k<F.length
   ·have hk0:(0:Int)<=(k:Int):=by omega
    have hk1:(k:Int)<(F.length:Int):=aB
    obtain⟨u0,y0, -,hx2⟩:=(eU.keep (R:=RR S) HV.out (aD.below hb.out) (fun _ _ h=>hR.keep h (aD.below hb.out))).at hlt;have HC:=hid (HP.out wr hb.out k hlt u0 hx2);obtain⟨c0,rfl⟩:=hform _ _ _ hx2;clear hx2;exact yH
   ·exact yI):p:=h
theorem UD{α:Type}{RR:(Nat->Prop)->World->Value->α->Prop}(hR:eY RR)(F:List α)(p:α->Bool)(v:Value)(S:Nat->Prop)(w:World)(hv:eU (RR S) S w v F)(hform:∀X u x,RR S X u x->∃c,u=.int .u8 c)(fo:Nat)(lb:Array Value)(mI:∀args w,(callFunc fo args).run Tryz.prog w=.ok (.enter fo args) w)
  (hp:∀X,BL w X->∀j (h:j<F.length) u,RR S X u F[j]->CP fo (#[u]++lb) X fun e w'=>e=.returned (.bool (p F[j]))/\BL X w'):
  Calls Tryz.prog 171 #[v,.func (.func fo) #[] lb] w fun e w'=>e=.returned (.int .i64 (ah.fK p F 0))/\BL w w':=by
 have HV:=hid hv;obtain⟨a,cap,rfl,hok,hcap,hmax⟩:=hv.form;clear hv;have HP:=hid hp;clear hp;go_enter Tryz.func171,Tryz.ntmps171;exact Xy
theorem Qp{α:Type}{RR:(Nat->Prop)->World->Value->α->Prop}(hR:eY RR)(F:List α)(p:α->Bool)(v:Value)(S:Nat->Prop)(w:World)(hv:eU (RR S) S w v F)(hform:∀X u x,RR S X u x->∃c,u=.int .u8 c)(fo:Nat)(lb:Array Value)(mI:∀args w,(callFunc fo args).run Tryz.prog w=.ok (.enter fo args) w)
  (hp:∀X,BL w X->∀j (h:j<F.length) u,RR S X u F[j]->CP fo (#[u]++lb) X fun e w'=>e=.returned (.bool (p F[j]))/\BL X w'):
  Calls Tryz.prog 134 #[v,.func (.func fo) #[] lb] w fun e w'=>e=.returned (.bool (F.any p))/\BL w w':=by
 have H:=hid (UD hR F p v S w hv hform fo lb mI hp);obtain⟨a,cap,rfl, -, -, -⟩:=hv.form;have HZ:=hid (ko p F);have HL:=hid (jS p F);have hg:=ah.iI p F 0;have hm:(F.length:Int)<=9223372036854775807:=Wp
 clear hv hp;generalize ah.fK p F 0=z at*;generalize F.any p=b at*;have hz2:z<9223372036854775807:=CO
 go_enter Tryz.func134,Tryz.ntmps134;exact vD
theorem Z7{α:Type}{RR:(Nat->Prop)->World->Value->α->Prop}(hR:eY RR)(F:List α)(p:α->Bool)(v:Value)(S:Nat->Prop)(w:World)(hv:eU (RR S) S w v F)(hform:∀X u x,RR S X u x->∃c,u=.string c)(fo:Nat)(lb:Array Value)(mI:∀args w,(callFunc fo args).run Tryz.prog w=.ok (.enter fo args) w)
  (hp:∀X,BL w X->∀j (h:j<F.length) u,RR S X u F[j]->CP fo (#[u]++lb) X fun e w'=>e=.returned (.bool (p F[j]))/\BL X w'):
  Calls Tryz.prog 173 #[v,.func (.func fo) #[] lb] w fun e w'=>e=.returned (.int .i64 (ah.fK p F 0))/\BL w w':=by
 have HV:=hid hv;obtain⟨a,cap,rfl,hok,hcap,hmax⟩:=hv.form;clear hv;have HP:=hid hp;clear hp;go_enter Tryz.func173,Tryz.ntmps173;exact Xy
theorem UE{α:Type}{RR:(Nat->Prop)->World->Value->α->Prop}(hR:eY RR)(F:List α)(p:α->Bool)(v:Value)(S:Nat->Prop)(w:World)(hv:eU (RR S) S w v F)(hform:∀X u x,RR S X u x->∃c,u=.string c)(fo:Nat)(lb:Array Value)(mI:∀args w,(callFunc fo args).run Tryz.prog w=.ok (.enter fo args) w)
  (hp:∀X,BL w X->∀j (h:j<F.length) u,RR S X u F[j]->CP fo (#[u]++lb) X fun e w'=>e=.returned (.bool (p F[j]))/\BL X w'):
  Calls Tryz.prog 142 #[v,.func (.func fo) #[] lb] w fun e w'=>e=.returned (.bool (F.any p))/\BL w w':=by
 have H:=hid (Z7 hR F p v S w hv hform fo lb mI hp);obtain⟨a,cap,rfl, -, -, -⟩:=hv.form;have HZ:=hid (ko p F);have HL:=hid (jS p F);have hg:=ah.iI p F 0;have hm:(F.length:Int)<=9223372036854775807:=Wp
 clear hv hp;generalize ah.fK p F 0=z at*;generalize F.any p=b at*;have hz2:z<9223372036854775807:=CO
 go_enter Tryz.func142,Tryz.ntmps142;exact vD
theorem Z8{α:Type}{RR:(Nat->Prop)->World->Value->α->Prop}(hR:eY RR)(F:List α)(p:α->Bool)(v:Value)(S:Nat->Prop)(w:World)(hv:eU (RR S) S w v F)(hform:∀X u x,RR S X u x->∃a n c,u=.slice a n c)(fo:Nat)(lb:Array Value)(mI:∀args w,(callFunc fo args).run Tryz.prog w=.ok (.enter fo args) w)
  (hp:∀X,BL w X->∀j (h:j<F.length) u,RR S X u F[j]->CP fo (#[u]++lb) X fun e w'=>e=.returned (.bool (p F[j]))/\BL X w'):
  Calls Tryz.prog 150 #[v,.func (.func fo) #[] lb] w fun e w'=>e=.returned (.int .i64 (ah.fK p F 0))/\BL w w':=by
 have HV:=hid hv;obtain⟨a,cap,rfl,hok,hcap,hmax⟩:=hv.form;clear hv;have HP:=hid hp;clear hp;go_enter Tryz.func150,Tryz.ntmps150;go_wp2;go_loopw [8] (fun i wr=>∃k:Nat,k<=F.length/\i=.int .i64 k/\Hid (∀j (h:j<F.length),j<k->p F[j]=false)/\Hid (BL w wr)) (fun i _=>F.length-(intOf i).toNat);case atStart=>exact⟨0,Nat.zero_le _,rfl,hid fun j _ h=>absurd h aB,hid aF⟩
 case round=>
  obtain⟨k,hk,rfl,hpre,hb⟩:=hrel;by_cases hlt:k<F.length
  ·have hk0:(0:Int)<=(k:Int):=by omega
   have hk1:(k:Int)<(F.length:Int):=aB
   obtain⟨u0,y0, -,hx2⟩:=(eU.keep (R:=RR S) HV.out (aD.below hb.out) (fun _ _ h=>hR.keep h (aD.below hb.out))).at hlt;have HC:=hid (HP.out wr hb.out k hlt u0 hx2);obtain⟨a0,n0,c0,rfl⟩:=hform _ _ _ hx2;clear hx2;exact yH
  ·exact yI
theorem KL{α:Type}{RR:(Nat->Prop)->World->Value->α->Prop}(hR:eY RR)(F:List α)(p:α->Bool)(v:Value)(S:Nat->Prop)(w:World)(hv:eU (RR S) S w v F)(hform:∀X u x,RR S X u x->∃a n c,u=.slice a n c)(fo:Nat)(lb:Array Value)(mI:∀args w,(callFunc fo args).run Tryz.prog w=.ok (.enter fo args) w)
  (hp:∀X,BL w X->∀j (h:j<F.length) u,RR S X u F[j]->CP fo (#[u]++lb) X fun e w'=>e=.returned (.bool (p F[j]))/\BL X w'):
  Calls Tryz.prog 121 #[v,.func (.func fo) #[] lb] w fun e w'=>e=.returned (.bool (F.any p))/\BL w w':=by
 have H:=hid (Z8 hR F p v S w hv hform fo lb mI hp);obtain⟨a,cap,rfl, -, -, -⟩:=hv.form;have HZ:=hid (ko p F);have HL:=hid (jS p F);have hg:=ah.iI p F 0;have hm:(F.length:Int)<=9223372036854775807:=Wp
 clear hv hp;generalize ah.fK p F 0=z at*;generalize F.any p=b at*;have hz2:z<9223372036854775807:=CO
 go_enter Tryz.func121,Tryz.ntmps121;exact vD
theorem bH{P:Program}{f:FuncId}{fn:Func}{c:Code}(hf:P.funcs[f]?=some fn)(hn:(fn.name== "runtime.NumGoroutine")=false)(hb:fn.body=some c)(args:Array Value)(w:World):(callFunc f args).run P w=.ok (.enter f args) w:=by
 have hne:¬fn.name= "runtime.NumGoroutine" :=by simpa using hn
 simp[callFunc,hf,hne,hb,mark]
theorem fL(n a b:Int)(w:World):Calls Tryz.prog 67 #[.int .i64 n,.int .i64 a,.int .i64 b] w fun e w'=>e=.returned (.bool (ah.qA n a b))/\w=w':=by
 have HE:Hid (ah.qA n a b=(decide (a<=n)&&decide (n<=b))):=hid rfl;by_cases h:a<=n
 ·go_enter Tryz.func67,Tryz.ntmps67
  go_wp2;go_ret;exact⟨by rw[HE.out,decide_eq_true h];rfl,rfl⟩
 ·have h2:n<a:=by omega
  go_enter Tryz.func67,Tryz.ntmps67;go_wp2;go_ret;exact⟨by rw[HE.out,decide_eq_false (show ¬a<=n by omega)];rfl,rfl⟩
theorem jL(lo hi a b:Int)(w:World):Calls Tryz.prog 105 #[.int .i64 lo,.int .i64 hi,.int .i64 a,.int .i64 b] w fun e w'=>e=.returned (.bool (ah.fJ lo hi a b))/\w=w':=by
 have HE:Hid (ah.fJ lo hi a b=(decide (a<=lo)&&decide (lo<=hi)&&decide (hi<=b))):=hid rfl;by_cases h:a<=lo
 ·by_cases g:lo<=hi
  ·go_enter Tryz.func105,Tryz.ntmps105
   go_wp2;go_ret;exact⟨Y6,rfl⟩
  ·have g2:hi<lo:=by omega
   go_enter Tryz.func105,Tryz.ntmps105;go_wp2;go_ret;exact⟨by rw[HE.out,decide_eq_false (show ¬lo<=hi by omega),Bool.and_false];rfl,rfl⟩
 ·have h2:lo<a:=by omega
  go_enter Tryz.func105,Tryz.ntmps105;go_wp2;go_ret;exact⟨by rw[HE.out,decide_eq_false (show ¬a<=lo by omega)];rfl,rfl⟩
theorem sM(c:UInt8)(w:World):Calls Tryz.prog 133 #[.int .u8 (c.toNat:Int)] w fun e w'=>e=.returned (.bool (ah.mF c))/\w=w':=by
 have HE:Hid (ah.mF c=(decide (97<=c.toNat)&&decide (c.toNat<=122))):=hid rfl;have hc:=c.toNat_lt;generalize ah.mF c=b at*;generalize c.toNat=n at*;by_cases h:97<=n
 ·have h1:(97:Int)<=n:=by omega
  by_cases g:n<=122
  ·have g1:(n:Int)<=122:=by omega
   go_enter Tryz.func133,Tryz.ntmps133;go_wp2;go_ret;exact⟨Y6,rfl⟩
  ·have g1:¬(n:Int)<=122:=by omega
   go_enter Tryz.func133,Tryz.ntmps133;go_wp2;go_ret;exact⟨by rw[HE.out,decide_eq_false g,Bool.and_false];rfl,rfl⟩
 ·have h1:¬(97:Int)<=n:=by omega
  go_enter Tryz.func133,Tryz.ntmps133;go_wp2;go_ret;exact⟨by rw[HE.out,decide_eq_false h];rfl,rfl⟩
theorem E3(c:UInt8)(w:World):Calls Tryz.prog 136 #[.int .u8 (c.toNat:Int)] w fun e w'=>e=.returned (.bool (ah.q9 c))/\w=w':=by
 have HE:Hid (ah.q9 c=(decide (48<=c.toNat)&&decide (c.toNat<=57))):=hid rfl;have hc:=c.toNat_lt;generalize ah.q9 c=b at*;generalize c.toNat=n at*;by_cases h:48<=n
 ·have h1:(48:Int)<=n:=by omega
  by_cases g:n<=57
  ·have g1:(n:Int)<=57:=by omega
   go_enter Tryz.func136,Tryz.ntmps136;go_wp2;go_ret;exact⟨Y6,rfl⟩
  ·have g1:¬(n:Int)<=57:=by omega
   go_enter Tryz.func136,Tryz.ntmps136;go_wp2;go_ret;exact⟨by rw[HE.out,decide_eq_false g,Bool.and_false];rfl,rfl⟩
 ·have h1:¬(48:Int)<=n:=by omega
  go_enter Tryz.func136,Tryz.ntmps136;go_wp2;go_ret;exact⟨by rw[HE.out,decide_eq_false h];rfl,rfl⟩
def nJ(c:UInt8):Bool:= !(ah.mF c||ah.q9 c)
theorem E4(c:UInt8)(w:World):Calls Tryz.prog 135 #[.int .u8 (c.toNat:Int)] w fun e w'=>e=.returned (.bool (nJ c))/\w=w':=by
 have HL:=hid (fun W=>sM c W);have HD:=hid (fun W=>E3 c W);have HE:Hid (nJ c= !(ah.mF c||ah.q9 c)):=hid rfl;generalize nJ c=z at*;generalize ah.mF c=a at*;generalize ah.q9 c=b at*;generalize c.toNat=n at*;cases a with
 |true=>
  go_enter Tryz.func135,Tryz.ntmps135
  go_wp2_with fail
  refine(HL.out _).mono ?_
  rintro e w' ⟨rfl,rfl⟩
  go_wp2
  go_ret
  exact⟨qU,rfl⟩
 |false=>
  go_enter Tryz.func135,Tryz.ntmps135
  go_wp2_with fail
  refine(HL.out _).mono ?_
  rintro e w' ⟨rfl,rfl⟩
  go_wp2_with fail
  refine(HD.out _).mono ?_
  rintro e w' ⟨rfl,rfl⟩
  go_wp2
  go_ret
  exact⟨qU,rfl⟩
abbrev ByV(S:Nat->Prop):=eU (fun _ u (x:UInt8)=>u=.int .u8 (x.toNat:Int)) S
theorem L5:eY (fun(_:Nat->Prop) _ u (x:UInt8)=>u=.int .u8 (x.toNat:Int)):=⟨fun h _=>h,fun h _=>h⟩
theorem Ia(s:ByteArray):ah.aY s=(ah.qA s.size 1 12&&(ah.mF (s.data.getD 0 0)&& !s.data.toList.any nJ)):=by
 unfold ah.aY ah.qA nJ;rw[List.not_any_eq_all_not];have h1:decide ((1:Int)<=(s.size:Int))=decide (1<=s.size):=by rw[decide_eq_decide];omega
 have h2:decide ((s.size:Int)<=(12:Int))=decide (s.size<=12):=by rw[decide_eq_decide];omega
 rw[h1,h2];simp[Bool.and_assoc]
theorem L6(w W:World)(s:ByteArray)(hs:s.size<=1000000)(cap:Nat)(hcap:cap=grownCap w s.size 0 5)(fr:Nat×Nat)(h:W.heap[w.heap.size]?=some (.cells (bytesRow s cap) 5 fr)):
  ByV (fun _=>True) W (.slice (some ⟨w.heap.size,0,none⟩) s.size cap) s.data.toList:=by
 have hl:s.data.toList.length=s.size:=rfl;have h1:=grownCap_ge w s.size 0 5;have h2:=grownCap_le_maxLen w s.size 0 5 xJ;rw[<-hcap] at h1 h2;refine⟨some ⟨w.heap.size,0,none⟩,cap,by rw[hl],fun _=>⟨_,_,rfl⟩,by rw[hl];exact h1,h2,fun _=>trivial,fun j hj=>⟨_,?_,rfl⟩⟩;have e:(⟨bL (some ⟨w.heap.size,0,none⟩),bP (some ⟨w.heap.size,0,none⟩)+j,none⟩:Addr)=⟨w.heap.size,j,none⟩:=by simp[bL,bP]
 rw[e,cell_of_row W _ j _ _ fr h];unfold bytesRow;rw[Array.getElem?_append_left (by rw[Array.size_map];exact hj),Array.getElem?_map]
 have:s.data[j]?=some s.data.toList[j]:=by
  rw[Array.getElem?_eq_getElem hj];simp
 rw[this];rfl
theorem cO(s:ByteArray)(w:World):Calls Tryz.prog 104 #[.string s] w fun e w'=>e=.returned (.bool (ah.aY s))/\BL w w':=by
 have HE:=hid (Ia s);have HI:=hid (fL s.size 1 12 w);cases hin:ah.qA s.size 1 12 with
 |false=>
  rw[hin] at HI HE
  clear hin
  go_enter Tryz.func104,Tryz.ntmps104
  go_wp2_with fail
  refine HI.out.mono ?_
  rintro e w' ⟨rfl,rfl⟩
  go_wp2
  go_ret
  exact⟨qU,aF⟩
 |true=>
  rw[hin] at HI HE
  have hsz:1<=s.size/\s.size<=12:=by
   unfold ah.qA at hin;simp only[pF,qZ] at hin;omega
  have h0:0<s.size:=aB
  have h0i:(0:Int)<s.size:=aB
  have HL:=hid (sM s[0] w)
  have HX:Hid (s.data.getD 0 0=s[0]):=hid (by
   have h0':0<s.data.size:=h0
   rw[Array.getD_eq_getD_getElem?,Array.getElem?_eq_getElem h0']
   rfl)
  have HS:=hid hsz
  rw[HX.out] at HE
  clear hin hsz
  generalize ah.mF s[0]=lb at*
  have hix:∀W,(Instr.index 9 (.string s) (.int .i64 0)).run Tryz.prog W=.ok (.int .u8 (s[0].toNat:Int)) W:=fun W=>by
   rw[run_index_string W _ _ _ _ (by kernel_rfl),dif_pos ⟨Int.le_refl _,h0i⟩];rfl
  generalize s[0].toNat=c0 at*
  cases lb with
  |false=>
   go_enter Tryz.func104,Tryz.ntmps104
   go_wp2_with fail
   refine HI.out.mono ?_
   rintro e w' ⟨rfl,rfl⟩
   go_wp2_with fail
   refine HL.out.mono ?_
   rintro e w' ⟨rfl,rfl⟩
   go_wp2
   go_ret
   exact⟨qU,aF⟩
  |true=>
   have kc:=fun W:World=>run_bytes_of_string (P:=Tryz.prog) W 9 189 5 s (by kernel_rfl) (by kernel_rfl) (by kernel_rfl)
   go_enter Tryz.func104,Tryz.ntmps104
   go_wp2_with fail
   refine HI.out.mono ?_
   rintro e w' ⟨rfl,rfl⟩
   go_wp2_with fail
   refine HL.out.mono ?_
   rintro e w' ⟨rfl,rfl⟩
   go_wp2_with fail
   refine(Qp L5 s.data.toList nJ _ (fun _=>True) _ (L6 w _ s (by have:=HS.out;omega) _ rfl _ (aW w.drew _ rfl)) (fun X u x h=>⟨_,h⟩) 135 #[] (bH Tryz.func135 (by kernel_rfl) rfl) (fun X hX j hj u hu=>by
    subst hu;exact(E4 _ X).mono fun e w' ⟨h1,h2⟩=>⟨h1,by rw[h2];exact aF⟩)).mono ?_
   rintro e w' ⟨rfl,hb⟩
   have HB:Hid (BL w w'):=hid (((Below.refl w.heap.size w).drew.alloc aH _).trans (hb.mono bp))
   clear hb kc hix
   go_wp2
   go_ret
   exact⟨by rw[HE.out];simp,HB.out⟩
theorem BQ{p:Prop}(h:p:=by
  go_wp2_with fail
  refine HC.out.mono ?_
  rintro e w' ⟨rfl,hb2⟩
  have HB:=aU bT hb2
  clear hb2
  go_wp2
  go_ret
  exact⟨rfl,HB.out⟩):p:=h
theorem UF(u0 u1 u2 u3:Value)(b:Nat)(fo:Nat)(lb:Array Value)(z:Bool)(w:World)(mI:∀args w,(callFunc fo args).run Tryz.prog w=.ok (.enter fo args) w)(hb:w.cell? ⟨b,0,none⟩=some (.func (.func fo) #[] lb))(hz:b<w.heap.size)
  (hp:∀X,BL w X->CP fo (#[.agg #[u0,u1,u2,u3]]++lb) X fun e w'=>e=.returned (.bool z)/\BL X w'):
  Calls Tryz.prog 103 #[.agg #[u0,u1,u2,u3],.pointer (some ⟨b,0,none⟩)] w fun e w'=>e=.returned (.bool (!z))/\BL w w':=by
 have HP:=hid hp;clear hp;have bT:Hid (BL w (w.alloc (.cells #[u0,u1,u2,u3] 49))):=hid (aF.alloc aH _);have HC:=hid (HP.out _ bT.out);go_enter Tryz.func103,Tryz.ntmps103;exact BQ
theorem BR{p:Prop}(h:p:=by
  go_wp2_with fail
  refine HC.out.mono ?_
  rintro e w' ⟨rfl,hb2⟩
  have HB:=aU jO hb2
  clear hb2
  go_wp2
  go_ret
  exact⟨zT97,HB.out⟩):p:=h
theorem Z9{α:Type}{RR:(Nat->Prop)->World->List Value->α->Prop}(hR:cH RR)(F:List α)(q:α->Bool)(v:Value)(S:Nat->Prop)(w:World)(hv:dQ 4 (RR S) S w v F)(fo:Nat)(lb:Array Value)(mI:∀args w,(callFunc fo args).run Tryz.prog w=.ok (.enter fo args) w)
  (hp:∀X,BL w X->∀j (h:j<F.length) us,us.length=4->RR S X us F[j]->CP fo (#[.agg us.toArray]++lb) X fun e w'=>e=.returned (.bool (q F[j]))/\BL X w'):
  Calls Tryz.prog 68 #[v,.func (.func fo) #[] lb] w fun e w'=>e=.returned (.bool (F.all q))/\BL w w':=by
 have HP:=hid hp;clear hp;have hbx:BL w (w.alloc (.cells #[.func (.func fo) #[] lb] 142)):=aF.alloc aH _;have hv1:dQ 4 (RR S) S (w.alloc (.cells #[.func (.func fo) #[] lb] 142)) v F:=dQ.keep hR hv (aD.below hbx);obtain⟨a,cap,rfl, -, -, -⟩:=hv.form
 have HC:=hid (UB hR F (fun x=> !q x) _ S _ hv1 103 #[.pointer (some ⟨w.heap.size,0,none⟩)] (bH Tryz.func103 (by kernel_rfl) rfl) (fun X hX j hj us hl hr=>by
  obtain⟨u0,u1,u2,u3,rfl⟩:=Xv hl;exact UF u0 u1 u2 u3 w.heap.size fo lb (q F[j]) X mI ((hX.cell (p:=⟨w.heap.size,0,none⟩) bp).trans bp) Ln (fun Y hY=>HP.out Y (cG hbx (cG hX hY)) j hj [u0,u1,u2,u3] hl (hR.keep hr (aD.below hY)))))
 have HN:Hid (F.all q= !F.any fun x=> !q x):=hid Ll;have jO:=hid hbx;generalize F.all q=fa at*;generalize (F.any fun x=> !q x)=fb at*;clear hv hv1 hbx;go_enter Tryz.func68,Tryz.ntmps68;exact BR
theorem UG(u0 u1 u2:Value)(b:Nat)(fo:Nat)(lb:Array Value)(z:Bool)(w:World)(mI:∀args w,(callFunc fo args).run Tryz.prog w=.ok (.enter fo args) w)(hb:w.cell? ⟨b,0,none⟩=some (.func (.func fo) #[] lb))(hz:b<w.heap.size)
  (hp:∀X,BL w X->CP fo (#[.agg #[u0,u1,u2]]++lb) X fun e w'=>e=.returned (.bool z)/\BL X w'):
  Calls Tryz.prog 108 #[.agg #[u0,u1,u2],.pointer (some ⟨b,0,none⟩)] w fun e w'=>e=.returned (.bool (!z))/\BL w w':=by
 have HP:=hid hp;clear hp;have bT:Hid (BL w (w.alloc (.cells #[u0,u1,u2] 58))):=hid (aF.alloc aH _);have HC:=hid (HP.out _ bT.out);go_enter Tryz.func108,Tryz.ntmps108;exact BQ
theorem aac{α:Type}{RR:(Nat->Prop)->World->List Value->α->Prop}(hR:cH RR)(F:List α)(q:α->Bool)(v:Value)(S:Nat->Prop)(w:World)(hv:dQ 3 (RR S) S w v F)(fo:Nat)(lb:Array Value)(mI:∀args w,(callFunc fo args).run Tryz.prog w=.ok (.enter fo args) w)
  (hp:∀X,BL w X->∀j (h:j<F.length) us,us.length=3->RR S X us F[j]->CP fo (#[.agg us.toArray]++lb) X fun e w'=>e=.returned (.bool (q F[j]))/\BL X w'):
  Calls Tryz.prog 70 #[v,.func (.func fo) #[] lb] w fun e w'=>e=.returned (.bool (F.all q))/\BL w w':=by
 have HP:=hid hp;clear hp;have hbx:BL w (w.alloc (.cells #[.func (.func fo) #[] lb] 100)):=aF.alloc aH _;have hv1:dQ 3 (RR S) S (w.alloc (.cells #[.func (.func fo) #[] lb] 100)) v F:=dQ.keep hR hv (aD.below hbx);obtain⟨a,cap,rfl, -, -, -⟩:=hv.form
 have HC:=hid (Dh hR F (fun x=> !q x) _ S _ hv1 108 #[.pointer (some ⟨w.heap.size,0,none⟩)] (bH Tryz.func108 (by kernel_rfl) rfl) (fun X hX j hj us hl hr=>by
  obtain⟨u0,u1,u2,rfl⟩:=Xu hl;exact UG u0 u1 u2 w.heap.size fo lb (q F[j]) X mI ((hX.cell (p:=⟨w.heap.size,0,none⟩) bp).trans bp) Ln (fun Y hY=>HP.out Y (cG hbx (cG hX hY)) j hj [u0,u1,u2] hl (hR.keep hr (aD.below hY)))))
 have HN:Hid (F.all q= !F.any fun x=> !q x):=hid Ll;have jO:=hid hbx;generalize F.all q=fa at*;generalize (F.any fun x=> !q x)=fb at*;clear hv hv1 hbx;go_enter Tryz.func70,Tryz.ntmps70;exact BR
theorem UH(u0 u1 u2 u3 u4:Value)(b:Nat)(fo:Nat)(lb:Array Value)(z:Bool)(w:World)(mI:∀args w,(callFunc fo args).run Tryz.prog w=.ok (.enter fo args) w)(hb:w.cell? ⟨b,0,none⟩=some (.func (.func fo) #[] lb))(hz:b<w.heap.size)
  (hp:∀X,BL w X->CP fo (#[.agg #[u0,u1,u2,u3,u4]]++lb) X fun e w'=>e=.returned (.bool z)/\BL X w'):
  Calls Tryz.prog 112 #[.agg #[u0,u1,u2,u3,u4],.pointer (some ⟨b,0,none⟩)] w fun e w'=>e=.returned (.bool (!z))/\BL w w':=by
 have HP:=hid hp;clear hp;have bT:Hid (BL w (w.alloc (.cells #[u0,u1,u2,u3,u4] 61))):=hid (aF.alloc aH _);have HC:=hid (HP.out _ bT.out);go_enter Tryz.func112,Tryz.ntmps112;exact BQ
theorem aad{α:Type}{RR:(Nat->Prop)->World->List Value->α->Prop}(hR:cH RR)(F:List α)(q:α->Bool)(v:Value)(S:Nat->Prop)(w:World)(hv:dQ 5 (RR S) S w v F)(fo:Nat)(lb:Array Value)(mI:∀args w,(callFunc fo args).run Tryz.prog w=.ok (.enter fo args) w)
  (hp:∀X,BL w X->∀j (h:j<F.length) us,us.length=5->RR S X us F[j]->CP fo (#[.agg us.toArray]++lb) X fun e w'=>e=.returned (.bool (q F[j]))/\BL X w'):
  Calls Tryz.prog 72 #[v,.func (.func fo) #[] lb] w fun e w'=>e=.returned (.bool (F.all q))/\BL w w':=by
 have HP:=hid hp;clear hp;have hbx:BL w (w.alloc (.cells #[.func (.func fo) #[] lb] 144)):=aF.alloc aH _;have hv1:dQ 5 (RR S) S (w.alloc (.cells #[.func (.func fo) #[] lb] 144)) v F:=dQ.keep hR hv (aD.below hbx);obtain⟨a,cap,rfl, -, -, -⟩:=hv.form
 have HC:=hid (KJ hR F (fun x=> !q x) _ S _ hv1 112 #[.pointer (some ⟨w.heap.size,0,none⟩)] (bH Tryz.func112 (by kernel_rfl) rfl) (fun X hX j hj us hl hr=>by
  obtain⟨u0,u1,u2,u3,u4,rfl⟩:=Xw hl;exact UH u0 u1 u2 u3 u4 w.heap.size fo lb (q F[j]) X mI ((hX.cell (p:=⟨w.heap.size,0,none⟩) bp).trans bp) Ln (fun Y hY=>HP.out Y (cG hbx (cG hX hY)) j hj [u0,u1,u2,u3,u4] hl (hR.keep hr (aD.below hY)))))
 have HN:Hid (F.all q= !F.any fun x=> !q x):=hid Ll;have jO:=hid hbx;generalize F.all q=fa at*;generalize (F.any fun x=> !q x)=fb at*;clear hv hv1 hbx;go_enter Tryz.func72,Tryz.ntmps72;exact BR
theorem UI(u0 u1 u2 u3 u4 u5 u6 u7:Value)(b:Nat)(fo:Nat)(lb:Array Value)(z:Bool)(w:World)(mI:∀args w,(callFunc fo args).run Tryz.prog w=.ok (.enter fo args) w)(hb:w.cell? ⟨b,0,none⟩=some (.func (.func fo) #[] lb))(hz:b<w.heap.size)
  (hp:∀X,BL w X->CP fo (#[.agg #[u0,u1,u2,u3,u4,u5,u6,u7]]++lb) X fun e w'=>e=.returned (.bool z)/\BL X w'):
  Calls Tryz.prog 138 #[.agg #[u0,u1,u2,u3,u4,u5,u6,u7],.pointer (some ⟨b,0,none⟩)] w fun e w'=>e=.returned (.bool (!z))/\BL w w':=by
 have HP:=hid hp;clear hp;have bT:Hid (BL w (w.alloc (.cells #[u0,u1,u2,u3,u4,u5,u6,u7] 46))):=hid (aF.alloc aH _);have HC:=hid (HP.out _ bT.out);go_enter Tryz.func138,Tryz.ntmps138;exact BQ
theorem aae{α:Type}{RR:(Nat->Prop)->World->List Value->α->Prop}(hR:cH RR)(F:List α)(q:α->Bool)(v:Value)(S:Nat->Prop)(w:World)(hv:dQ 8 (RR S) S w v F)(fo:Nat)(lb:Array Value)(mI:∀args w,(callFunc fo args).run Tryz.prog w=.ok (.enter fo args) w)
  (hp:∀X,BL w X->∀j (h:j<F.length) us,us.length=8->RR S X us F[j]->CP fo (#[.agg us.toArray]++lb) X fun e w'=>e=.returned (.bool (q F[j]))/\BL X w'):
  Calls Tryz.prog 106 #[v,.func (.func fo) #[] lb] w fun e w'=>e=.returned (.bool (F.all q))/\BL w w':=by
 have HP:=hid hp;clear hp;have hbx:BL w (w.alloc (.cells #[.func (.func fo) #[] lb] 149)):=aF.alloc aH _;have hv1:dQ 8 (RR S) S (w.alloc (.cells #[.func (.func fo) #[] lb] 149)) v F:=dQ.keep hR hv (aD.below hbx);obtain⟨a,cap,rfl, -, -, -⟩:=hv.form
 have HC:=hid (UA hR F (fun x=> !q x) _ S _ hv1 138 #[.pointer (some ⟨w.heap.size,0,none⟩)] (bH Tryz.func138 (by kernel_rfl) rfl) (fun X hX j hj us hl hr=>by
  obtain⟨u0,u1,u2,u3,u4,u5,u6,u7,rfl⟩:=Xx hl;exact UI u0 u1 u2 u3 u4 u5 u6 u7 w.heap.size fo lb (q F[j]) X mI ((hX.cell (p:=⟨w.heap.size,0,none⟩) bp).trans bp) Ln (fun Y hY=>HP.out Y (cG hbx (cG hX hY)) j hj [u0,u1,u2,u3,u4,u5,u6,u7] hl (hR.keep hr (aD.below hY)))))
 have HN:Hid (F.all q= !F.any fun x=> !q x):=hid Ll;have jO:=hid hbx;generalize F.all q=fa at*;generalize (F.any fun x=> !q x)=fb at*;clear hv hv1 hbx;go_enter Tryz.func106,Tryz.ntmps106;exact BR
theorem UJ(u0 u1:Value)(b:Nat)(fo:Nat)(lb:Array Value)(z:Bool)(w:World)(mI:∀args w,(callFunc fo args).run Tryz.prog w=.ok (.enter fo args) w)(hb:w.cell? ⟨b,0,none⟩=some (.func (.func fo) #[] lb))(hz:b<w.heap.size)
  (hp:∀X,BL w X->CP fo (#[.agg #[u0,u1]]++lb) X fun e w'=>e=.returned (.bool z)/\BL X w'):
  Calls Tryz.prog 145 #[.agg #[u0,u1],.pointer (some ⟨b,0,none⟩)] w fun e w'=>e=.returned (.bool (!z))/\BL w w':=by
 have HP:=hid hp;clear hp;have bT:Hid (BL w (w.alloc (.cells #[u0,u1] 59))):=hid (aF.alloc aH _);have HC:=hid (HP.out _ bT.out);go_enter Tryz.func145,Tryz.ntmps145;exact BQ
theorem aaf{α:Type}{RR:(Nat->Prop)->World->List Value->α->Prop}(hR:cH RR)(F:List α)(q:α->Bool)(v:Value)(S:Nat->Prop)(w:World)(hv:dQ 2 (RR S) S w v F)(fo:Nat)(lb:Array Value)(mI:∀args w,(callFunc fo args).run Tryz.prog w=.ok (.enter fo args) w)
  (hp:∀X,BL w X->∀j (h:j<F.length) us,us.length=2->RR S X us F[j]->CP fo (#[.agg us.toArray]++lb) X fun e w'=>e=.returned (.bool (q F[j]))/\BL X w'):
  Calls Tryz.prog 110 #[v,.func (.func fo) #[] lb] w fun e w'=>e=.returned (.bool (F.all q))/\BL w w':=by
 have HP:=hid hp;clear hp;have hbx:BL w (w.alloc (.cells #[.func (.func fo) #[] lb] 187)):=aF.alloc aH _;have hv1:dQ 2 (RR S) S (w.alloc (.cells #[.func (.func fo) #[] lb] 187)) v F:=dQ.keep hR hv (aD.below hbx);obtain⟨a,cap,rfl, -, -, -⟩:=hv.form
 have HC:=hid (UC hR F (fun x=> !q x) _ S _ hv1 145 #[.pointer (some ⟨w.heap.size,0,none⟩)] (bH Tryz.func145 (by kernel_rfl) rfl) (fun X hX j hj us hl hr=>by
  obtain⟨u0,u1,rfl⟩:=Xt hl;exact UJ u0 u1 w.heap.size fo lb (q F[j]) X mI ((hX.cell (p:=⟨w.heap.size,0,none⟩) bp).trans bp) Ln (fun Y hY=>HP.out Y (cG hbx (cG hX hY)) j hj [u0,u1] hl (hR.keep hr (aD.below hY)))))
 have HN:Hid (F.all q= !F.any fun x=> !q x):=hid Ll;have jO:=hid hbx;generalize F.all q=fa at*;generalize (F.any fun x=> !q x)=fb at*;clear hv hv1 hbx;go_enter Tryz.func110,Tryz.ntmps110;exact BR
theorem UK(s:ByteArray)(b:Nat)(fo:Nat)(lb:Array Value)(z:Bool)(w:World)(mI:∀args w,(callFunc fo args).run Tryz.prog w=.ok (.enter fo args) w)(hb:w.cell? ⟨b,0,none⟩=some (.func (.func fo) #[] lb))(_:b<w.heap.size)
  (hp:∀X,BL w X->CP fo (#[.string s]++lb) X fun e w'=>e=.returned (.bool z)/\BL X w'):
  Calls Tryz.prog 143 #[.string s,.pointer (some ⟨b,0,none⟩)] w fun e w'=>e=.returned (.bool (!z))/\BL w w':=by
 have HP:=hid hp;clear hp;have bT:Hid (BL w w):=hid aF;have HC:=hid (HP.out _ bT.out);go_enter Tryz.func143,Tryz.ntmps143;exact BQ
theorem aag{α:Type}{RR:(Nat->Prop)->World->Value->α->Prop}(hR:eY RR)(F:List α)(q:α->Bool)(v:Value)(S:Nat->Prop)(w:World)(hv:eU (RR S) S w v F)(hform:∀X u x,RR S X u x->∃c,u=.string c)(fo:Nat)(lb:Array Value)(mI:∀args w,(callFunc fo args).run Tryz.prog w=.ok (.enter fo args) w)
  (hp:∀X,BL w X->∀j (h:j<F.length) u,RR S X u F[j]->CP fo (#[u]++lb) X fun e w'=>e=.returned (.bool (q F[j]))/\BL X w'):
  Calls Tryz.prog 109 #[v,.func (.func fo) #[] lb] w fun e w'=>e=.returned (.bool (F.all q))/\BL w w':=by
 have HP:=hid hp;clear hp;have hbx:BL w (w.alloc (.cells #[.func (.func fo) #[] lb] 182)):=aF.alloc aH _;have hv1:eU (RR S) S (w.alloc (.cells #[.func (.func fo) #[] lb] 182)) v F:=eU.keep (R:=RR S) hv (aD.below hbx) (fun _ _ h=>hR.keep h (aD.below hbx));obtain⟨a,cap,rfl, -, -, -⟩:=hv.form
 have HC:=hid (UE hR F (fun x=> !q x) _ S _ hv1 hform 143 #[.pointer (some ⟨w.heap.size,0,none⟩)] (bH Tryz.func143 (by kernel_rfl) rfl) (fun X hX j hj u hr=>by
  obtain⟨c,rfl⟩:=hform _ _ _ hr;exact UK c w.heap.size fo lb (q F[j]) X mI ((hX.cell (p:=⟨w.heap.size,0,none⟩) bp).trans bp) Ln (fun Y hY=>HP.out Y (cG hbx (cG hX hY)) j hj (.string c) (hR.keep hr (aD.below hY)))))
 have HN:Hid (F.all q= !F.any fun x=> !q x):=hid Ll;have jO:=hid hbx;generalize F.all q=fa at*;generalize (F.any fun x=> !q x)=fb at*;clear hv hv1 hbx;go_enter Tryz.func109,Tryz.ntmps109;exact BR
theorem Xz{p:Prop}(h:p:=by
  subst hx2
  subst hy2
  generalize xs[k]=x0 at*
  have hk0:(0:Int)<=(k:Int):=aB
  have hk1:(k:Int)<(xs.length:Int):=aB
  go_wp2
  go_quiet (fail)
  have bX:=hid (aI HB.out nq)
  go_wp2
  go_roundw
  case rel=>exact⟨k+1,aB,by go_num,bX⟩
  simp[intOf]
  omega):p:=h
theorem Qq(xs:List Int)(u v:Value)(S T:Nat->Prop)(w:World)(hu:bq S w u xs)(hv:bq T w v xs):
  Calls Tryz.prog 32 #[u,v] w fun e w'=>e=.returned (.bool true)/\BL w w':=by
 obtain⟨a,cap,rfl,hok,hcap,hmax⟩:=hu.form;obtain⟨a',cap',rfl,wL,rY,o9⟩:=hv.form;have HU:=hid hu;have HV:=hid hv;clear hu hv;go_enter Tryz.func32,Tryz.ntmps32;go_wp2;go_loopw [13] (fun i wr=>∃k:Nat,k<=xs.length/\i=.int .i64 k/\Hid (BL w wr)) (fun i _=>xs.length-(intOf i).toNat);case atStart=>exact⟨0,Nat.zero_le _,rfl,hid aF⟩
 case round=>
  obtain⟨k,hk,rfl,HB⟩:=hrel;obtain⟨wo,rfl⟩:=bB (wr:World);by_cases hlt:k<xs.length
  ·obtain⟨x,hx, -,hx2⟩:=(bq.keep HU.out (aD.below HB.out)).at hlt
   obtain⟨y,hy, -,hy2⟩:=(bq.keep HV.out (aD.below HB.out)).at hlt;exact Xz
  ·go_wp2
   go_ret;exact⟨rfl,HB.out⟩
theorem Qr(xs:List ByteArray)(u v:Value)(S T:Nat->Prop)(w:World)(hu:fP S w u xs)(hv:fP T w v xs):
  Calls Tryz.prog 172 #[u,v] w fun e w'=>e=.returned (.bool true)/\BL w w':=by
 obtain⟨a,cap,rfl,hok,hcap,hmax⟩:=hu.form;obtain⟨a',cap',rfl,wL,rY,o9⟩:=hv.form;have HU:=hid hu;have HV:=hid hv;clear hu hv;go_enter Tryz.func172,Tryz.ntmps172;go_wp2;go_loopw [13] (fun i wr=>∃k:Nat,k<=xs.length/\i=.int .i64 k/\Hid (BL w wr)) (fun i _=>xs.length-(intOf i).toNat);case atStart=>exact⟨0,Nat.zero_le _,rfl,hid aF⟩
 case round=>
  obtain⟨k,hk,rfl,HB⟩:=hrel;obtain⟨wo,rfl⟩:=bB (wr:World);by_cases hlt:k<xs.length
  ·obtain⟨x,hx, -,hx2⟩:=(fP.keep HU.out (aD.below HB.out)).at hlt
   obtain⟨y,hy, -,hy2⟩:=(fP.keep HV.out (aD.below HB.out)).at hlt;exact Xz
  ·go_wp2
   go_ret;exact⟨rfl,HB.out⟩
theorem L7{w:World}{g:Nat}{x0 x1 x2 x3 x4 x5 x6 x7:Value}{tmps:Array Value}(h:w.heap[g]?=some (.cells #[x0,x1,x2,x3,x4,x5,x6,x7] 46 (0,0)))(hp:tmps[2]?=some (.pointer (some ⟨g,0,none⟩))):
  (results Tryz.f140 tmps).run Tryz.prog w=.ok (.agg #[x0,x1,x2,x3,x4,x5,x6,x7]) w:=by
 obtain⟨⟨h0,h1,h2,h3,h4,h5,h6,h7⟩, -⟩:=dK h;simp[results,Tryz.results140,go_sem,hp,h0,h1,h2,h3,h4,h5,h6,h7]
theorem Ib{W:World}{k:Nat}{o:Obj}(h:W.heap[k]?=some o):W.drew.heap[k]?=some o:=h
theorem Qs{p:Prop}(h:p:=by
  go_wp2
  refine bodyPost_ret (L7 (g:=w.heap.size+1) ?h1 rfl) rfl ⟨rfl, ?h2⟩
  case h1=>first|exact bG _ (aW _ _ bp)|exact Ib (bG _ (aW _ _ bp))
  case h2=>first|exact((aF.alloc aH _).alloc bp _).alloc lC _|exact(((aF.alloc aH _).alloc bp _).alloc lC _).drew):p:=h
theorem acS(nm:ByteArray)(lo:Int)(aw:Option Addr)(nw cw:Nat)(ag:Option Addr)(ng cg:Nat)(w:World):
  Calls Tryz.prog 140 #[.agg #[.string nm,.string ah.nil,.string ah.nil,.int .i64 0,.int .i64 lo,.int .i64 0,.slice aw nw cw,.slice ag ng cg]] w fun e w'=>e=.returned (.agg #[.string nm,.string ah.nil,.string ah.nil,.int .i64 0,.int .i64 lo,.int .i64 0,.slice none 0 0,.slice none 0 0])/\BL w w':=by
 try unfold ah.nil
 go_enter Tryz.func140,Tryz.ntmps140;exact Qs
theorem yJ{p:Prop}(h:p:=by
  try unfold ah.nil
  go_enter Tryz.func140,Tryz.ntmps140
  go_wp2
  go_region
  exact Qs):p:=h
theorem acT(nm:ByteArray)(o:ByteArray)(lo:Int)(hi:Int)(aw:Option Addr)(nw cw:Nat)(ag:Option Addr)(ng cg:Nat)(w:World):
  Calls Tryz.prog 140 #[.agg #[.string nm,.string o,.string ah.nil,.int .i64 1,.int .i64 lo,.int .i64 hi,.slice aw nw cw,.slice ag ng cg]] w fun e w'=>e=.returned (.agg #[.string nm,.string o,.string ah.nil,.int .i64 1,.int .i64 lo,.int .i64 hi,.slice none 0 0,.slice none 0 0])/\BL w w':=by
 exact yJ
theorem acU(nm:ByteArray)(lo:Int)(hi:Int)(aw:Option Addr)(nw cw:Nat)(ag:Option Addr)(ng cg:Nat)(w:World):
  Calls Tryz.prog 140 #[.agg #[.string nm,.string ah.nil,.string ah.nil,.int .i64 2,.int .i64 lo,.int .i64 hi,.slice aw nw cw,.slice ag ng cg]] w fun e w'=>e=.returned (.agg #[.string nm,.string ah.nil,.string ah.nil,.int .i64 2,.int .i64 lo,.int .i64 hi,.slice none 0 0,.slice none 0 0])/\BL w w':=by
 exact yJ
theorem acV(nm:ByteArray)(aw:Option Addr)(nw cw:Nat)(ag:Option Addr)(ng cg:Nat)(w:World):
  Calls Tryz.prog 140 #[.agg #[.string nm,.string ah.nil,.string ah.nil,.int .i64 3,.int .i64 0,.int .i64 0,.slice aw nw cw,.slice ag ng cg]] w fun e w'=>e=.returned (.agg #[.string nm,.string ah.nil,.string ah.nil,.int .i64 3,.int .i64 0,.int .i64 0,.slice aw nw cw,.slice ag ng cg])/\BL w w':=by
 exact yJ
theorem acW(nm:ByteArray)(o:ByteArray)(lo:Int)(hi:Int)(aw:Option Addr)(nw cw:Nat)(ag:Option Addr)(ng cg:Nat)(w:World):
  Calls Tryz.prog 140 #[.agg #[.string nm,.string o,.string ah.nil,.int .i64 4,.int .i64 lo,.int .i64 hi,.slice aw nw cw,.slice ag ng cg]] w fun e w'=>e=.returned (.agg #[.string nm,.string o,.string ah.nil,.int .i64 4,.int .i64 lo,.int .i64 hi,.slice none 0 0,.slice none 0 0])/\BL w w':=by
 exact yJ
theorem acX(nm:ByteArray)(o:ByteArray)(lo:Int)(hi:Int)(aw:Option Addr)(nw cw:Nat)(ag:Option Addr)(ng cg:Nat)(w:World):
  Calls Tryz.prog 140 #[.agg #[.string nm,.string o,.string ah.nil,.int .i64 5,.int .i64 lo,.int .i64 hi,.slice aw nw cw,.slice ag ng cg]] w fun e w'=>e=.returned (.agg #[.string nm,.string o,.string ah.nil,.int .i64 5,.int .i64 lo,.int .i64 hi,.slice none 0 0,.slice none 0 0])/\BL w w':=by
 exact yJ
theorem acY(nm:ByteArray)(o:ByteArray)(aw:Option Addr)(nw cw:Nat)(ag:Option Addr)(ng cg:Nat)(w:World):
  Calls Tryz.prog 140 #[.agg #[.string nm,.string o,.string ah.nil,.int .i64 6,.int .i64 0,.int .i64 0,.slice aw nw cw,.slice ag ng cg]] w fun e w'=>e=.returned (.agg #[.string nm,.string o,.string ah.nil,.int .i64 6,.int .i64 0,.int .i64 0,.slice none 0 0,.slice none 0 0])/\BL w w':=by
 try unfold ah.nil
 go_enter Tryz.func140,Tryz.ntmps140;exact Qs
theorem acZ(nm:ByteArray)(o:ByteArray)(up:ByteArray)(lo:Int)(hi:Int)(aw:Option Addr)(nw cw:Nat)(ag:Option Addr)(ng cg:Nat)(w:World):
  Calls Tryz.prog 140 #[.agg #[.string nm,.string o,.string up,.int .i64 7,.int .i64 lo,.int .i64 hi,.slice aw nw cw,.slice ag ng cg]] w fun e w'=>e=.returned (.agg #[.string nm,.string o,.string up,.int .i64 7,.int .i64 lo,.int .i64 hi,.slice none 0 0,.slice none 0 0])/\BL w w':=by
 exact yJ
theorem ac0(nm:ByteArray)(o:ByteArray)(up:ByteArray)(aw:Option Addr)(nw cw:Nat)(ag:Option Addr)(ng cg:Nat)(w:World):
  Calls Tryz.prog 140 #[.agg #[.string nm,.string o,.string up,.int .i64 8,.int .i64 0,.int .i64 0,.slice aw nw cw,.slice ag ng cg]] w fun e w'=>e=.returned (.agg #[.string nm,.string o,.string up,.int .i64 8,.int .i64 0,.int .i64 0,.slice none 0 0,.slice none 0 0])/\BL w w':=by
 exact yJ
def onV(k:Int)(v:Value):Value:=if k=3 then v else .slice none 0 0
theorem Qt(f:ah.cD)(hf:ah.cV f=true)(aw:Option Addr)(nw cw:Nat)(ag:Option Addr)(ng cg:Nat)(w:World):
  Calls Tryz.prog 140 #[.agg (cF f (.slice aw nw cw) (.slice ag ng cg)).toArray] w fun e w'=>e=.returned (.agg (cF f (onV f.kind (.slice aw nw cw)) (onV f.kind (.slice ag ng cg))).toArray)/\BL w w':=by
 obtain⟨k0,k8⟩:=ah.sG hf;unfold ah.cV ah.mg at hf;obtain⟨nm,o,up,k,lo,hi,ws,gs⟩:=f;simp only at k0 k8;have:k=0\/k=1\/k=2\/k=3\/k=4\/k=5\/k=6\/k=7\/k=8:=aB
 simp only[cF];rcases this with rfl|rfl|rfl|rfl|rfl|rfl|rfl|rfl|rfl<;>simp only[pF,Bool.or_eq_true,qZ] at hf<;>simp at hf
 ·obtain⟨⟨-,hz⟩, -⟩:=hf
  obtain⟨⟨⟨⟨rfl,rfl⟩,rfl⟩,rfl⟩,rfl⟩:=hz;refine(acS nm lo aw nw cw ag ng cg w).mono ?_;rintro e w' ⟨rfl,hb⟩;exact⟨rfl,hb⟩
 ·obtain⟨⟨-,hz⟩, -⟩:=hf
  obtain⟨⟨rfl,rfl⟩,rfl⟩:=hz;refine(acT nm o lo hi aw nw cw ag ng cg w).mono ?_;rintro e w' ⟨rfl,hb⟩;exact⟨rfl,hb⟩
 ·obtain⟨⟨-,hz⟩, -⟩:=hf
  obtain⟨⟨⟨rfl,rfl⟩,rfl⟩,rfl⟩:=hz;refine(acU nm lo hi aw nw cw ag ng cg w).mono ?_;rintro e w' ⟨rfl,hb⟩;exact⟨rfl,hb⟩
 ·obtain⟨⟨-,hz⟩, -⟩:=hf
  obtain⟨⟨⟨rfl,rfl⟩,rfl⟩,rfl⟩:=hz;refine(acV nm aw nw cw ag ng cg w).mono ?_;rintro e w' ⟨rfl,hb⟩;exact⟨rfl,hb⟩
 ·obtain⟨⟨-,hz⟩, -⟩:=hf
  obtain⟨⟨rfl,rfl⟩,rfl⟩:=hz;refine(acW nm o lo hi aw nw cw ag ng cg w).mono ?_;rintro e w' ⟨rfl,hb⟩;exact⟨rfl,hb⟩
 ·obtain⟨⟨-,hz⟩, -⟩:=hf
  obtain⟨⟨rfl,rfl⟩,rfl⟩:=hz;refine(acX nm o lo hi aw nw cw ag ng cg w).mono ?_;rintro e w' ⟨rfl,hb⟩;exact⟨rfl,hb⟩
 ·obtain⟨⟨-,hz⟩, -⟩:=hf
  obtain⟨⟨⟨⟨rfl,rfl⟩,rfl⟩,rfl⟩,rfl⟩:=hz;refine(acY nm o aw nw cw ag ng cg w).mono ?_;rintro e w' ⟨rfl,hb⟩;exact⟨rfl,hb⟩
 ·obtain⟨⟨-,hz⟩, -⟩:=hf
  obtain⟨rfl,rfl⟩:=hz;refine(acZ nm o up lo hi aw nw cw ag ng cg w).mono ?_;rintro e w' ⟨rfl,hb⟩;exact⟨rfl,hb⟩
 ·obtain⟨⟨-,hz⟩, -⟩:=hf
  obtain⟨⟨⟨rfl,rfl⟩,rfl⟩,rfl⟩:=hz;refine(ac0 nm o up aw nw cw ag ng cg w).mono ?_;rintro e w' ⟨rfl,hb⟩;exact⟨rfl,hb⟩
theorem A5(f:ah.cD)(aw ZR:Option Addr)(cw ZS:Nat)(ag OY:Option Addr)(cg NR:Nat)(S T S' T':Nat->Prop)(w:World)
  (h1:fP S w (.slice aw f.cB.length cw) f.cB)(h2:fP T w (.slice ZR f.cB.length ZS) f.cB)(h3:bq S' w (.slice ag f.bO.length cg) f.bO)(h4:bq T' w (.slice OY f.bO.length NR) f.bO):
  Calls Tryz.prog 139 #[.agg (cF f (.slice aw f.cB.length cw) (.slice ag f.bO.length cg)).toArray,.agg (cF f (.slice ZR f.cB.length ZS) (.slice OY f.bO.length NR)).toArray] w
   fun e w'=>e=.returned (.bool true)/\BL w w':=by
 have HS:=hid (fun(W:World) (hb:BL w W)=>Qr f.cB _ _ S T W (h1.keep (aD.below hb)) (h2.keep (aD.below hb)));have HI:=hid (fun(W:World) (hb:BL w W)=>Qq f.bO _ _ S' T' W (h3.keep (aD.below hb)) (h4.keep (aD.below hb)));clear h1 h2 h3 h4;obtain⟨nm,o,up,k,lo,hi,ws,gs⟩:=f;simp only[cF] at HS HI ⊢;generalize ws.length=nw at*;generalize gs.length=ng at*;go_enter Tryz.func139,Tryz.ntmps139;go_wp2_with fail;refine(HS.out _ ((aF.alloc aH _).alloc bp _)).mono ?_;rintro e w2 ⟨rfl,hb2⟩;have bX:Hid (BL w w2):=hid (((aF.alloc aH _).alloc bp _).trans (hb2.mono lC))
 obtain⟨y6,y7,y8,y9⟩:w2.cell? ⟨w.heap.size,6,none⟩=some (.slice aw nw cw)/\w2.cell? ⟨w.heap.size,7,none⟩=some (.slice ag ng cg)/\w2.cell? ⟨w.heap.size+1,6,none⟩=some (.slice ZR nw ZS)/\w2.cell? ⟨w.heap.size+1,7,none⟩=some (.slice OY ng NR):=by
  refine⟨(hb2.cell (p:=⟨w.heap.size,6,none⟩) lC).trans bp,(hb2.cell (p:=⟨w.heap.size,7,none⟩) lC).trans bp,(hb2.cell (p:=⟨w.heap.size+1,6,none⟩) bp).trans bp,(hb2.cell (p:=⟨w.heap.size+1,7,none⟩) bp).trans bp⟩
 clear hb2;go_wp2_with fail;refine(HI.out _ bX.out).mono ?_;rintro e w3 ⟨rfl,hb3⟩;have cE:=aU bX hb3;clear hb3;go_wp2;go_ret;exact⟨rfl,cE.out⟩
theorem L8(S:Nat->Prop):∀(X:World) (u:Value) (x:ByteArray),(fun(_:Nat->Prop) (_:World) u (x:ByteArray)=>u=Value.string x) S X u x->∃c,u=.string c:=fun _ _ _ h=>⟨_,h⟩
theorem BS(ws:List ByteArray)(v:Value)(S:Nat->Prop)(w:World)(hv:fP S w v ws):
  Calls Tryz.prog 109 #[v,.func (.func 104) #[] #[]] w fun e w'=>e=.returned (.bool (ws.all ah.aY))/\BL w w':=
 aag GU ws ah.aY v S w hv (L8 S) 104 #[] (bH Tryz.func104 (by kernel_rfl) rfl) (fun X _ j hj u hu=>by
  have hu:u=.string ws[j]:=hu;subst hu;exact cO ws[j] X)
theorem L9(gs:List Int){k:Nat}(h:k<gs.length):ah.rq (gs.take (k+1))=ah.rq (gs.take k)+gs[k]:=by
 rw[CY h];unfold ah.rq;rw[List.foldl_append];rfl
theorem oy{ws:List ah.Nm}{gs:List Int}(h:ah.jR ws gs=true):(∀g∈gs,ah.qA g 0 1048576=true)/\ah.qA ws.length 1 12=true/\ws.length=gs.length/\0<ah.rq gs/\ws.all ah.aY=true:=by
 unfold ah.jR at h;simp only[pF,qZ,List.all_eq_true] at h;exact⟨h.1.1.1.1,h.1.1.1.2,h.1.1.2,h.1.2,by rw[List.all_eq_true];exact h.2⟩
theorem gJ{n a b:Int}(h:ah.qA n a b=true):a<=n/\n<=b:=by
 unfold ah.qA at h;simpa using h
theorem Ic(ws:List ByteArray)(gs:List Int)(h:ah.jR ws gs=true)(v u:Value)(S T:Nat->Prop)(w:World)(hv:fP S w v ws)(hu:bq T w u gs):
  Calls Tryz.prog 141 #[v,u] w fun e w'=>e=.returned (.bool true)/\BL w w':=by
 obtain⟨p1,p2,p3,p4,p5⟩:=oy h;have UL:=(gJ p2).2;have HG:=hid p1;have HW:=hid p2;have HL:=hid p3;have HP:=hid p4;obtain⟨a,cap,rfl,hok,hcap,hmax⟩:=hv.form;obtain⟨b,cb,rfl,ac1,hcapb,hmaxb⟩:=hu.form;have HN:=hid (fun(W:World) (hb:BL w W)=>BS ws _ S W (hv.keep (aD.below hb)));rw[p5] at HN;have HU:=hid hu;rw[p3] at HN UL;have HW2:=hid (fun W=>fL (ws.length:Int) 1 12 W);rw[HW.out,p3] at HW2;rw[p3];clear hv hu h p1 p2 p3 p4 p5;have hgl:gs.length<=12:=aB
 go_enter Tryz.func141,Tryz.ntmps141;go_upto_region 3 with fail;go_loopw [5,10] (fun s i wr=>∃(k:Nat) (z:Int),k<=gs.length/\i=.int .i64 (k:Int)/\s=.int .i64 z/\Hid (z=ah.rq (gs.take k)/\0<=z/\z<=1048576*k)/\Hid (BL w wr)) (fun _ i _=>gs.length-(intOf i).toNat);case atStart=>exact⟨0,0,aB,rfl,rfl,hid ⟨rfl,aB,aB⟩,hid aF⟩
 case round=>
  obtain⟨k,z,hk,rfl,rfl,HZ,HB⟩:=hrel;obtain⟨wo,rfl⟩:=bB (wr:World);by_cases hlt:k<gs.length
  ·have hk0:(0:Int)<=(k:Int):=by omega
   have hk1:(k:Int)<(gs.length:Int):=aB
   obtain⟨x,hx, -,hx2⟩:=(bq.keep HU.out (aD.below HB.out)).at hlt;subst hx2;have hg:=HG.out _ (gm hlt);have hgn:=gJ hg;have HI:=hid (fL gs[k] 0 1048576 wo);rw[hg] at HI
   have HZ2:Hid (z+gs[k]=ah.rq (gs.take (k+1))/\0<=z+gs[k]/\z+gs[k]<=1048576*(k+1:Nat)):=hid (by
    have:=HZ.out
    refine⟨by rw[L9 gs hlt,this.1],aB,aB⟩)
   have hz1:0<=z:=HZ.out.2.1;have hz2:z<=1048576*12:=by have:=HZ.out.2.2;omega
   clear hg;generalize gs[k]=g at*;go_wp2_with fail;refine HI.out.mono ?_;rintro e w' ⟨rfl,rfl⟩;go_wp2;go_roundw;case rel=>exact⟨k+1,z+g,aB,by go_num,rfl,HZ2,HB⟩
   simp[intOf];omega
  ·have hz:0<z:=by
    have:=HZ.out.1
    rw[this,zTl aB]
    exact HP.out
   have Ma:=hid (HN.out wo HB.out);have HWo:=hid (HW2.out wo);go_wp2_with fail;refine HWo.out.mono ?_;rintro e w' ⟨rfl,rfl⟩;go_wp2_with fail;refine Ma.out.mono ?_;rintro e w' ⟨rfl,hb⟩;have bX:=aU HB hb;clear hb;go_wp2;go_ret;exact⟨rfl,bX.out⟩
theorem Qu{S:Nat->Prop}{w:World}{f:ah.cD}(hf:ah.cV f=true){aw:Option Addr}{cw:Nat}(_h:fP S w (.slice aw f.cB.length cw) f.cB):
  ∃a c,onV f.kind (.slice aw f.cB.length cw)=.slice a f.cB.length c/\∀W,fP S W (.slice aw f.cB.length cw) f.cB->fP S W (.slice a f.cB.length c) f.cB:=by
 unfold onV;by_cases h3:f.kind=3
 ·rw[if_pos h3];exact⟨aw,cw,rfl,fun _ h=>h⟩
 ·rw[if_neg h3]
  have hw:f.cB=[]:=by
   unfold ah.cV ah.mg at hf;simp only[pF,Bool.or_eq_true,qZ] at hf;rcases hf.1.2.1.2 with e|e
   ·exact e
   ·exact absurd e h3
  rw[hw];exact⟨none,0,rfl,fun W _=>eU.nil _ _ _⟩
theorem Qv{S:Nat->Prop}{w:World}{f:ah.cD}(hf:ah.cV f=true){aw:Option Addr}{cw:Nat}(_h:bq S w (.slice aw f.bO.length cw) f.bO):
  ∃a c,onV f.kind (.slice aw f.bO.length cw)=.slice a f.bO.length c/\∀W,bq S W (.slice aw f.bO.length cw) f.bO->bq S W (.slice a f.bO.length c) f.bO:=by
 unfold onV;by_cases h3:f.kind=3
 ·rw[if_pos h3];exact⟨aw,cw,rfl,fun _ h=>h⟩
 ·rw[if_neg h3]
  have hw:f.bO=[]:=by
   unfold ah.cV ah.mg at hf;simp only[pF,Bool.or_eq_true,qZ] at hf;rcases hf.1.2.2 with e|e
   ·exact e
   ·exact absurd e h3
  rw[hw];exact⟨none,0,rfl,fun W _=>eU.nil _ _ _⟩
theorem vE{f:ah.cD}(h:ah.cV f=true):ah.aY f.name=true/\ah.lG f=true:=by
 unfold ah.cV at h;simp only[pF] at h;exact⟨h.1.1,h.2⟩
theorem Qw{p:Prop}(h:p:=by
  rw[hc2] at HX
  go_wp2_with fail
  refine HX.out.mono ?_
  rintro e w' ⟨rfl,rfl⟩
  clear HX
  go_wp2
  go_ret
  exact⟨rfl,um.out⟩):p:=h
theorem Qx{p:Prop}(h:p:=by
  go_wp2_with fail
  refine HX.out.mono ?_
  rintro e w' ⟨rfl,rfl⟩
  clear HX
  go_wp2
  go_ret
  exact⟨rfl,yK.out⟩):p:=h
theorem E5(f:ah.cD)(hf:ah.cV f=true)(uw ug:Value)(S T:Nat->Prop)(w:World)(h1:fP S w uw f.cB)(h2:bq T w ug f.bO):
  Calls Tryz.prog 107 #[.agg (cF f uw ug).toArray] w fun e w'=>e=.returned (.bool true)/\BL w w':=by
 obtain⟨hnm,hcase⟩:=vE hf;obtain⟨kk0,kk8⟩:=ah.sG hf;obtain⟨aw,cw,rfl, -, -, -⟩:=h1.form;obtain⟨ag,cg,rfl, -, -, -⟩:=h2.form;obtain⟨a2,c2,eo1,Ie⟩:=Qu hf h1;obtain⟨b2,d2,eo2,Mb⟩:=Qv hf h2;have HOn:=hid (fun W=>Qt f hf aw f.cB.length cw ag f.bO.length cg W);rw[eo1,eo2] at HOn;obtain⟨w1,hw1⟩:=bB (w.alloc (.cells (cF f (.slice aw f.cB.length cw) (.slice ag f.bO.length cg)).toArray 46));have bT:Hid (Below w.heap.size w w1):=hid Ab;have HK:Hid (∀W,BL w1 W->W.heap[w.heap.size]?=some (.cells (cF f (.slice aw f.cB.length cw) (.slice ag f.bO.length cg)).toArray 46 (0,0))):=hid (fun W hW=>(hW.block _ jH).trans wI);have HSm:=hid (fun(W:World) (hb:BL w W)=>A5 f aw a2 cw c2 ag b2 cg d2 S S T T W (h1.keep (aD.below hb)) (Ie W (h1.keep (aD.below hb))) (h2.keep (aD.below hb)) (Mb W (h2.keep (aD.below hb))));have HPk:=hid (fun(hp:ah.jR f.cB f.bO=true) (W:World) (hb:BL w W)=>Ic f.cB f.bO hp _ _ S T W (h1.keep (aD.below hb)) (h2.keep (aD.below hb)));have Ud:=hid (fun W=>cO f.name W);rw[hnm] at Ud;have hz1:w.heap.size<w1.heap.size:=jH
 clear h1 h2 eo1 eo2 Ie Mb hnm;obtain⟨nm,o,up,k,lo,hi,ws,gs⟩:=f;simp only[cF] at hw1 HOn HK HSm HPk Ud kk0 kk8 ⊢;generalize ws.length=nw at*;generalize gs.length=ng at*;obtain⟨⟨y0,y1,y2,y3,y4,y5,y6,y7⟩, -⟩:=dK (HK.out w1 aF);have HG1:=hid (fun(x:qW w1)=>Calls.xu (x:=x) (Ud.out x.1));have HG2:=hid (fun(x:qW w1)=>Calls.xu (x:=x) (HOn.out x.1));have C5:=hid (fun(x:qW w1)=>Calls.xu (x:=x) (HSm.out x.1 (cG bT.out x.2)));have HW:=hid hw1;clear hw1;go_enter Tryz.func107,Tryz.ntmps107;go_upto_region 1 with fail;rw[<-HW.out];have hg:=qW.cell (w:=w1);refine mT (by kernel_rfl) (by kernel_rfl) ?_;iterate 2 (go_big_quiet_step (fail))
 go_big_quiet_step ((exact HG1.out _));iterate 4 (go_big_quiet_step (fail))
 go_big_quiet_step ((exact HG2.out _));go_big_quiet_step ((exact C5.out _));repeat (go_big_quiet_step (fail))
 refine iL ?_;intro w2 hx;have hb2:=xO hx;clear hx hg HG1 HG2 C5 y0 y1 y2 y3 y4 y5 y6 y7;have bX:Hid (BL w1 w2):=hid hb2;have yK:Hid (BL w w2):=hid (cG bT.out hb2);clear hb2;obtain⟨⟨y0,y1,y2,y3,y4,y5,y6,y7⟩, -⟩:=dK (HK.out w2 bX.out);have Ao:=hid hcase;clear hcase;have:k=0\/k=1\/k=2\/k=3\/k=4\/k=5\/k=6\/k=7\/k=8:=aB
 rcases this with rfl|rfl|rfl|rfl|rfl|rfl|rfl|rfl|rfl
 ·have hc:ah.qA lo (-1048576) 1048576=true:=Ao.out
  have HX:=hid (fL lo (-1048576) 1048576 w2);rw[hc] at HX;exact Qx
 ·have hc:(ah.aY o&&ah.fJ lo hi 0 65536)=true:=Ao.out
  obtain⟨hc1,hc2⟩:=Bool.and_eq_true_iff.1 hc;have HX:=hid (cO o w2);rw[hc1] at HX;go_wp2_with fail;refine HX.out.mono ?_;rintro e w3 ⟨rfl,hb⟩;have cE:=aU bX hb;have um:Hid (BL w w3):=hid (cG yK.out hb);clear hb HX y0 y1 y2 y3 y4 y5 y6 y7;obtain⟨⟨y0,y1,y2,y3,y4,y5,y6,y7⟩, -⟩:=dK (HK.out w3 cE.out);have HX:=hid (jL lo hi 0 65536 w3);exact Qw
 ·have hc:ah.fJ lo hi (-1048576) 1048576=true:=Ao.out
  have HX:=hid (jL lo hi (-1048576) 1048576 w2);rw[hc] at HX;exact Qx
 ·have hc:ah.jR ws gs=true:=Ao.out
  have HX:=hid (HPk.out hc w2 yK.out);go_wp2_with fail;refine HX.out.mono ?_;rintro e w3 ⟨rfl,hb⟩;have um:Hid (BL w w3):=hid (cG yK.out hb);clear hb HX;go_wp2;go_ret;exact⟨rfl,um.out⟩
 ·have hc:((decide (o=ah.nil)||ah.aY o)&&ah.fJ lo hi (-1048576) 1048576)=true:=Ao.out
  obtain⟨hc1,hc2⟩:=Bool.and_eq_true_iff.1 hc;by_cases ho:o=ah.nil
  ·subst ho
   unfold ah.nil at*;have HX:=hid (jL lo hi (-1048576) 1048576 w2);rw[hc2] at HX;exact Qx
  ·have hc3:ah.aY o=true:=by
    rw[decide_eq_false ho] at hc1;exact hc1
   have hoe:o.toList.isEmpty=false:=by
    cases hh:o.toList.isEmpty
    ·rfl
    ·exact absurd (str_inj (a:=o) (b:=ah.nil) (by rw[List.isEmpty_iff.1 hh,ByteArray.toList_eq];rfl)) ho
   have HX:=hid (cO o w2);rw[hc3] at HX;go_wp2_with fail;refine HX.out.mono ?_;rintro e w3 ⟨rfl,hb⟩;have cE:=aU bX hb;have um:Hid (BL w w3):=hid (cG yK.out hb);clear hb HX y0 y1 y2 y3 y4 y5 y6 y7;obtain⟨⟨y0,y1,y2,y3,y4,y5,y6,y7⟩, -⟩:=dK (HK.out w3 cE.out);have HX:=hid (jL lo hi (-1048576) 1048576 w3);exact Qw
 ·have hc:(ah.aY o&&ah.fJ lo hi 0 32)=true:=Ao.out
  obtain⟨hc1,hc2⟩:=Bool.and_eq_true_iff.1 hc;have HX:=hid (cO o w2);rw[hc1] at HX;go_wp2_with fail;refine HX.out.mono ?_;rintro e w3 ⟨rfl,hb⟩;have cE:=aU bX hb;have um:Hid (BL w w3):=hid (cG yK.out hb);clear hb HX y0 y1 y2 y3 y4 y5 y6 y7;obtain⟨⟨y0,y1,y2,y3,y4,y5,y6,y7⟩, -⟩:=dK (HK.out w3 cE.out);have HX:=hid (jL lo hi 0 32 w3);exact Qw
 ·have hc:ah.aY o=true:=Ao.out
  have HX:=hid (cO o w2);rw[hc] at HX;go_wp2_with fail;refine HX.out.mono ?_;rintro e w3 ⟨rfl,hb⟩;have cE:=aU bX hb;have um:Hid (BL w w3):=hid (cG yK.out hb);clear hb HX y0 y1 y2 y3 y4 y5 y6 y7;obtain⟨⟨y0,y1,y2,y3,y4,y5,y6,y7⟩, -⟩:=dK (HK.out w3 cE.out);go_wp2;go_ret;exact⟨rfl,um.out⟩
 ·have hc:(ah.aY o&&ah.aY up&&ah.fJ lo hi 0 1048576)=true:=Ao.out
  obtain⟨hc0,hc3⟩:=Bool.and_eq_true_iff.1 hc;obtain⟨hc1,hc2⟩:=Bool.and_eq_true_iff.1 hc0;have HX:=hid (cO o w2);rw[hc1] at HX;go_wp2_with fail;refine HX.out.mono ?_;rintro e w3 ⟨rfl,hb⟩;have cE:=aU bX hb;have um:Hid (BL w w3):=hid (cG yK.out hb);clear hb HX y0 y1 y2 y3 y4 y5 y6 y7;obtain⟨⟨y0,y1,y2,y3,y4,y5,y6,y7⟩, -⟩:=dK (HK.out w3 cE.out);have HX:=hid (cO up w3);rw[hc2] at HX;go_wp2_with fail;refine HX.out.mono ?_;rintro e w4 ⟨rfl,hb⟩;have gK:=aU cE hb;have aah:Hid (BL w w4):=hid (cG um.out hb);clear hb HX y0 y1 y2 y3 y4 y5 y6 y7;obtain⟨⟨y0,y1,y2,y3,y4,y5,y6,y7⟩, -⟩:=dK (HK.out w4 gK.out);have HX:=hid (jL lo hi 0 1048576 w4);rw[hc3] at HX;go_wp2_with fail;refine HX.out.mono ?_;rintro e w' ⟨rfl,rfl⟩;clear HX;go_wp2;go_ret;exact⟨rfl,aah.out⟩
 ·have hc:(ah.aY o&&ah.aY up)=true:=Ao.out
  obtain⟨hc1,hc2⟩:=Bool.and_eq_true_iff.1 hc;have HX:=hid (cO o w2);rw[hc1] at HX;go_wp2_with fail;refine HX.out.mono ?_;rintro e w3 ⟨rfl,hb⟩;have cE:=aU bX hb;have um:Hid (BL w w3):=hid (cG yK.out hb);clear hb HX y0 y1 y2 y3 y4 y5 y6 y7;obtain⟨⟨y0,y1,y2,y3,y4,y5,y6,y7⟩, -⟩:=dK (HK.out w3 cE.out);have HX:=hid (cO up w3);rw[hc2] at HX;go_wp2_with fail;refine HX.out.mono ?_;rintro e w4 ⟨rfl,hb⟩;have gK:=aU cE hb;have aah:Hid (BL w w4):=hid (cG um.out hb);clear hb HX y0 y1 y2 y3 y4 y5 y6 y7;obtain⟨⟨y0,y1,y2,y3,y4,y5,y6,y7⟩, -⟩:=dK (HK.out w4 gK.out);go_wp2;go_ret;exact⟨rfl,aah.out⟩
theorem Ig(fs:List ah.cD)(hf:∀f∈fs,ah.cV f=true)(v:Value)(S:Nat->Prop)(w:World)(hv:dh S w v fs):
  Calls Tryz.prog 106 #[v,.func (.func 107) #[] #[]] w fun e w'=>e=.returned (.bool true)/\BL w w':=by
 have H:=aae bD fs (fun _=>true) v S w hv 107 #[] (bH Tryz.func107 (by kernel_rfl) rfl) (fun X _ j hj us _ hu=>by
  obtain⟨uw,ug,rfl,h1,h2⟩:=hu;exact E5 fs[j] (hf _ (gm hj)) uw ug S S X h1 h2)
 have:fs.all (fun _=>true)=true:=bp
 rwa [this] at H
theorem vF{k:ah.dZ}(h:ah.oM k=true):ah.aY k.name=true/\ah.fJ k.lo k.hi 0 65536=true/\k.aG.length<=10/\∀f∈k.aG,ah.cV f=true:=by
 unfold ah.oM at h;simp only[pF,qZ,List.all_eq_true] at h;exact⟨h.1.1.1,h.1.1.2,h.1.2,h.2⟩
theorem Ih(k:ah.dZ)(hk:ah.oM k=true)(uf:Value)(S:Nat->Prop)(w:World)(hv:dh S w uf k.aG):
  Calls Tryz.prog 69 #[.agg (kH k uf).toArray] w fun e w'=>e=.returned (.bool true)/\BL w w':=by
 obtain⟨p1,p2,p3,p4⟩:=vF hk;obtain⟨af,cf,rfl, -, -, -⟩:=hv.form;have HA:=hid (fun(W:World) (hb:BL w W)=>Ig k.aG p4 _ S W (hv.keep (aD.below hb)));have HN:=hid (fun W=>cO k.name W);have HS:=hid (fun W=>jL k.lo k.hi 0 65536 W);rw[p1] at HN;rw[p2] at HS;obtain⟨w1,hw1⟩:=bB (w.alloc (.cells (kH k (.slice af k.aG.length cf)).toArray 49));have bT:Hid (Below w.heap.size w w1):=hid Ab;have HK:Hid (∀W,BL w1 W->W.heap[w.heap.size]?=some (.cells (kH k (.slice af k.aG.length cf)).toArray 49 (0,0))):=hid (fun W hW=>(hW.block _ jH).trans wI);clear hv hk p1 p2 p4;obtain⟨nm,lo,hi,fs⟩:=k;simp only[kH] at hw1 HK HA HN HS p3 ⊢;generalize fs.length=n at*;have hn:(n:Int)<=10:=aB
 have HW:=hid hw1;clear hw1;obtain⟨⟨y0,y1,y2,y3⟩, -⟩:=bC (HK.out w1 aF);go_enter Tryz.func69,Tryz.ntmps69;go_upto_region 1 with fail;rw[<-HW.out];go_wp2_with fail;refine(HN.out _).mono ?_;rintro e w2 ⟨rfl,hb⟩;clear y0 y1 y2 y3;obtain⟨⟨y0,y1,y2,y3⟩, -⟩:=bC (HK.out w2 hb);have bX:=aU bT hb;clear hb;go_wp2_with fail;refine(HS.out _).mono ?_;rintro e w' ⟨rfl,rfl⟩;go_wp2_with fail;refine(HA.out _ bX.out).mono ?_;rintro e w3 ⟨rfl,hb⟩;have cE:=aU bX hb;clear hb;go_wp2;go_ret;exact⟨rfl,cE.out⟩
theorem E6(m:Int×Int)(n b:Nat)(hm:ah.xS n m=true)(hn:n<=100)(w:World)(hb:w.cell? ⟨b,0,none⟩=some (.int .i64 (n:Int))):
  Calls Tryz.prog 111 #[.agg #[.int .i64 m.1,.int .i64 m.2],.pointer (some ⟨b,0,none⟩)] w fun e w'=>e=.returned (.bool true)/\BL w w':=by
 unfold ah.xS at hm;obtain⟨h1,h2⟩:=Bool.and_eq_true_iff.1 hm;have H1:=hid (fun W=>fL m.1 0 ((n:Int)-1) W);have H2:=hid (fun W=>fL m.2 0 ((n:Int)-1) W);rw[h1] at H1;rw[h2] at H2;have hz:b<w.heap.size:=Ae w _ hb;clear hm h1 h2;obtain⟨m1,m2⟩:=m;simp only at H1 H2 ⊢;go_enter Tryz.func111,Tryz.ntmps111;go_wp2_with fail;refine(H1.out _).mono ?_;rintro e w' ⟨rfl,rfl⟩;go_wp2_with fail;refine(H2.out _).mono ?_;rintro e w' ⟨rfl,rfl⟩;go_wp2;go_ret;exact⟨rfl,aF.alloc aH _⟩
theorem vG{x:ah.DV}(h:ah.r9 x=true):ah.aY x.name=true/\ah.qA x.dw.length 1 12=true/\x.dw.all ah.aY=true/\x.iw.length<=32/\∀m∈x.iw,ah.xS x.dw.length m=true:=by
 unfold ah.r9 at h;simp only[pF,qZ] at h;exact⟨h.1.1.1.1,h.1.1.1.2,h.1.1.2,h.1.2,List.all_eq_true.1 h.2⟩
theorem BU{w:World}{F:Nat}{x0 x1 x2:Value}{t:TypeId}(h:w.heap[F]?=some (.cells #[x0,x1,x2] t (0,0))):
  w.cell? ⟨F,0,none⟩=some x0/\w.cell? ⟨F,1,none⟩=some x1/\w.cell? ⟨F,2,none⟩=some x2:=⟨(aN h 0).trans rfl,(aN h 1).trans rfl,(aN h 2).trans rfl⟩
theorem Ii(x:ah.DV)(hx:ah.r9 x=true)(u1 u2:Value)(S:Nat->Prop)(w:World)(hs:fP S w u1 x.dw)(hm:Bu S w u2 x.iw):
  Calls Tryz.prog 71 #[.agg #[.string x.name,u1,u2]] w fun e w'=>e=.returned (.bool true)/\BL w w':=by
 obtain⟨p1,p2,p3,p4,p5⟩:=vG hx;obtain⟨a1,c1,rfl, -, -, -⟩:=hs.form;obtain⟨a2,c2,rfl, -, -, -⟩:=hm.form;have hn:=(gJ p2).2;obtain⟨w1,hw1⟩:=bB ((w.alloc (.cells #[.string x.name,.slice a1 x.dw.length c1,.slice a2 x.iw.length c2] 58)).alloc (.cells #[.int .i64 (x.dw.length:Int)] 3));have bT:Hid (Below w.heap.size w w1):=hid En;have HK:Hid (∀W,BL w1 W->W.heap[w.heap.size]?=some (.cells #[.string x.name,.slice a1 x.dw.length c1,.slice a2 x.iw.length c2] 58 (0,0))):=hid (fun W hW=>(hW.block _ (by rw[hw1];simp;omega)).trans Y7);have HC:Hid (∀W,BL w1 W->W.cell? ⟨w.heap.size+1,0,none⟩=some (.int .i64 (x.dw.length:Int))):=hid (fun W hW=>(hW.cell (p:=⟨w.heap.size+1,0,none⟩) jH).trans jH);have HN:=hid (fun W=>cO x.name W);have HI:=hid (fun W=>fL (x.dw.length:Int) 1 12 W);have HA:=hid (fun(W:World) (hb:BL w W)=>BS x.dw _ S W (hs.keep (aD.below hb)))
 have HM:=hid (fun(W:World) (hb:BL w W) (hb1:BL w1 W)=>aaf eZ x.iw (fun _=>true) _ S W (dQ.keep eZ hm (aD.below hb)) 111 #[.pointer (some ⟨w.heap.size+1,0,none⟩)] (bH Tryz.func111 (by kernel_rfl) rfl)
  (fun X hX j hj us _ hu=>by
   have hu:us=[.int .i64 x.iw[j].1,.int .i64 x.iw[j].2]:=hu;subst hu;exact E6 x.iw[j] x.dw.length (w.heap.size+1) (p5 _ (gm hj)) aB X (HC.out X (cG hb1 hX))))
 have hall:x.iw.all (fun _=>true)=true:=bp
 rw[hall] at HM;rw[p1] at HN;rw[p2] at HI;rw[p3] at HA;clear hs hm hx p1 p2 p3 p5 hall;obtain⟨nm,ss,ms⟩:=x;simp only at hw1 HK HC HN HI HA HM p4 hn ⊢;generalize ss.length=n at*;generalize ms.length=m at*;have hm32:(m:Int)<=32:=aB
 have HW:=hid hw1;clear hw1;have cn:=HC.out w1 aF;obtain⟨y0,y1,y2⟩:=BU (HK.out w1 aF);go_enter Tryz.func71,Tryz.ntmps71;go_upto_region 2 with fail;rw[<-HW.out];go_wp2_with fail;refine(HN.out _).mono ?_;rintro e w2 ⟨rfl,hb⟩;clear y0 y1 y2 cn;have cn:=HC.out w2 hb;obtain⟨y0,y1,y2⟩:=BU (HK.out w2 hb);have bX:=aU bT hb;have iE:=hid hb;clear hb;go_wp2_with fail;refine(HI.out _).mono ?_;rintro e w' ⟨rfl,rfl⟩;go_wp2_with fail;refine(HA.out _ bX.out).mono ?_;rintro e w3 ⟨rfl,hb⟩;clear y0 y1 y2 cn;have jB:=aU iE hb;have cn:=HC.out w3 jB.out;obtain⟨y0,y1,y2⟩:=BU (HK.out w3 jB.out);have cE:=aU bX hb;clear hb;go_wp2_with fail;refine(HM.out _ cE.out jB.out).mono ?_;rintro e w4 ⟨rfl,hb⟩;have gK:=aU cE hb;clear hb;go_wp2;go_ret;exact⟨rfl,gK.out⟩
theorem vH{r:ah.tQ}(h:ah.si r=true):ah.aY r.name=true/\ah.aY r.kind=true/\(r.a=ah.nil\/ah.aY r.a=true)/\(r.b=ah.nil\/ah.aY r.b=true)/\¬(r.a=ah.nil/\r.b=ah.nil)/\ah.qA r.n (-1048576) 1048576=true:=by
 unfold ah.si at h;simp only[pF,Bool.or_eq_true,qZ,Bool.not_eq_true',Bool.and_eq_false_iff,decide_eq_false_iff_not] at h;refine⟨h.1.1.1.1.1,h.1.1.1.1.2,h.1.1.1.2,h.1.1.2,fun⟨g1,g2⟩=>?_,h.2⟩;rcases h.1.2 with g|g
 ·exact g g1
 ·exact g g2
theorem pZ{o:ByteArray}(h:¬o=ah.nil):o.toList.isEmpty=false:=by
 cases hh:o.toList.isEmpty
 ·rfl
 ·exact absurd (str_inj (a:=o) (b:=ah.nil) (by rw[List.isEmpty_iff.1 hh,ByteArray.toList_eq];rfl)) h
end Go.Proofs.YtibacilhkciihaaGreatDoor
namespace Go.Proofs
open Go.Shelf Go.RowKit Go.Sort Go.Lib
def Tryz.vI:Go.Shelf.Ren:=⟨fun|169=>117|n=>n,fun|70=>188|9=>9|0=>0|72=>191|37=>189|127=>220|3=>3|5=>5|n=>n,fun|n=>n⟩
theorem Tryz.UM:Go.Proofs.Lays.n169 Tryz.prog Tryz.vI:={
 mixed:=by kernel_rfl
 f169:=Tryz.func117.trans (congrArg some (by kernel_rfl))
 t0:=Tryz.underlying0
 a0:=Tryz.isAgg0
 z0:=Tryz.sizeOf0
 v0:=Tryz.zeroValue0
 t3:=Tryz.underlying3
 a3:=Tryz.isAgg3
 z3:=Tryz.sizeOf3
 v3:=Tryz.zeroValue3
 t9:=Tryz.underlying9
 a9:=Tryz.isAgg9
 z9:=Tryz.sizeOf9
 v9:=Tryz.zeroValue9
 t37:=Tryz.underlying189
 a37:=Tryz.isAgg189
 z37:=Tryz.sizeOf189
 v37:=Tryz.zeroValue189
 t70:=Tryz.underlying188
 a70:=Tryz.isAgg188
 z70:=Tryz.sizeOf188
 v70:=Tryz.zeroValue188
 t72:=Tryz.underlying191
 a72:=Tryz.isAgg191
 z72:=Tryz.sizeOf191
 v72:=Tryz.zeroValue191
 t127:=Tryz.underlying220
 a127:=Tryz.isAgg220
 z127:=Tryz.sizeOf220
 v127:=Tryz.zeroValue220}
theorem Tryz.sN:Builder.Extra Tryz.prog Tryz.vI:={
 sizeBuilder:=by kernel_rfl
 liesBuilder:=by kernel_rfl
 t5:=Tryz.underlying5
 a5:=Tryz.isAgg5
 z5:=Tryz.sizeOf5
 v5:=Tryz.zeroValue5
 infoByte:=by kernel_rfl
 cellsByte:=by kernel_rfl
 sizeByte:=by kernel_rfl
 neB5:=by decide}
open Go.RowKit in
theorem Tryz.Builder_String_any(B b:Nat)(l:List UInt8)(w:World)(h:Lib.IsBuilder 191 5 B b (Lib.byteCells l) w)(hBw:B<=w.heap.size):
  Calls Tryz.prog 117 #[.pointer (some ⟨b,0,none⟩)] w fun e w'=>e=.returned (.string ⟨l.toArray⟩)/\Below B w w':=Any.Builder_String_any Tryz.UM Tryz.sN B b l w h hBw
def Tryz.Di:Go.Shelf.Ren:=⟨fun|171=>148|243=>176|246=>185|283=>188|284=>189|285=>190|286=>191|129=>160|317=>192|318=>193|319=>194|320=>195|337=>196|338=>197|n=>n,fun|3=>3|9=>9|2=>2|4=>4|171=>256|0=>0|53=>179|37=>189|5=>5|173=>258|212=>261|51=>176|20=>20|213=>262|46=>137|232=>263|233=>264|n=>n,fun|17=>2|18=>3|19=>4|n=>n⟩
theorem Tryz.Qy:Go.Proofs.LaysM.n171 Tryz.prog Tryz.Di:={
 mixed:=by kernel_rfl
 f129:=Tryz.func160.trans (congrArg some (by kernel_rfl))
 f171:=Tryz.func148.trans (congrArg some (by kernel_rfl))
 f243:=Tryz.func176.trans (congrArg some (by kernel_rfl))
 f246:=Tryz.func185.trans (congrArg some (by kernel_rfl))
 f283:=Tryz.func188.trans (congrArg some (by kernel_rfl))
 f284:=Tryz.func189.trans (congrArg some (by kernel_rfl))
 f285:=Tryz.func190.trans (congrArg some (by kernel_rfl))
 f286:=Tryz.func191.trans (congrArg some (by kernel_rfl))
 f317:=Tryz.func192.trans (congrArg some (by kernel_rfl))
 f318:=Tryz.func193.trans (congrArg some (by kernel_rfl))
 f319:=Tryz.func194.trans (congrArg some (by kernel_rfl))
 f320:=Tryz.func195.trans (congrArg some (by kernel_rfl))
 f337:=Tryz.func196.trans (congrArg some (by kernel_rfl))
 f338:=Tryz.func197.trans (congrArg some (by kernel_rfl))
 t0:=Tryz.underlying0
 a0:=Tryz.isAgg0
 z0:=Tryz.sizeOf0
 v0:=Tryz.zeroValue0
 t2:=Tryz.underlying2
 a2:=Tryz.isAgg2
 z2:=Tryz.sizeOf2
 v2:=Tryz.zeroValue2
 t3:=Tryz.underlying3
 a3:=Tryz.isAgg3
 z3:=Tryz.sizeOf3
 v3:=Tryz.zeroValue3
 t4:=Tryz.underlying4
 a4:=Tryz.isAgg4
 z4:=Tryz.sizeOf4
 v4:=Tryz.zeroValue4
 t5:=Tryz.underlying5
 a5:=Tryz.isAgg5
 z5:=Tryz.sizeOf5
 v5:=Tryz.zeroValue5
 t9:=Tryz.underlying9
 a9:=Tryz.isAgg9
 z9:=Tryz.sizeOf9
 v9:=Tryz.zeroValue9
 t20:=Tryz.underlying20
 a20:=Tryz.isAgg20
 z20:=Tryz.sizeOf20
 v20:=Tryz.zeroValue20
 t37:=Tryz.underlying189
 a37:=Tryz.isAgg189
 z37:=Tryz.sizeOf189
 v37:=Tryz.zeroValue189
 t46:=Tryz.underlying137
 a46:=Tryz.isAgg137
 z46:=Tryz.sizeOf137
 v46:=Tryz.zeroValue137
 t51:=Tryz.underlying176
 a51:=Tryz.isAgg176
 z51:=Tryz.sizeOf176
 v51:=Tryz.zeroValue176
 t53:=Tryz.underlying179
 a53:=Tryz.isAgg179
 z53:=Tryz.sizeOf179
 v53:=Tryz.zeroValue179
 t171:=Tryz.underlying256
 a171:=Tryz.isAgg256
 z171:=Tryz.sizeOf256
 v171:=Tryz.zeroValue256
 t173:=Tryz.underlying258
 a173:=Tryz.isAgg258
 z173:=Tryz.sizeOf258
 v173:=Tryz.zeroValue258
 t212:=Tryz.underlying261
 a212:=Tryz.isAgg261
 z212:=Tryz.sizeOf261
 v212:=Tryz.zeroValue261
 t213:=Tryz.underlying262
 a213:=Tryz.isAgg262
 z213:=Tryz.sizeOf262
 t232:=Tryz.underlying263
 a232:=Tryz.isAgg263
 z232:=Tryz.sizeOf263
 v232:=Tryz.zeroValue263
 t233:=Tryz.underlying264
 a233:=Tryz.isAgg264
 z233:=Tryz.sizeOf264
 v233:=Tryz.zeroValue264
 g17:=by kernel_rfl
 g18:=by kernel_rfl
 g19:=by kernel_rfl
 i0:=by kernel_rfl
 i2:=by kernel_rfl
 i3:=by kernel_rfl
 i4:=by kernel_rfl
 i5:=by kernel_rfl
 i9:=by kernel_rfl
 i20:=by kernel_rfl
 i37:=by kernel_rfl
 i46:=by kernel_rfl
 i51:=by kernel_rfl
 i53:=by kernel_rfl
 i171:=by kernel_rfl
 i173:=by kernel_rfl
 i212:=by kernel_rfl
 i232:=by kernel_rfl
 i233:=by kernel_rfl
 m17:=by kernel_rfl
 m18:=by kernel_rfl
 m19:=by kernel_rfl}
theorem Tryz.strconv_Itoa(n:Int)(h0: -9223372036854775808<=n)(h1:n<=9223372036854775807)(w:World)(htab:Lib.TabIs Tryz.prog w "internal/strconv.uint64pow10" .u64 Lib.pow10Tab):
  Calls Tryz.prog 148 #[.int .i64 n] w fun e w'=>e=.returned (.string ⟨(Lib.itoa n).toArray⟩)/\∃k os,w'=grow (w.drewN k) os:=Any.strconv_Itoa Tryz.Qy n h0 h1 w htab
end Go.Proofs
namespace Go.Proofs.YtibacilhkciihaaGreatDoor
open Go.RowKit
theorem E7:∃j,Tryz.prog.info? 191=some j/\j.size=2:=by
 have h:(Tryz.prog.info? 191).map (·.size)=some 2:=by kernel_rfl
 exact Option.map_eq_some_iff.1 h
theorem yL(b:Nat)(w:World)(h0:w.cell? ⟨b,0,none⟩=some (.pointer (some ⟨b,0,none⟩))):
  Calls Tryz.prog 146 #[.pointer (some ⟨b,0,none⟩)] w fun e w'=>e=.returned (.tuple #[])/\w=w':=by
 obtain⟨j,hj,_⟩:=E7;go_enter Tryz.func146,Tryz.ntmps146;go_wp2;rw[Lib.run_neq_ptr_same w _ Tryz.underlying188 hj];go_wp2;go_end0;exact⟨rfl,rfl⟩
theorem wU(b:Nat)(w:World)(h0:w.cell? ⟨b,0,none⟩=some (.pointer none))(hsh:w.shape? b=some (191,2))(hfz:w.frozen? ⟨b,0,none⟩=false):
  Calls Tryz.prog 146 #[.pointer (some ⟨b,0,none⟩)] w fun e w'=>e=.returned (.tuple #[])/\w.setCell ⟨b,0,none⟩ (.pointer (some ⟨b,0,none⟩))=w':=by
 obtain⟨j,hj,hjs⟩:=E7;go_enter Tryz.func146,Tryz.ntmps146;go_wp2;rw[Lib.run_to_unsafe w ⟨b,0,none⟩ Tryz.underlying188 Tryz.underlying241 hj (by rw[hjs];decide) hsh (Nat.zero_lt_succ 1)];simp only[Result.andThen];rw[Oper.upon_value];go_wp2;rw[run_callFunc_extern Tryz.func175 (by kernel_rfl) (by kernel_rfl) (by kernel_rfl) (e:=Extern.AbiNoEscape.same) (by kernel_rfl)];rw[Lib.run_noEscape];simp only[Result.andThen];rw[Oper.upon_value];go_wp2;rw[Lib.run_from_unsafe w ⟨b,0,none⟩ Tryz.underlying241 Tryz.underlying188 hj hsh (by kernel_rfl)];simp only[Result.andThen];rw[Oper.upon_value];go_wp2;go_end0;exact⟨rfl,rfl⟩
def Qz(o:Obj):Prop:=∀cs fr,o≠ .cells cs 5 fr
def KB(b:Nat)(w w':World):Prop:=∀x o,w.heap[x]?=some o->x≠b->Qz o->w'.heap[x]?=some o
theorem KB.refl(b:Nat)(w:World):KB b w w:=fun _ _ h _ _=>h
theorem KB.trans{b:Nat}{w w1 w2:World}(h:KB b w w1)(k:KB b w1 w2):KB b w w2:=fun x o h1 h2 h3=>k x o (h x o h1 h2 h3) h2 h3
theorem KB.setCell(b i:Nat)(v:Value)(w:World):KB b w (w.setCell ⟨b,i,none⟩ v):=fun x o h1 h2 _=>by rw[heap_setCell_other _ _ _ _ h2];exact h1
theorem KB.grown{b base n:Nat}{w w':World}{v:Value}{xs:List Value}(ho:w.ownsRow base 5 1 v n xs)(h:w.grownBy w' v.ownBlock):KB b w w':=fun x o h1 _ h3=>by
 refine(h.block x (aC h1) (fun e=>?_)).trans h1;rcases ho.2 with⟨rfl,_⟩|⟨g,cap,cur,rfl,_,hg,_⟩
 ·simp[Value.ownBlock] at e
 ·simp only[Value.ownBlock,Option.some.injEq] at e
  subst e;rw[hg] at h1;exact h3 _ _ (mM h1).symm
theorem qN(B b:Nat)(bs:List Value)(w:World)(h:Lib.IsBuilder 191 5 B b bs w):
  Calls Tryz.prog 146 #[.pointer (some ⟨b,0,none⟩)] w fun e w'=>e=.returned (.tuple #[])/\Lib.BuilderAt 191 5 B b (.pointer (some ⟨b,0,none⟩)) bs w'/\Below B w w'/\KB b w w':=by
 rcases h with h|h
 ·refine(wU b w h.cell0 h.shape h.frozen0).mono ?_
  rintro e w' ⟨rfl,rfl⟩;exact⟨rfl,h.used _,(Below.refl B w).setCell (p:=⟨b,0,none⟩) h.1 _,KB.setCell b 0 _ _⟩
 ·refine(yL b w h.cell0).mono ?_
  rintro e w' ⟨rfl,rfl⟩;exact⟨rfl,h,Below.refl B _,KB.refl _ _⟩
def gF(B b n:Nat)(w:World):Prop:=∃l:List UInt8,l.length=n/\Lib.IsBuilder 191 5 B b (Lib.byteCells l) w
theorem BV:(Tryz.prog.info? 5).map (fun i=>(i.zero,i.size,i.bytes))=some (some (.int .u8 0),1,1):=by kernel_rfl
theorem dH(B b n:Nat)(s:ByteArray)(w:World)(h:gF B b n w)(hlen:n+s.size<=140737488355328)(hBw:B<=w.heap.size):
  Calls Tryz.prog 113 #[.pointer (some ⟨b,0,none⟩),.string s] w fun e w'=>e=.returned (.tuple #[.int .i64 s.size,.nilIface])/\gF B b (n+s.size) w'/\Below B w w'/\KB b w w':=by
 obtain⟨l,hl,h⟩:=h;have hbl:=Lib.byteCells_length l;have HL:=hid hl;have ac2:(Lib.byteCells l).length+s.size<=140737488355328:=aB
 clear hbl hl hlen;obtain⟨i0,hi,hz0,hz1,hz2⟩:=info_parts BV;have HC:=hid (qN B b _ w h);go_enter Tryz.func113,Tryz.ntmps113;go_wp2_with fail;refine HC.out.mono ?_;rintro e w1 ⟨rfl,h1,hb1,hk1⟩;obtain⟨hB,v,hbk,hown,hne⟩:=h1;have c0:w1.cell? ⟨b,0,none⟩=some (.pointer (some ⟨b,0,none⟩)):=TD
 have c1:w1.cell? ⟨b,1,none⟩=some v:=TD
 go_wp2_with (at_builtin;refine Lib.wpList_append_own_string _ rfl _ _ 189 9 rfl B 5 i0 Tryz.underlying189 Tryz.underlying9 hi hz0 hz1 hz2 _ _ _ rfl hown s rfl ?c3 ?c4 ?c5 ?_);case c3=>unfold maxLen;omega
 case c4=>omega
 case c5=>have:=hb1.size;omega
 intro v' w2 hown' hgrow _;have hlt:b<w1.heap.size:=aC hbk
 have hb2:w2.heap[b]?=some (.cells #[.pointer (some ⟨b,0,none⟩),v] 191 (0,0)):=by
  rw[hgrow.block b hlt (fun e=>hne e.symm)];exact hbk
 have d0:w2.cell? ⟨b,0,none⟩=some (.pointer (some ⟨b,0,none⟩)):=TF
 have d1:w2.cell? ⟨b,1,none⟩=some v:=TF
 have f1:w2.frozen? ⟨b,1,none⟩=false:=Lib.frozen_of_heap hb2 1
 obtain⟨ao,n',cap,rfl⟩:∃ao n' cap,v'=.slice ao n' cap:=by
  rcases hown'.2 with⟨hv,_⟩|⟨g,cap,cur,hv,_⟩
  ·exact⟨_,_,_,hv⟩
  ·exact⟨_,_,_,hv⟩
 go_wp2;go_ret2;refine⟨rfl,⟨l++s.data.toList,by rw[xP,HL.out];rfl,.inr ?_⟩,?_,?_⟩
 ·rw[Lib.byteCells_append,<-Lib.strCells_eq]
  exact Lib.BuilderAt.put (T:=191) (e:=5) hB hb2 (bs':=Lib.byteCells l++Lib.strCells s) (by simpa [Lib.strCells_length] using hown') fH
 ·exact(hb1.grown hgrow (by have:=hb1.size;omega) (fun k hk=>(hown.lt k hk).1)).setCell (p:=⟨b,1,none⟩) hB _
 ·exact(hk1.trans (KB.grown hown hgrow)).trans (KB.setCell b 1 _ _)
theorem A6(B b n:Nat)(c:UInt8)(w:World)(h:gF B b n w)(hlen:n+1<=140737488355328)(hBw:B<=w.heap.size):
  Calls Tryz.prog 147 #[.pointer (some ⟨b,0,none⟩),.int .u8 (c.toNat:Int)] w fun e w'=>e=.returned .nilIface/\gF B b (n+1) w'/\Below B w w':=by
 obtain⟨l,hl,h⟩:=h;have hbl:=Lib.byteCells_length l;have HL:=hid hl;have ac2:(Lib.byteCells l).length+1<=140737488355328:=aB
 clear hbl hl hlen;obtain⟨i0,hi,hz0,hz1,hz2⟩:=info_parts BV;have HC:=hid (qN B b _ w h);have HCC:Hid (Lib.byteCells (l++[c])=Lib.byteCells l++[.int .u8 (c.toNat:Int)]):=hid (by rw[Lib.byteCells_append];rfl);generalize (c.toNat:Int)=ci at*;go_enter Tryz.func147,Tryz.ntmps147;go_wp2_with fail;refine HC.out.mono ?_;rintro e w1 ⟨rfl,h1,hb1, -⟩;obtain⟨hB,v,hbk,hown,hne⟩:=h1;have c0:w1.cell? ⟨b,0,none⟩=some (.pointer (some ⟨b,0,none⟩)):=TD
 have c1:w1.cell? ⟨b,1,none⟩=some v:=TD
 go_wp2_with (at_builtin;refine wpList_append_own _ rfl _ _ 189 rfl B 5 i0 (.int .u8 0) 1 1 Tryz.underlying189 hi hz0 hz1 hz2 rfl fH _ _ _ rfl (hown.alloc _) ⟨w1.heap.size,0,none⟩ 1 1 [.int .u8 ci] rfl rfl ?c1 ?c2 ?c3 ?c4 ?c5 ?_)
 case c1=>
  intro j u hj;match j,hj with
  |0,hj=>simp at hj;subst hj;simp[Addr.add]
 case c2=>intro u hu;simp at hu;subst hu;rfl
 case c3=>unfold maxLen;omega
 case c4=>omega
 case c5=>have:=hb1.size;simp;omega
 intro v' w2 hown' hgrow _;have hlt:b<w1.heap.size:=aC hbk
 have hb2:w2.heap[b]?=some (.cells #[.pointer (some ⟨b,0,none⟩),v] 191 (0,0)):=by
  rw[hgrow.block b lC (fun e=>hne e.symm),Lib.alloc_old w1 _ b hlt];exact hbk
 have d0:w2.cell? ⟨b,0,none⟩=some (.pointer (some ⟨b,0,none⟩)):=TF
 have d1:w2.cell? ⟨b,1,none⟩=some v:=TF
 have f1:w2.frozen? ⟨b,1,none⟩=false:=Lib.frozen_of_heap hb2 1
 obtain⟨g,cap,rfl⟩:∃g cap,v'=.slice (some ⟨g,0,none⟩) ((Lib.byteCells l).length+1) cap:=by
  rcases hown'.2 with⟨_,h0⟩|⟨g,cap,cur,hv,_⟩
  ·omega
  ·exact⟨g,cap,hv⟩
 go_wp2;go_ret;refine⟨rfl,⟨l++[c],by rw[xP,HL.out];rfl,.inr ?_⟩,?_⟩
 ·rw[HCC.out]
  exact Lib.BuilderAt.put (T:=191) (e:=5) hB hb2 (bs':=Lib.byteCells l++[.int .u8 ci]) (by simpa using hown') fH
 ·exact((hb1.alloc (by have:=hb1.size;omega) _).grown hgrow (by have:=hb1.size;simp;omega) (fun k hk=>(hown.lt k hk).1)).setCell (p:=⟨b,1,none⟩) hB _
theorem yM(B b n:Nat)(w:World)(h:gF B b n w)(hBw:B<=w.heap.size):
  Calls Tryz.prog 117 #[.pointer (some ⟨b,0,none⟩)] w fun e w'=>∃s:ByteArray,e=.returned (.string s)/\s.size=n/\Below B w w':=by
 obtain⟨l,hl,h⟩:=h;exact(Tryz.Builder_String_any B b l w h hBw).mono fun e w' ⟨h1,h2⟩=>⟨⟨l.toArray⟩,h1,by show l.toArray.size=n;simpa using hl,h2⟩
def Ij:List ByteArray:=[⟨#[107,101,121]⟩,⟨#[114,101,102]⟩,⟨#[110,117,109]⟩,⟨#[112,105,99,107]⟩,⟨#[100,97,121]⟩,⟨#[115,116,101,112]⟩,⟨#[115,117,109]⟩,⟨#[115,104,97,114,101]⟩,⟨#[99,111,112,121]⟩]
structure LaidW(w:World):Prop where
 pow:Lib.TabIs Tryz.prog w "internal/strconv.uint64pow10" .u64 Lib.pow10Tab
 cB:∀k (_:k<9),w.cell? ⟨1,k,none⟩=some (.string (Ij.getD k ah.nil))
 size:5<=w.heap.size
theorem XA:Tryz.prog.globalNamed "internal/strconv.uint64pow10" =some 2:=by kernel_rfl
theorem LaidW.below{B:Nat}{w w':World}(h:LaidW w)(hb:Below B w w')(hB:5<=B):LaidW w' where
 pow:=var?_below hb XA aB h.pow
 cB k hk:=(hb.cell (p:=⟨1,k,none⟩) (show 1<B by omega)).trans (h.cB k hk)
 size:=Nat.le_trans h.size hb.size
theorem LaidW.next{w w':World}(h:LaidW w)(hb:BL w w'):LaidW w':=h.below hb h.size
theorem Dj:∀(f n:Nat),n<10 ^ f->ah.xT f n=Lib.nDigits n
 |0,n,h=>by
  have:n=0:=lD
  subst this;rw[Lib.nDigits_small aB];rfl
 |f+1,n,h=>by
  unfold ah.xT;split
  ·rename_i h1;rw[Lib.nDigits_small h1]
  ·rename_i h1
   rw[Lib.nDigits_big h1,Dj f (n / 10) (by rw[Nat.pow_succ] at h;omega)];omega
theorem E8(w:World)(k:Nat)(os:Array Obj):BL w (Go.Sort.grow (w.drewN k) os):=
 ⟨rfl,rfl,rfl,by simp[Go.Sort.grow],fun b hb=>Go.Sort.heap_grow_old (w.drewN k) os hb⟩
theorem QA(n:Int)(h0: -1000000000000<=n)(h1:n<=1000000000000)(w:World)(hl:LaidW w):
  Calls Tryz.prog 148 #[.int .i64 n] w fun e w'=>∃s:ByteArray,e=.returned (.string s)/\s.size=ah.dx n/\BL w w':=by
 refine(Tryz.strconv_Itoa n aB aB w hl.pow).mono ?_;rintro e w' ⟨rfl,k,os,rfl⟩;refine⟨_,rfl,?_,E8 w k os⟩;show (Lib.itoa n).toArray.size=_
 rw[List.size_toArray];unfold Lib.itoa ah.dx;split
 ·rw[List.length_cons,Lib.decDigits_length,Dj 40 _ aB];omega
 ·rw[Lib.decDigits_length,Dj 40 _ aB]
  have:n.natAbs=n.toNat:=aB
  rw[this];omega
inductive Arg
 |num (n:Int)
 |str (s:ByteArray)
def l5(a:Arg):Value:=match a with
 | .num n=>.iface 3 (.int .i64 n)
 | .str s=>.iface 9 (.string s)
def argN:Arg->Nat
 | .num n=>1+ah.dx n
 | .str s=>1+s.size
def gV:Arg->Prop
 | .num n=> -1000000000000<=n/\n<=1000000000000
 | .str _=>True
abbrev vJ(S:Nat->Prop):=eU (fun _ u (x:Arg)=>u=l5 x) S
theorem vJ.keep{S w w' v xs}(h:vJ S w v xs)(hk:aD S w w'):vJ S w' v xs:=eU.keep h hk fun _ _ h=>h
theorem Mc{α:Type}(g:α->Nat)(l:List α)(x:α):ah.bK g (l++[x])=ah.bK g l+g x:=by
 unfold ah.bK;rw[List.foldl_append];rfl
theorem lu{α:Type}(g:α->Nat)(l:List α){k:Nat}(h:k<l.length):ah.bK g (l.take (k+1))=ah.bK g (l.take k)+g l[k]:=by
 rw[CY h,Mc]
theorem qo{α:Type}(g:α->Nat):∀(l:List α) (a:Nat),l.foldl (fun n x=>n+g x) a=a+l.foldl (fun n x=>n+g x) 0
 |[],_=>rfl
 |x::l,a=>by
  simp only[List.foldl_cons];rw[qo g l (a+g x),qo g l (0+g x)];omega
theorem eB{α:Type}(g:α->Nat)(x:α)(l:List α):ah.bK g (x::l)=g x+ah.bK g l:=by
 unfold ah.bK;rw[List.foldl_cons,qo];omega
theorem iJ{α:Type}(g:α->Nat)(l:List α)(k:Nat):ah.bK g (l.take k)<=ah.bK g l:=by
 have h:ah.bK g l=ah.bK g (l.take k)+ah.bK g (l.drop k):=by
  unfold ah.bK;conv=>lhs;rw[<-List.take_append_drop k l]
  rw[List.foldl_append,qo]
 omega
theorem oR{T e:TypeId}{B b:Nat}{p:Value}{bs:List Value}{w w':World}(h:Lib.BuilderAt T e B b p bs w)(hb:BL w w'):Lib.BuilderAt T e B b p bs w':=by
 obtain⟨h1,v,h2,h3,h4⟩:=h;exact⟨h1,v,(hb.block _ (aC h2)).trans h2,cQ (S:=fun _=>True) h3 (fun _ _=>trivial) (aD.below hb),h4⟩
theorem gF.below{B b n:Nat}{w w':World}(h:gF B b n w)(hb:BL w w'):gF B b n w':=by
 obtain⟨l,h1,h2⟩:=h;exact⟨l,h1,h2.imp (fun h=>oR h hb) (fun h=>oR h hb)⟩
theorem Ik(n:Int)(w:World):(Instr.typeAssert (.iface 3 (.int .i64 n)) 20 3 true).run Tryz.prog w=.ok (.tuple #[.int .i64 n,.bool true]) w:=by kernel_rfl
theorem Il(s:ByteArray)(w:World):(Instr.typeAssert (.iface 9 (.string s)) 20 3 true).run Tryz.prog w=.ok (.tuple #[.int .i64 0,.bool false]) w:=by kernel_rfl
theorem Im(s:ByteArray)(w:World):(Instr.typeAssert (.iface 9 (.string s)) 20 9 true).run Tryz.prog w=.ok (.tuple #[.string s,.bool true]) w:=by kernel_rfl
theorem yN(word:ByteArray)(l:List Arg)(hok:∀a∈l,gV a)(hlen:word.size+ah.bK argN l<=1000000000)(v:Value)(S:Nat->Prop)(w:World)(hv:vJ S w v l)(hw:LaidW w):
  Calls Tryz.prog 114 #[.string word,v] w fun e w'=>∃s:ByteArray,e=.returned (.string s)/\s.size=word.size+ah.bK argN l+1/\BL w w':=by
 obtain⟨a,cap,rfl,hsl,hcap,hmax⟩:=hv.form;have HV:=hid hv;have HO:=hid hok;have HN:=hid hlen;have HL:=hid hw;clear hv hok hlen hw;obtain⟨w1,hw1⟩:=bB (w.alloc (.cells #[.pointer none,.slice none 0 0] 191));have bT:Hid (Below w.heap.size w w1):=hid Ab;have HD1:Hid (gF w.heap.size w.heap.size 0 w1):=hid (by rw[hw1];exact⟨[],rfl,Lib.fresh_isBuilder _ _ w⟩);have HW:=hid hw1;clear hw1;go_enter Tryz.func114,Tryz.ntmps114;go_upto_region 2 with fail;rw[<-HW.out];go_wp2_with fail;refine(dH w.heap.size w.heap.size 0 word w1 HD1.out Ee bT.out.size).mono ?_;rintro e w2 ⟨rfl,hd2,hb2, -⟩;have XB:Hid (gF w.heap.size w.heap.size (word.size+ah.bK argN (l.take 0)) w2):=hid (by simpa [ah.bK] using hd2);have bX:Hid (BL w w2):=hid (bT.out.trans hb2);clear hd2 hb2;go_upto_region 4 with fail;go_loopw [14] (fun i wr=>∃k:Nat,k<=l.length/\i=.int .i64 (k:Int)/\Hid (gF w.heap.size w.heap.size (word.size+ah.bK argN (l.take k)) wr)/\Hid (BL w wr)) (fun i _=>l.length-(intOf i).toNat);case atStart=>exact⟨0,aB,rfl,XB,bX⟩
 case round=>
  obtain⟨k,hk,rfl,HD,HB⟩:=hrel;obtain⟨wo,rfl⟩:=bB (wr:World);by_cases hlt:k<l.length
  ·have hk0:(0:Int)<=(k:Int):=by omega
   have hk1:(k:Int)<(l.length:Int):=aB
   obtain⟨x,hx, -,hx2⟩:=(vJ.keep HV.out (aD.below HB.out)).at hlt;subst hx2;have HO1:=hid (HO.out _ (gm hlt));have hsum:=lu argN l hlt;have hle:=iJ argN l (k+1);have HM:Hid (word.size+ah.bK argN (l.take k)+argN l[k]=word.size+ah.bK argN (l.take (k+1))/\word.size+ah.bK argN (l.take (k+1))<=1000000000):=hid Ee;clear hsum hle;generalize l[k]=z at*;obtain⟨n0,hn0⟩:=bB (word.size+ah.bK argN (l.take k));rw[<-hn0] at HD HM;clear hn0;have HWB:=hid (A6 w.heap.size w.heap.size n0 32 wo HD.out (by have:=HM.out;omega) HB.out.size);cases z with
   |num n=>
    have hb:=HO1.out
    simp only[gV] at hb
    simp only[argN] at HM
    simp only[l5] at hx
    have ta:=Ik n
    go_wp2_with fail
    refine HWB.out.mono ?_
    rintro e w3 ⟨rfl,hd3,hb3⟩
    have cE:Hid (BL w w3):=hid (HB.out.trans hb3)
    have UN:=hid hd3
    clear hd3 hb3
    have HI:=hid (QA n aB aB w3 (HL.out.next cE.out))
    go_wp2_with fail
    refine HI.out.mono ?_
    rintro e w4 ⟨s,rfl,hs,hb4⟩
    have gK:=aU cE hb4
    have HD4:Hid (gF w.heap.size w.heap.size (n0+1) w4):=hid (UN.out.below hb4)
    have HS:=hid hs
    clear hs hb4
    go_wp2_with fail
    refine(dH w.heap.size w.heap.size (n0+1) s w4 HD4.out (by have:=HM.out;have:=HS.out;omega) gK.out.size).mono ?_
    rintro e w5 ⟨rfl,hd5,jd, -⟩
    have iD:Hid (BL w w5):=hid (gK.out.trans jd)
    have UO:Hid (gF w.heap.size w.heap.size (word.size+ah.bK argN (l.take (k+1))) w5):=hid (by
     have h1:=HM.out
     have h2:=HS.out
     rw[<-h1.1,<-h2]
     have:n0+(1+s.size)=n0+1+s.size:=aB
     rw[this];exact hd5)
    clear hd5 jd
    go_wp2
    go_roundw
    case rel=>exact⟨k+1,aB,by go_num,UO,iD⟩
    simp[intOf];omega
   |str s=>
    simp only[argN] at HM
    simp only[l5] at hx
    have ta:=Il s
    have tb:=Im s
    go_wp2_with fail
    refine HWB.out.mono ?_
    rintro e w3 ⟨rfl,hd3,hb3⟩
    have cE:Hid (BL w w3):=hid (HB.out.trans hb3)
    have UN:=hid hd3
    clear hd3 hb3
    go_wp2_with fail
    refine(dH w.heap.size w.heap.size (n0+1) s w3 UN.out (by have:=HM.out;omega) cE.out.size).mono ?_
    rintro e w5 ⟨rfl,hd5,jd, -⟩
    have iD:Hid (BL w w5):=hid (cE.out.trans jd)
    have UO:Hid (gF w.heap.size w.heap.size (word.size+ah.bK argN (l.take (k+1))) w5):=hid (by
     have h1:=HM.out
     rw[<-h1.1]
     have:n0+(1+s.size)=n0+1+s.size:=aB
     rw[this];exact hd5)
    clear hd5 jd
    go_wp2
    go_roundw
    case rel=>exact⟨k+1,aB,by go_num,UO,iD⟩
    simp[intOf];omega
  ·have hkk:k=l.length:=by omega
   subst hkk;have UN:Hid (gF w.heap.size w.heap.size (word.size+ah.bK argN l) wo):=hid (by have:=HD.out;rwa [List.take_length] at this);have vM:=hid (yM w.heap.size w.heap.size _ wo UN.out HB.out.size);go_wp2_with fail;refine vM.out.mono ?_;rintro e w3 ⟨s,rfl,hs,hb3⟩;have HS:=hid hs;have cE:=hid (HB.out.trans hb3);have hs1:s.size<=1000000000:=Ee
   clear hs hb3;go_wp2;go_ret;refine⟨_,rfl,?_,cE.out⟩;rw[<-HS.out];exact ByteArray.size_append
end Go.Proofs.YtibacilhkciihaaGreatDoor
