/- Part 10 of the walks and plain laws that the proof needs (packed). -/
import Derived.Maps.OwnSet
import Derived.Maps.Views
import Derived.DeepKeys4
import Derived.WideKeyEntry
import Derived.OrdersIn
import Derived.Laws.Bits64b
import Derived.Laws.CopyOwn
import Derived.Test.YtohddpbgflgiaaaGreatDoorQ1
import Derived.Test.YtohddpbgflgiaaaGreatDoorQ3
import Derived.Test.YtohddpbgflgiaaaGreatDoorQ4
import Derived.Test.YtohddpbgflgiaaaGreatDoorQ7
import Derived.Test.YtohddpbgflgiaaaGreatDoorQ8
import Derived.Test.YtohddpbgflgiaaaGreatDoorQ9
set_option linter.all false
set_option maxRecDepth 100000
set_option maxHeartbeats 8000000
open Go.Proofs.Tryz
variable{p:Prop}
namespace Go.Proofs.YtohddpbgflgiaaaGreatDoor
open Go.RowKit
theorem adF(h:p:=by
  rcases Nat.eq_zero_or_pos xs.length with h|h
  ·exact zxh h
  ·obtain⟨b,o,e⟩:=hok h;cases e):p:=h
theorem OX(xs:List Bool)(u:xs.length<=1000000)(v:Value)(S:Nat->Prop)(w:World)(g:pq S w v xs):
  CP 155 #[v] w fun e k=>∃x,e=.returned x/\ku (w.heap.size<=·) k x xs/\BL w k:=by
 have i:=g;obtain⟨a,cap,rfl,hok,l,m⟩:=g.form;clear g;cases a with
 |none=>
  have r:xs=[]:=by
   exact adF
  subst r
  have n:∀W,(binOp .eql 121 (.slice none 0 cap) (.slice none 0 0)).run prog W=.ok (.bool true) W:=fun W=>Lib.run_eql_slice_nil W 121 4 none 0 cap 0 0 zK
  go_enter func155,ntmps155
  go_wp2
  go_ret
  exact⟨_,rfl,ku.nil _ _,aG⟩
 |some ad=>
  have n:∀W,(binOp .eql 121 (.slice (some ad) xs.length cap) (.slice none 0 0)).run prog W=.ok (.bool false) W:=fun W=>Lib.run_eql_slice_nil W 121 4 (some ad) xs.length cap 0 0 zK
  have p:ku (w.heap.size<=·) (w.alloc (.cells #[] 4)) (.slice (some ⟨w.heap.size,0,none⟩) 0 0) []:=
   ⟨World.ownsRow_made w #[] 0 (zxa _) (zxa _) bH,fun b c=>by simp[Value.ownBlock] at c;omega⟩
  have q:pq S (w.alloc (.cells #[] 4)) (.slice (some ad) xs.length cap) xs:=i.keep (aH.below (aG.alloc aL _))
  go_enter func155,ntmps155
  go_wp2_with (at_builtin;go_must (refine KW rfl _ _ rfl Tryz.appB rfl p aG rfl q jo ?_))
  intro s w1 d f
  have t:ku (w.heap.size<=·) w1 s xs:=by
   have:=gW.mono d (fun b _ c=>eE bH b c);simpa using this
  have j:BL w w1:=(aG.alloc aL _).trans (f.below bH (fun b c=>by simp[Value.ownBlock] at c;omega))
  clear p d q f n
  go_wp2
  go_ret
  exact⟨_,rfl,t,j⟩
theorem GP(w:World)(n:Nat)(c:n<=1000000):pu (w.heap.size<=·) (w.alloc (.cells (gM n) 121)) (.slice (some ⟨w.heap.size,0,none⟩) n n) (List.replicate n []):=by
 refine⟨fun b a=>by simp[Value.ownBlock] at a;omega,List.replicate n (.slice none 0 0),fun _=>0,?_,bH,fun j d e=>?_⟩
 ·exact Zi
 ·simp only[List.getElem_replicate]
  exact ku.nil _ _
theorem Dp(h:p:=by
  simp only[Value.slice.injEq,Option.some.injEq,Addr.mk.injEq] at e1
  exact e1.1.1):p:=h
theorem amk(h:p:=by
  go_wp2
  go_ret
  exact⟨g0,rfl,by rw[<-HE.out];exact HO.out,HB.out⟩):p:=h
theorem Bl(s:Sub.S)(Z:s.length<=1000)(M:∀r∈s,r.length<=100000)(v:Value)(T:Nat->Prop)(w:World)(q:nU T w v s):
  CP 107 #[v] w fun e N=>∃g,e=.returned (.slice (some ⟨g,0,none⟩) s.length s.length)/\pu (w.heap.size<=·) N (.slice (some ⟨g,0,none⟩) s.length s.length) s/\BL w N:=by
 obtain⟨sx,cs,rfl,y, -, -⟩:=q.form;have HV:=hid q;have HW:=hid M;clear q M;have l:=fun W=>oQ (P:=prog) (t:=70) (e:=121) (b:=24) zK zK aD s.length aD W;obtain⟨n,z⟩:=bJ s.length;rw[<-z] at y l Z ⊢;have HN:=hid z;clear z;go_enter func107,ntmps107;go_wp2;clear l;obtain⟨g0,f⟩:=bJ w.heap.size;have Rv:Hid (pu (w.heap.size<=·) (w.alloc (.cells (gM n) 121)) (.slice (some ⟨g0,0,none⟩) n n) (List.replicate n [])):=hid (by rw[f];exact GP w _ aD);rw[<-f];clear f;go_loopw [11] (fun A wr=>∃(k:Nat) (c:Sub.S),k<=n/\A=.int .i64 k/\Hid (c.length=n)/\Hid (∀j,j<k->c[j]?=s[j]?)/\Hid (pu (w.heap.size<=·) wr (.slice (some ⟨g0,0,none⟩) n n) c)/\Hid (BL w wr)) (fun A _=>n-(intOf A).toNat);case atStart=>exact⟨0,List.replicate n [],zxa _,rfl,hid bH,hid (fun j h=>absurd h aD),Rv,hid (aG.alloc aL _)⟩
 case round=>
  obtain⟨k,c,hk,rfl,m,HX,HO,HB⟩:=hrel;obtain⟨O,rfl⟩:=bJ (wr:World);by_cases hlt:k<n
  ·have aa:(0:Int)<=k:=by omega
   have ab:(k:Int)<n:=aD
   have i:k<s.length:=Nv
   have o:k<c.length:=by rw[m.out];exact hlt
   obtain⟨u,hu,hz,B⟩:=eA.at (by rw[HN.out];exact HV.out.keep (aH.below HB.out):nU T O (.slice sx n cs) s) i;obtain⟨ar,cr,rfl, -, -, -⟩:=B.form;have GR:=hid (OX s[k] (by have:=HW.out _ (eV i);omega) _ T O B);have C:=HO.out;rw[show (Value.slice (some ⟨g0,0,none⟩) n n)=.slice (some ⟨g0,0,none⟩) c.length n by rw[m.out]] at C;obtain⟨g,ad,uu,TT,e1,e2,e3,Q,D,E,Bm,R, -,d⟩:=jv.borrow gW C k o
   have F:g0=g:=by
    exact Dp
   subst F;have U:=hid (fun w2 u'=>d w2 u' s[k]);have G:=hid R;have H:=hid Q;have p:Hid (s[k]?=some s[k]):=hid (lN i);clear e1 e2 e3 Bm R d D E C B Q;generalize s[k]=r at*;go_wp2_with fail;refine GR.out.mono ?_;rintro e w2 ⟨x,rfl,hx,a⟩;obtain⟨I,J,rfl, -, -, -⟩:=(ku.sl hx).form;obtain⟨k1,k2,V,X⟩:=U.out w2 (.slice I r.length J) (Turns.bg a) (gW.mono hx (fun b _ a=>.inr a))
   have rV:Hid (pu (w.heap.size<=·) (w2.setCell ⟨g0,k,none⟩ (.slice I r.length J)) (.slice (some ⟨g0,0,none⟩) n n) (c.set k r)):=hid (by
    have:=gB.mono V (fun b _ a=>eE HB.out.size b a)
    rw[m.out] at this
    exact this)
   have pX:Hid (BL w (w2.setCell ⟨g0,k,none⟩ (.slice I r.length J))):=hid (HB.out.trans (X.below HB.out.size (fun b a=>by
    rcases a with a|a
    ·exact(G.out b a).1
    ·rw[a];exact H.out)))
   have K:Hid (∀j,j<k+1->(c.set k r)[j]?=s[j]?):=hid (fun j Y=>by
    by_cases e:j=k
    ·subst e;rw[List.getElem?_set_self aD,p.out]
    ·rw[List.getElem?_set_ne aD];exact HX.out j aD)
   have L:Hid ((c.set k r).length=n):=hid (by rw[zxl];exact m.out);have ae:dV (some ⟨g0,0,none⟩) n:=fun _=>⟨_,_,rfl⟩;clear V X hx a U p HX o;go_wp2;go_roundw;case rel=>exact⟨k+1,c.set k r,aD,zG,L,K,rV,pX⟩
   exact zI
  ·obtain rfl:n=k:=by omega
   have HE:Hid (c=s):=hid (List.ext_getElem? (fun j=>by
    by_cases Y:j<n
    ·exact HX.out j Y
    ·rw[zxr (by rw[m.out];omega),zxr abp]))
   exact amk
open Go.ChangeMaps Go.MapKept
open Go.WideElems (rd rg pl rd_val elemAt findIdx_arr findIdx_born modify_last set_self)
open Go.Maps (Keyed)
section
variable {H:Type} {P:Program} {w:World} {t k e:TypeId} {R:Value->Option (DataW H×List MemPlace)} {b:Nat} {es:Array MapEntry} {clock:Nat}
theorem aaw(h:p:=by
  simp[Instr.entryStore,MapKept.run_getObj_map hw2,asInt,asIntOf,goInt,hidx,hmod,MapKept.run_setObj_map _ hw2,Result.andThen,setBlock]):p:=h
theorem TW(K:Keyed P k)(q:P.underlying t=some (.map k e)){z:Value}(B:∀u:World,(zeroValue e).run P u=.ok z u)(h:w.heap[b]?=some (.map es clock))(F:Go.WideElems.Fit P k R es clock)
  {key:Value}{C:Lit}(d:keyOf P k key=some C):
  ∃(D:Value) (st:Nat) (i:Array MapEntry) (f:Nat),(Instr.mapEntry t (.map (some b)) key).run P w=.ok (.tuple #[D,goInt st]) (setBlock w b (.map i f))/\
   ((i=es/\f=clock)\/((∀x∈es.toList,x.key≠key)/\(Instr.mapUpdate t (.map (some b)) key z).run P w=.ok () (setBlock w b (.map i f))))/\
   ∀(w2:World) (val:Value),w2.heap[b]?=some (.map i f)->∃r g,(Instr.entryStore t (.map (some b)) (goInt st) val).run P w2=.ok () (setBlock w2 b (.map r g))/\
    (Instr.mapUpdate t (.map (some b)) key val).run P w=.ok () (setBlock w b (.map r g)):=by
 obtain⟨E,y,_⟩:=F.stamped;rcases K.find w d es.toList F.keys with⟨o,m⟩|⟨j,p,o,m,s⟩
 ·refine⟨z,clock,es.push ⟨key,z,clock⟩,clock+1,?_,Or.inr ⟨m,?_⟩,fun w2 val hw2=>⟨es.push ⟨key,val,clock⟩,clock+1,?_,?_⟩⟩
  ·simp[Instr.mapEntry,run_underlying q,MapKept.run_getObj_map h,K.check w false d,o,B,MapKept.run_setObj_map _ h,Result.andThen,setBlock]
  ·simp[Instr.mapUpdate,run_underlying q,MapKept.run_getObj_map h,K.check w false d,o,MapKept.run_setObj_map _ h,Result.andThen,setBlock]
  ·have hidx:(es.push ⟨key,z,clock⟩).findIdx? (fun e=>((e.born:Nat):Int)==((clock:Nat):Int))=some es.size:=by
    rw[findIdx_arr]
    have:=findIdx_born (l:=(es.push ⟨key,z,clock⟩).toList) (j:=es.size) (e0:=⟨key,z,clock⟩) (by
     simp only[Array.toList_push,zxj,zxt,List.map_nil]
     refine List.nodup_append.2 ⟨y,bH,fun a G c H I=>?_⟩
     simp only[nL] at H
     obtain⟨x,hx,rfl⟩:=List.mem_map.1 G
     have:=E x hx
     omega) bH
    exact this
   have hmod:(es.push ⟨key,z,clock⟩).modify es.size (fun e=>{e with val:=val})=es.push ⟨key,val,clock⟩:=by
    apply Array.ext';rw[Array.toList_modify,Array.toList_push,Array.toList_push,<-Array.length_toList,modify_last]
   exact aaw
  ·simp[Instr.mapUpdate,run_underlying q,MapKept.run_getObj_map h,K.check w false d,o,MapKept.run_setObj_map _ h,Result.andThen,setBlock]
 ·have A:es[j]?=some p:=by simpa using m
  have n:es.modify j (fun e=>{e with key:=key})=es:=by
   apply Array.ext';rw[Array.toList_modify,modify_eq_set _ _ _ _ m];have:({p with key:=key}:MapEntry)=p:=by rw[<-s]
   rw[this];exact set_self _ _ _ m
  refine⟨p.val,p.born,es,clock,?_,Or.inl ⟨rfl,rfl⟩,fun w2 val hw2=>⟨es.modify j (fun v=>{v with key:=key,val:=val}),clock,?_,?_⟩⟩
  ·simp[Instr.mapEntry,run_underlying q,MapKept.run_getObj_map h,K.check w false d,o,A,s,K.stays w d,n,MapKept.run_setObj_map _ h,Result.andThen,setBlock]
  ·have hidx:es.findIdx? (fun e=>((e.born:Nat):Int)==((p.born:Nat):Int))=some j:=by
    rw[findIdx_arr]
    exact findIdx_born y m
   have hmod:es.modify j (fun e=>{e with val:=val})=es.modify j (fun v=>{v with key:=key,val:=val}):=by
    apply Array.ext';rw[Array.toList_modify,Array.toList_modify,modify_eq_set _ _ _ _ m,modify_eq_set _ _ _ _ m,<-s]
   exact aaw
  ·simp[Instr.mapUpdate,run_underlying q,MapKept.run_getObj_map h,K.check w false d,o,A,s,K.stays w d,MapKept.run_setObj_map _ h,Result.andThen,setBlock]
theorem uH{w:World}{b:Nat}{a:Array MapEntry}{clock:Nat}(c:w.heap[b]?=some (.map a clock))(o:Obj):w.grownBy (setBlock w b o) (some b):=
 ⟨rfl,rfl,rfl,by simp[setBlock],fun i _ d=>heap_setBlock_other c _ (fun e=>d ah4)⟩
variable {n:Nat} {D:DataW H}
theorem FB(h:w.ownsMap P k R b n D)(K:Keyed P k)(m:P.underlying t=some (.map k e)){z:Value}(x:∀u:World,(zeroValue e).run P u=.ok z u)(A:n<maxLen){zd:DataW H}{zp:List MemPlace}(p:R z=some (zd,zp)){key:Value}{o:Lit}(a:keyOf P k key=some o):
  ∃(q:Value) (st:Nat) (w1:World),(Instr.mapEntry t (.map (some b)) key).run P w=.ok (.tuple #[q,goInt st]) w1/\w.grownBy w1 (some b)/\
   (w1.ownsMap P k R b (n+1) D\/(w1.ownsMap P k R b (n+1) (D.put o zd)/\D.atKey o zd=zd))/\
   ∀(w2:World) (val:Value) (d:DataW H) (B:List MemPlace),w2.heap[b]?=w1.heap[b]?->R val=some (d,B)->
    ∃w3,(Instr.entryStore t (.map (some b)) (goInt st) val).run P w2=.ok () w3/\w3.ownsMap P k R b (n+1) (D.put o d)/\w2.grownBy w3 (some b):=by
 have C:=h;obtain⟨es,clock,j,F,hs,E⟩:=h;obtain⟨q,st,l,c,J,L,M⟩:=TW (R:=R) K m x j F a;have G:(setBlock w b (.map l c)).heap[b]?=some (.map l c):=heap_setBlock_same j _;refine⟨q,st,_,J,uH j _,?_,fun w2 val d B g N=>?_⟩
 ·rcases L with⟨rfl,rfl⟩|⟨r,O⟩
  ·exact .inl ⟨_,_,G,F,aD,E⟩
  ·obtain⟨Q,f,how, -⟩:=C.update K m A a p
   rw[O] at f;cases f;refine .inr ⟨how,?_⟩;rcases Maps.fit_look false K m (x w) j F a with⟨_,_,s⟩|⟨S,y,T,U,_⟩
   ·rw[E];exact s zd
   ·exact absurd U (r S T)
 ·rw[G] at g
  obtain⟨v,i,V,W⟩:=M w2 val g;obtain⟨Q,f,how, -⟩:=C.update K m A a N;rw[W] at f;cases f;obtain⟨X,Y,I,Z,g3,g4⟩:=how;rw[heap_setBlock_same j _] at I;cases I;exact⟨_,V,⟨v,i,heap_setBlock_same g _,Z,g3,g4⟩,uH g _⟩
end
open Go.Maps (Keyed)
theorem Rx:Maps.Keyed prog 177:=Maps.Keyed.of_law (deep_law_laid (m:=10) zK aD (by decide+kernel) zK zK)
theorem litI(d:Nat)(x:Int)(h:(Lit.int .i64 x).wf=true):prog.keyLits (d+1) 3 [.int .i64 x]=some [.int .i64 x]:=by
 have a:prog.underlying 3=some (.int .i64):=by kernel_rfl
 unfold Program.keyLits;rw[a];simp[h]
def vG(a b:Int):Value:=.agg #[.int .i64 a,.int .i64 b]
theorem ajo(a b:Int)(f:(Lit.int .i64 a).wf=true)(g:(Lit.int .i64 b).wf=true):∃l,keyOf prog 177 (vG a b)=some l:=by
 have h:prog.keyType 177=true:=by kernel_rfl
 have d:prog.cellsOf 3=1:=by kernel_rfl
 have c:prog.cellsOf 177=2:=by kernel_rfl
 have e:=underlying177;obtain⟨m,i⟩:∃m,prog.types.size+1=m+2:=⟨prog.types.size-1,by have:2<=prog.types.size:=of_decide_eq_true zK;omega⟩;unfold keyOf vG;rw[e];simp only[h,Value.formed,e,c,i];unfold Program.keyLits;rw[e];simp[c,d,Value.cells,litI,f,g]
def vH(a:Int):Prop:= -9223372036854775808<=a/\a<=9223372036854775807
theorem vH.wf{a:Int}(h:vH a):(Lit.int .i64 a).wf=true:=by
 have b:IntKind.i64.min= -9223372036854775808:=iG
 have c:IntKind.i64.max=9223372036854775807:=iG
 obtain⟨d,e⟩:=h;simp only[Lit.wf,b,c];simp;omega
noncomputable def klA (a b:Int):Lit:= @Classical.epsilon Lit ⟨.bool false⟩ fun l=>keyOf prog 177 (vG a b)=some l
theorem DF{a b:Int}(c:vH a)(d:vH b):keyOf prog 177 (vG a b)=some (klA a b):=
 @Classical.epsilon_spec Lit (fun l=>keyOf prog 177 (vG a b)=some l) (ajo a b c.wf d.wf)
theorem acj{a b c d:Int}(f:vH a)(g:vH b)(i:vH c)(hd:vH d)(e:klA a b=klA c d):a=c/\b=d:=by
 have h:=Rx.inj (DF f g) (by rw[e];exact DF i hd);unfold vG at h;simpa using h
theorem agA{a b:Int}(c:vH a)(d:vH b):WideAt.IsKeyLit (klA a b):=Rx.key (DF c d)
theorem Zu:prog.underlying 175=some (.map 177 3):=by kernel_rfl
theorem DH:prog.underlying 3=some (.int .i64):=by kernel_rfl
theorem Rh(w:World):(zeroValue 3).run prog w=.ok (.int .i64 0) w:=by kernel_rfl
def gD(w:World)(b n:Nat)(f:Int->Int->Int):Prop:=
 ∃D:DataW Nat,w.ownsMap prog 177 (plainElem prog 3) b n D/\∀a c,vH a->vH c->D.atKey (klA a c) (.lit (.int .i64 0))=.lit (.int .i64 (f a c))
def FC(f:Int->Int->Int)(a c v:Int):Int->Int->Int:=fun b d=>if b=a/\d=c then v else f b d
theorem gD.made(w:World):gD (w.alloc (.map #[] 0)) w.heap.size 0 (fun _ _=>0):=⟨.map [],World.ownsMap_made _ _ _ _,fun _ _ _ _=>rfl⟩
theorem aeR(h:p:=by
  obtain⟨D,⟨es,clock,hb,F,r⟩,r2⟩:=h
  exact⟨D,⟨es,clock,by rw[hk];exact hb,F,r⟩,r2⟩):p:=h
theorem gD.keep{w w':World}{b n:Nat}{f:Int->Int->Int}(h:gD w b n f)(hk:w'.heap[b]?=w.heap[b]?):gD w' b n f:=by
 exact aeR
theorem gD.lt{w:World}{b n:Nat}{f:Int->Int->Int}(h:gD w b n f):b<w.heap.size:=by
 obtain⟨D,a, -⟩:=h;exact a.lt
theorem gD.mono{w:World}{b n m:Nat}{f:Int->Int->Int}(h:gD w b n f)(a:n<=m):gD w b m f:=by
 obtain⟨D,c,d⟩:=h;exact⟨D,c.mono a,d⟩
theorem gD.look{w:World}{b n:Nat}{f:Int->Int->Int}(h:gD w b n f){a c:Int}(g:vH a)(i:vH c):
  (Instr.lookup 175 (.map (some b)) (vG a c) false).run prog w=.ok (.int .i64 (f a c)) w:=by
 obtain⟨D,j,k⟩:=h;obtain⟨v,d,e, -⟩:=j.lookup_int Rx Zu DH (Rh w) (DF g i);rw[k a c g i] at e;have:f a c=v:=by simpa using e
 rw[this];exact d
theorem gD.entry{w:World}{b n:Nat}{f:Int->Int->Int}(h:gD w b n f)(J:n<=1000000){a c:Int}(m:vH a)(o:vH c):
  ∃(p:Value) (st:Nat) (w1:World),(Instr.mapEntry 175 (.map (some b)) (vG a c)).run prog w=.ok (.tuple #[p,goInt st]) w1/\gD w1 b (n+1) f/\Turns (·=b) w w1/\
   ∀(w2:World) (v:Int),vH v->w2.heap[b]?=w1.heap[b]?->∃w3,(Instr.entryStore 175 (.map (some b)) (goInt st) (.int .i64 v)).run prog w2=.ok () w3/\gD w3 b (n+1) (FC f a c v)/\Turns (·=b) w2 w3:=by
 obtain⟨D,t,q⟩:=h;have u:n<maxLen:=Il
 have r:(Lit.int .i64 0).wf=true:=iG
 have k:∀(s:DataW Nat) (v:Int),s=D.put (klA a c) (.lit (.int .i64 v))->∀i j,vH i->vH j->s.atKey (klA i j) (.lit (.int .i64 0))=.lit (.int .i64 (FC f a c v i j)):=by
  rintro s v rfl i j d g;unfold FC;by_cases e:i=a/\j=c
  ·obtain⟨rfl,rfl⟩:=e
   rw[Maps.atKey_put_same t.isMap (agA d g),if_pos ⟨rfl,rfl⟩]
  ·rw[Maps.atKey_put_other (fun h=>e (acj d g m o h)),if_neg e,q i j d g]
 obtain⟨p,st,w1,x,y,l,z⟩:=FB t Rx Zu Rh u (plainElem_int DH r) (DF m o);refine⟨p,st,w1,x,?_,Turns.gy y (fun A e=>by cases e;rfl),fun w2 v B C=>?_⟩
 ·rcases l with l|⟨l,E⟩
  ·exact⟨D,l,q⟩
  ·have F:f a c=0:=by
    have:=q a c m o
    rw[E] at this
    simpa using this.symm
   refine⟨_,l,fun i j d g=>?_⟩;rw[k _ 0 rfl i j d g];unfold FC;by_cases e:i=a/\j=c
   ·rw[if_pos e,e.1,e.2,F]
   ·rw[if_neg e]
 ·obtain⟨w3,G,H,I⟩:=z w2 (.int .i64 v) (.lit (.int .i64 v)) [] C (plainElem_int DH B.wf)
  exact⟨w3,G,⟨_,H,k _ v rfl⟩,Turns.gy I (fun A e=>by cases e;rfl)⟩
open Go.Maps (Keyed)
def agB(v:Value):Option (DataW Nat×List MemPlace):=match v with
 | .map none=>some (.lit (.int .i64 (-1)),[])
 | .map (some b)=>some (.lit (.int .i64 (b:Int)),[])
 |_=>none
theorem Zv{v:Value}{b:Nat}{ps:List MemPlace}(h:agB v=some (.lit (.int .i64 (b:Int)),ps)):v=.map (some b):=by
 unfold agB at h;split at h
 ·simp at h
 ·simp at h
  obtain⟨a, -⟩:=h;have:b=_:=(Int.natCast_inj.1 a).symm;rw[this]
 ·cases h
theorem TX:Maps.Keyed prog 3:=Maps.int_keyed underlying3
theorem Zw:prog.underlying 170=some (.map 3 175):=by kernel_rfl
theorem ajp(w:World):(zeroValue 175).run prog w=.ok (.map none) w:=by kernel_rfl
theorem TY{k:Int}(h:vH k):keyOf prog 3 (.int .i64 k)=some (.int .i64 k):=Maps.keyOf_int_mk underlying3 h.wf
theorem OY{k:Nat}(h:k<=1000000):vH (k:Int):=⟨aD,aD⟩
def pK(w:World)(b:Nat)(a:List Nat):Prop:=
 ∃D:DataW Nat,w.ownsMap prog 3 agB b a.length D/\∀k (h:k<a.length),D.atKey (.int .i64 (k:Int)) (.lit (.int .i64 (-1)))=.lit (.int .i64 (a[k]:Int))
theorem pK.made(w:World):pK (w.alloc (.map #[] 0)) w.heap.size []:=⟨.map [],World.ownsMap_made _ _ _ _,fun _ h=>absurd h bH⟩
theorem pK.keep{w w':World}{b:Nat}{a:List Nat}(h:pK w b a)(hk:w'.heap[b]?=w.heap[b]?):pK w' b a:=by
 exact aeR
theorem pK.lt{w:World}{b:Nat}{a:List Nat}(h:pK w b a):b<w.heap.size:=by
 obtain⟨D,c, -⟩:=h;exact c.lt
theorem pK.look{w:World}{b:Nat}{c:List Nat}(h:pK w b c){k:Nat}(e:k<c.length)(f:k<=1000000):
  (Instr.lookup 170 (.map (some b)) (.int .i64 (k:Int)) false).run prog w=.ok (.map (some c[k])) w:=by
 obtain⟨D,g,i⟩:=h;obtain⟨v,j,a,d⟩:=g.lookup TX Zw (z:=.map none) (ajp w) (zd:=.lit (.int .i64 (-1))) (zp:=[]) rfl (TY (OY f));rw[i k e] at d;rw[Zv d] at a;exact a
theorem pK.store{w:World}{b:Nat}{a:List Nat}(h:pK w b a)(j:a.length<=1000000)(c:Nat):
  ∃f,(Instr.mapUpdate 170 (.map (some b)) (.int .i64 (a.length:Int)) (.map (some c))).run prog w=.ok () f/\pK f b (a++[c])/\Turns (·=b) w f:=by
 obtain⟨D,l,n⟩:=h;have o:a.length<maxLen:=Il
 obtain⟨f,g,how,p⟩:=l.update TX Zw o (TY (OY j)) (val:=.map (some c)) (d:=.lit (.int .i64 (c:Int))) (ps:=[]) rfl;refine⟨f,g,⟨_,by rw[rK];exact how,fun k m=>?_⟩,Turns.gy p (fun q e=>by cases e;rfl)⟩;by_cases e:k=a.length
 ·subst e
  rw[Maps.atKey_put_same l.isMap (TX.key (TY (OY j)))];simp
 ·have i:k<a.length:=by rw[rK] at m;simp at m;omega
  rw[Maps.atKey_put_other jo,n k i,Xi i]
def oI(W:aC.dw)(s:Sub.S)(r:bU.Ref)(n:Nat)(a c:Int):Int:=if a=r.up then (bU.uy W s r c n:Nat) else 0
def lJ(W:aC.dw)(s:Sub.S)(r:bU.Ref):Int->Int->Int:=oI W s r (W.getD r.kind []).length
theorem T9(W:aC.dw)(s:Sub.S)(r:bU.Ref):oI W s r 0=fun _ _=>0:=by
 funext a c;unfold oI bU.uy;simp
theorem sy(W:aC.dw)(s:Sub.S)(r:bU.Ref)(i:Int)(n:Nat):bU.uy W s r i (n+1)=bU.uy W s r i n+if (Sub.keeps s r.kind n&&decide (bU.wM W r.kind n r.field=i))=true then 1 else 0:=by
 unfold bU.uy;rw[zxs,alX,rK];congr 1;rw[List.filter_cons];split<;>simp
theorem aaU(h:p:=by
  exact zxb (List.length_filter_le _ _) bH):p:=h
theorem Zx(W:aC.dw)(s:Sub.S)(r:bU.Ref)(i:Int)(n:Nat):bU.uy W s r i n<=n:=by
 unfold bU.uy;exact aaU
theorem acn{W:aC.dw}{s:Sub.S}{r:bU.Ref}{n:Nat}(h:Sub.keeps s r.kind n=false):oI W s r (n+1)=oI W s r n:=by
 funext a c;unfold oI;rw[sy,h];simp
theorem Zy{W:aC.dw}{s:Sub.S}{r:bU.Ref}{n:Nat}(h:Sub.keeps s r.kind n=true):oI W s r (n+1)=FC (oI W s r n) r.up (bU.wM W r.kind n r.field) (oI W s r n r.up (bU.wM W r.kind n r.field)+1):=by
 funext a c;unfold FC oI;rw[sy,h];by_cases b:a=r.up
 ·subst b
  by_cases d:c=bU.wM W r.kind n r.field
  ·subst d
   simp
  ·have e:¬bU.wM W r.kind n r.field=c:=fun h=>d h.symm
   simp[e,d]
 ·rw[if_neg b,if_neg (fun h=>b h.1),if_neg b]
theorem DI(W:aC.dw)(s:Sub.S)(r:bU.Ref)(n:Nat)(a c:Int):0<=oI W s r n a c/\oI W s r n a c<=n:=by
 unfold oI;have:=Zx W s r c n;split<;>omega
structure StV(B0 B1 B2 n:Nat)(rs:List bU.Ref)(W:aC.dw)(s:Sub.S)(w:World):Prop where
 Ua:B0<=B1
 b12:B1<=B2
 box:∃ar cr aw cw gs,w.heap[B2+1]?=some (.cells #[.slice ar rs.length cr,.slice aw W.length cw,.slice (some ⟨gs,0,none⟩) s.length s.length,.map (some B2)] 172 (0,0))/\
  GK (fun b=>B0<=b/\b<B1) w (.slice ar rs.length cr) rs/\bK (·<B0) w (.slice aw W.length cw) W/\pu (fun b=>B1<=b/\b<B2) w (.slice (some ⟨gs,0,none⟩) s.length s.length) s
 maps:∃bs:List Nat,pK w B2 bs/\bs.length=rs.length/\bs.Nodup/\(∀b∈bs,B2+2<=b)/\∀k (h:k<bs.length) (h2:k<rs.length),gD w bs[k] n (lJ W s rs[k])
end Go.Proofs.YtohddpbgflgiaaaGreatDoor
namespace Go.Proofs.YtohddpbgflgiaaaGreatDoor.bU
open aC (dw cE)
def ajq(s:Sub.S)(k n:Nat):List Nat:=(List.range n).filter (Sub.keeps s k)
def oldI(s:Sub.S)(k n a:Nat):Nat:=(ajq s k n).getD a 0
def tab(K:Nat)(n m:Nat->Nat)(f:Nat->Nat->Nat->Int):dw:=(List.range K).map fun k=>(List.range (n k)).map fun i=>(List.range (m k)).map fun j=>f k i j
def dm(W:dw)(k:Nat):Nat:=(W.getD k []).length
def cell0(W:dw)(s:Sub.S)(k a j:Nat):Int:=wM W k (oldI s k (dm W k) a) j
end Go.Proofs.YtohddpbgflgiaaaGreatDoor.bU
namespace Go.Proofs.YtohddpbgflgiaaaGreatDoor.bU
open aC (dw cE)
theorem LD{f g:Nat->Nat}:∀{l:List Nat},(∀k∈l,f k<=g k)->(l.map f).sum<=(l.map g).sum
 |[],_=>aL
 |a::l,h=>by
  have c:=h a bH;have d:=LD (l:=l) (fun k b=>h k (by simp[b]));simp only[zxt,List.sum_cons];omega
theorem LG(W:dw):aC.total W=((List.range W.length).map (dm W)).sum:=by
 unfold aC.total;congr 1;refine alW bH fun k a b=>?_;rw[sM] at a;rw[zxo,zxo,zxy];unfold dm;rw[Sub.bh a]
end Go.Proofs.YtohddpbgflgiaaaGreatDoor.bU
namespace Go.Proofs.YtohddpbgflgiaaaGreatDoor.bU
open aC (dw cE)
theorem xP(W:dw)(k:Nat):(shape W).getD k 0=dm W k:=by
 unfold shape dm;rw[iY,alY,iY];cases W[k]?<;>rfl
theorem Am(W:dw):(shape W).length=W.length:=by simp[shape]
theorem agC{W:dw}{s:Sub.S}(h:Sub.Fit (shape W) s){k i:Nat}(b:Sub.keeps s k i=true):k<W.length/\i<dm W k:=by
 have a:=Sub.Dg b;rw[h.1,Am] at a;rw[h.2,xP] at a;exact a
theorem Ry{W:dw}{s:Sub.S}(h:Sub.Fit (shape W) s):s.map List.length=shape W:=by
 have:=of_decide_eq_true (Oh h);exact this.symm
end Go.Proofs.YtohddpbgflgiaaaGreatDoor.bU
namespace Go.Proofs.YtohddpbgflgiaaaGreatDoor.bU
open aC (dw cE)
abbrev wr(x:cE)(W:dw):Sub.S->Nat->Nat->Bool:=wrong (fS x) W
end Go.Proofs.YtohddpbgflgiaaaGreatDoor.bU
namespace Go.Proofs.YtohddpbgflgiaaaGreatDoor
open Go.RowKit
theorem jv.inner{α:Type}{d:(Nat->Prop)->World->Value->α->Prop}(A:fA d){e:TypeId}{S:Nat->Prop}{w:World}{v:Value}{xs:List α}(h:jv d e S w v xs){j:Nat}(B:j<xs.length):
  ∃(u:Value) (f:Nat->Prop) (g cap:Nat),v=.slice (some ⟨g,0,none⟩) xs.length cap/\w.cell? ⟨g,j,none⟩=some u/\d f w u xs[j]/\(∀b,f b->S b)/\¬f g/\S g/\
   ∀l m,d f l u m->aH (fun b=>S b/\¬f b) w l->jv d e S l v (xs.set j m):=by
 obtain⟨n,i,Z,s,C,t⟩:=h;have o:=s;obtain⟨D,E⟩:=o;simp only[Nat.mul_one] at D;rcases E with⟨rfl,I⟩|⟨g,cap,p,rfl,a,F,J,K,G,x⟩
 ·omega
 simp only[Nat.mul_one] at G x;have k:j<i.length:=aD
 refine⟨i[j],fun b=>S b/\some b≠(Value.slice (some ⟨g,0,none⟩) xs.length cap).ownBlock/\Z b=j,g,cap,rfl,?_,t j k B,fun b a=>a.1,fun a=>a.2.1 rfl,n g rfl,fun l m hx y=>⟨n,i,Z,?_,by simpa using C,fun z H g2=>?_⟩⟩
 ·rw[cell_of_row w g j p e (0,0) F]
  have q:i[j]?=some i[j]:=lN k;rw[<-q,<-x,zxz,if_pos aD];simp
 ·have:=dZ (S:=fun b=>S b/\some b=(Value.slice (some ⟨g,0,none⟩) xs.length cap).ownBlock) s (fun b a=>⟨n b a,a.symm⟩) (fun b a c=>y b ⟨a.1,fun h=>h.2.1 a.2⟩ c)
  simpa using this
 ·by_cases r:z=j
  ·subst r
   simp only[List.getElem_set_self];exact hx
  ·rw[List.getElem_set_ne (fun h=>r h.symm)]
   refine A.keep (t z H Kh) (fun b a c=>y b ⟨a.1,fun h=>r (a.2.2.symm.trans h.2.2)⟩ c)
section
variable {P:Program} {ops:Array Oper} {md:Region.Mode} {lp n:Nat}
theorem jF{f:FuncId}{args:Array Value}{w:World}{R:Ending->World->Prop}:CallsIn (Fence.wide.inRound lp) n P f args w R↔Calls P f args w R:=callsIn_wide (n:=n)
def vI:Op->Bool
 | .defer .. =>false
 |_=>true
theorem ajr{o:Oper}{a:Act}{w:World}{K K2:Act->World->Prop}{g:Exit->Act->World->Prop}(hd:vI o.op=true)(h:o.wp P a w K (QN K2)):o.wpIn (Fence.wide.inRound lp) n P a w K g:=by
 have i:Oper.semAt (Fence.wide.inRound lp).round a.eval o=execOp a.eval o:=Oper.semAt_eq _ _ _ (fun c e=>by rw[e] at hd;simp[vI] at hd);unfold Oper.wpIn;refine⟨fun _ _=>trivial,?_⟩;rw[i];unfold Oper.wp at h;generalize (execOp a.eval o).run P w=r at*;cases r with
 |ok x w'=>
  cases x with
  |value v=>exact h
  |skip=>exact h
  |defer d=>exact h
  |enter f args=>
   refine⟨fun h=>by simp[Fence.wide] at h,jF.2 (Calls.mono h ?_)⟩
   intro e j b
   cases e with
   |returned v=>exact b
   |panicked c=>exact b.elim
   |outgrown=>exact absurd b jw
  |row row args=>
   refine⟨fun h=>by simp[Fence.wide] at h,fun c cs _=>?_⟩
   obtain⟨v,w2,k,l⟩:=h c cs
   exact⟨v,w2,k,stepsIn_wide.2 l⟩
  |_=>exact h.elim
 |halt x w'=>
  cases x<;>first|exact h.elim|exact(show False from h).elim
theorem agD{i:Nat}{a:Act}{w:World}{K d K2:Act->World->Prop}{e:Exit->Act->World->Prop}(hd:∀o,ops[i]?=some o->vI o.op=true)(f:∀a w,K a w->d a w)(h:wpOp P ops (QN K2) i K a w):wpOpIn (Fence.wide.inRound lp) n P ops e i d a w:=by
 refine wpOpIn_mono f ?_;unfold wpOp at h;unfold wpOpIn;split
 ·rename_i b;simp only[b] at h;exact h
 ·rename_i o b
  simp only[b] at h;split
  ·rename_i c
   rw[if_pos c] at h;rcases h with h|⟨_,h⟩
   ·exact ajr (hd o b) h
   ·exact absurd h jw
  ·rename_i c
   rw[if_neg c] at h;exact⟨fun _ _=>trivial,h⟩
theorem Zz{K2:Act->World->Prop}{c:Exit->Act->World->Prop}(hd:∀(i:Nat) (o:Oper),ops[i]?=some o->vI o.op=true)(b:∀a w,K2 a w->c .normal a w):∀(f:Nat) (listed:Array Bool) (a:Act) (w:World),
  wpAny P md ops (QN K2) f listed a w->wpAnyIn (Fence.wide.inRound lp) n P md ops c f listed a w
 |0,_,_,_,h=>⟨h.1,b _ _ h.2⟩
 |f+1,_listed,_a,_w,h=>⟨fun d=>b _ _ (h.1 d),fun i e=>agD (hd i) (fun a w h=>Zz hd b f _ a w h) (h.2 i e)⟩
def Region.OZ(a:Array Oper):Bool:=a.all fun o=>vI o.op
theorem Region.O1{a:Array Oper}(h:Region.OZ a=true):∀(i:Nat) (o:Oper),a[i]?=some o->vI o.op=true:=by
 intro i o c;unfold Region.OZ at h;obtain⟨b,e⟩:=zxd.1 c;rw[<-e];exact Array.all_eq_true.1 h i b
end
end Go.Proofs.YtohddpbgflgiaaaGreatDoor
namespace Go.Proofs.YtohddpbgflgiaaaGreatDoor
open Go.RowKit
def Marks(n0 b:Nat)(c:List Deferred)(w:World):Prop:=
 ∃a:List Nat,c=a.map (fun D=>{target:=.collected D,args:=#[]})/\a.Nodup/\∀D∈a,n0<=D/\D<b/\w.heap[D]?=some (.deferred (some []))
theorem Marks.nil(n0 a:Nat)(w:World):Marks n0 a [] w:=⟨[],rfl,List.nodup_nil,fun D h=>absurd h bH⟩
theorem Marks.mono{n0 d a:Nat}{e:List Deferred}{w:World}(h:Marks n0 d e w)(f:d<=a):Marks n0 a e w:=by
 obtain⟨g,i,j,b⟩:=h;exact⟨g,i,j,fun D c=>⟨(b D c).1,oN (b D c).2.1 f,(b D c).2.2⟩⟩
theorem Marks.turn{A:Nat->Obj->Prop}{n0 n1 d:Nat}{e:List Deferred}{w w':World}(h:Marks n0 d e w)(f:aY A n1 w w')(hA:∀b o,b<d->A b o->¬book o):Marks n0 d e w':=by
 obtain⟨g,i,j,a⟩:=h;exact⟨g,i,j,fun D c=>⟨(a D c).1,(a D c).2.1,f.2 _ _ (a D c).2.2 (fun k=>hA _ _ (a D c).2.1 k trivial)⟩⟩
theorem Marks.push{n0 d:Nat}{e:List Deferred}{w:World}(h:Marks n0 d e w){D:Nat}(m:d<=D)(g:n0<=D)(f:w.heap[D]?=some (.deferred (some []))):
  Marks n0 w.heap.size ({target:=.collected D,args:=#[]}::e) w:=by
 obtain⟨i,j,k,b⟩:=h;have c:=(zxd.1 f).1;refine⟨D::i,by rw[j];rfl,List.nodup_cons.2 ⟨fun l=>?_,k⟩,fun E a=>?_⟩
 ·have:=(b D l).2.1
  omega
 ·rcases mr.1 a with rfl|a
  ·exact⟨g,c,f⟩
  ·exact⟨(b E a).1,by have:=(b E a).2.1;omega,(b E a).2.2⟩
theorem mR{P:Program}{n n0:Nat}{k:Func}{a:Array Value}{R:Ending->World->Prop}{v:Value}:∀(c:List Nat) (w:World),c.Nodup->(∀D∈c,n0<=D/\w.heap[D]?=some (.deferred (some [])))->
  (∀b,aY (cD n0) n0 w b->(results k a).run P b=.ok v b/\R (.returned v) b)->LeavesInM Fence.wide n P k a R (c.map (fun D=>{target:=.collected D,args:=#[]})) .returning w
 |[],w,_,_,h=>⟨_,(h w (aY.refl _ _ _)).1,(h w (aY.refl _ _ _)).2⟩
 |D::c,w,hn,hD,h=>by
  obtain⟨f,g⟩:=List.nodup_cons.1 hn;have d:=(hD D List.mem_cons_self);have l:aY (cD n0) n0 w (w.putObj D (.deferred none)):=aY.putObj _ d.2 ⟨d.1,trivial⟩ d.1;refine⟨bH,.inl ⟨D,_,rfl,run_takeDeferred d.2,?_⟩⟩;refine mR c _ g (fun E i=>⟨(hD E (List.mem_cons_of_mem _ i)).1,?_⟩) (fun b m=>h b (l.trans m));have j:E≠D:=fun e=>f (e▸i);exact(World.putObj_heap_other j).trans (hD E (List.mem_cons_of_mem _ i)).2
theorem sA{P:Program}{n n0:Nat}{c:Func}{tmps:Array Value}{d:List Deferred}{w:World}{R:Ending->World->Prop}{v:Value}{f:Nat}(g:Marks n0 f d w)
  (h:∀a,aY (cD n0) n0 w a->(results c tmps).run P a=.ok v a/\R (.returned v) a):bodyPostM Fence.wide n P c R .ret {tmps,defers:=d} w:=by
 obtain⟨i,rfl,b,e⟩:=g;exact mR i w b (fun D h=>⟨(e D h).1,(e D h).2.2⟩) h
def yY{α:Type}(P:Program)(n0 h gf:Nat)(i:Array Value)(c:α->Array Value)(G:List α->α->World->Prop)(j iA:Nat->Obj->Prop)(S:List α->World->Prop)(w:World):Prop:=
 ∀(l:Nat) (J d:List α->World->Prop) (W:World),BL w W->
  (∀pre A B,J pre A->aY iA n0 A B->J pre B)->(∀pre A B,d pre A->aY iA n0 A B->d pre B)->
  (∀pre x f,J pre f->G pre x f->YieldAt Fence.wide 0 P l (c x) f fun e a=>
   aY (fun b o=>j b o\/cD h b o) n0 f a/\((e=.returned (.bool true)/\J (pre++[x]) a)\/(e=.returned (.bool false)/\d (pre++[x]) a)))->
  J [] W->Calls P gf (#[.func (.yield l) #[] #[]]++i) W fun e a=>(∃v,e=.returned v)/\((∃g,S g a/\J g a)\/∃g,d g a)
def QS{α:Type}(a:Nat->Obj->Prop)(n0:Nat)(I b:List α->World->Prop)(xs:List α)(W:World):Exit->Act->World->Prop
 | .normal,_,W3=>aY a n0 W W3/\I xs W3
 | .ret,_,W3=>aY a n0 W W3/\b xs W3
 |_,_,_=>False
abbrev l7(fn:FuncId)(tmps:Array Value)(ps:Array Tmp)(assign body:Code)(a:Nat)(st:LoopState)(b:Option Code):Loop:=
 {state:=st,pending:=b,fn,tmps,params:=ps,assign,body,defers:=a}
theorem amG(h:p:=by
  have:=run_beginRound (P:=P) hl2 (by rw[hrec])
  rw[hrec] at this ⊢
  exact this):p:=h
theorem DJ{P:Program}{α:Type}{n0 g:Nat}{ps:Array Tmp}{assign body:Code}{fn:FuncId}{i:Array Value}{Ub l gf:Nat}{lb:Array Value}{w s:World}
  {j:α->Array Value}(ab:∀x,(j x).size=ps.size){G:List α->α->World->Prop}{L iA:Nat->Obj->Prop}{S:List α->World->Prop}(N:yY P n0 g gf lb j G L iA S w)
  (ad:BL w s)(O:s.heap[l]?=some (.loop (l7 fn i ps assign body Ub .ready none)))(Uc:g<=l)(hn:n0<=g)(E4:∀b o,iA b o->¬book o)(JZ:∀b o,L b o->¬book o)
  (I M:List α->World->Prop)(hI:∀pre A B,I pre A->aY (fun b o=>iA b o\/cD g b o) n0 A B->I pre B)(C:∀pre A B,M pre A->aY (fun b o=>iA b o\/cD g b o) n0 A B->M pre B)
  (hS:∀m A B,S m A->aY (cD g) n0 A B->S m B)
  (E:World->Prop)(hE:∀(A:Nat->Obj->Prop) X Y,(∀b o,A b o->¬book o)->aY A n0 X Y->E X->E Y)(y:∀X o,E X->E (X.putObj l o))(h0:I [] s)(ae:E s)
  (jB:∀pre x W,W.heap[l]?=some (.loop (l7 fn i ps assign body Ub .ready none))->I pre W->G pre x W->assign.wpIn (Fence.wide.inRound l) 0 P (Exit.then (fun Q s=>aY L n0 W s/\∀d,aY (cD g) n0 s d->d.heap.size=s.heap.size->(∃r,d.heap[l]?=some (.loop r))->
    body.wpIn (Fence.wide.inRound l) 0 P (QS L n0 I M (pre++[x]) d) Q d) (fun _ _ _=>False))
   {tmps:=(ps.zip (j x)).foldl (fun t (p,v)=>t.setIfInBounds p v) i,defers:=[]} W):
  Calls P gf (#[.func (.yield l) #[] #[]]++lb) s fun e d=>(∃v,e=.returned v)/\∃n R,(Instr.endLoop l).run P d=.ok n R/\E R/\
   ((n=none/\∃m,S m R/\I m R)\/(n=some .ret/\∃m,M m R)):=by
 obtain⟨rec,hrec⟩:∃rec:LoopState->Option Code->Loop,rec=l7 fn i ps assign body Ub:=⟨_,rfl⟩;rw[<-hrec] at O
 have Rz:∀{A:Nat->Obj->Prop} {X Y:World} {st:LoopState} {pe:Option Code},(∀b o,A b o->¬book o)->aY A n0 X Y->X.heap[l]?=some (.loop (rec st pe))->Y.heap[l]?=some (.loop (rec st pe)):=
  fun hA z q=>z.2 _ _ q (fun h=>hA _ _ h trivial)
 have O2:∀{X:World} {o:Obj} (u:Obj),X.heap[l]?=some o->book o->aY (cD g) n0 X (X.putObj l u):=fun u h hb=>aY.putObj _ h ⟨Uc,hb⟩ aD
 refine(N l (fun pre W=>I pre W/\W.heap[l]?=some (.loop (rec .ready none))/\E W) (fun pre W=>M pre W/\W.heap[l]?=some (.loop (rec .done (some .ret)))/\E W) s ad
  (fun pre A B D z=>⟨hI _ _ _ D.1 (z.mono fun b o h=>.inl h),Rz E4 z D.2.1,hE _ _ _ E4 z D.2.2⟩) (fun pre A B D z=>⟨C _ _ _ D.1 (z.mono fun b o h=>.inl h),Rz E4 z D.2.1,hE _ _ _ E4 z D.2.2⟩) ?_ ⟨h0,O,ae⟩).mono ?_
 ·rintro pre x W ⟨T,q,af⟩ hG
  have hy:=run_yield (P:=P) (args:=j x) q (by rw[hrec];exact ab x);rw[hrec] at hy;refine⟨fn,_,assign,body,hy,roundIn_of_wpIn trivial (wpIn_mono (jB pre x W (by rw[q,hrec]) T hG) ?_)⟩;rintro e a1 d hp;cases e with
  |normal=>
   obtain⟨F,H⟩:=hp
   have hl2:=Rz JZ F q
   have U:=hE _ _ _ JZ F af
   have V:l<d.heap.size:=(zxd.1 hl2).1
   have a:aY (cD g) n0 d (d.putObj l (.loop (rec .busy none))):=O2 _ hl2 trivial
   have ag:(Instr.beginRound l).run P d=.ok () (d.putObj l (.loop (rec .busy none))):=by
    exact amG
   have Z:(d.putObj l (.loop (rec .busy none))).heap[l]?=some (.loop (rec .busy none)):=World.putObj_heap_same V
   refine⟨_,ag,wpIn_mono (H _ a bH ⟨_,Z⟩) ?_⟩
   rintro e a3 k hq
   have fin:∀(I':List α->World->Prop) (aa:∀pre A B,I' pre A->aY (fun b o=>iA b o\/cD g b o) n0 A B->I' pre B) (c:Option Code),aY L n0 (d.putObj l (.loop (rec .busy none))) k/\I' (pre++[x]) k->
     (Instr.endRound l c).run P k=.ok (.bool c.isNone) (k.putObj l (.loop (rec (if c.isNone then .ready else .done) c)))/\
     I' (pre++[x]) (k.putObj l (.loop (rec (if c.isNone then .ready else .done) c)))/\
     (k.putObj l (.loop (rec (if c.isNone then .ready else .done) c))).heap[l]?=some (.loop (rec (if c.isNone then .ready else .done) c))/\
     E (k.putObj l (.loop (rec (if c.isNone then .ready else .done) c)))/\
     aY (fun b o=>L b o\/cD g b o) n0 W (k.putObj l (.loop (rec (if c.isNone then .ready else .done) c))):=by
    rintro I' aa c ⟨J,ah⟩;have K:=Rz JZ J Z;have Yr:l<k.heap.size:=(zxd.1 K).1
    have f:(Instr.endRound l c).run P k=.ok (.bool c.isNone) (k.putObj l (.loop (rec (if c.isNone then .ready else .done) c))):=by
     have:=run_endRound (P:=P) c K;rw[hrec] at this ⊢;exact this
    have LH:aY (cD g) n0 k (k.putObj l (.loop (rec (if c.isNone then .ready else .done) c))):=O2 _ K trivial
    exact⟨f,aa _ _ _ ah (LH.mono fun b o h=>.inr h),World.putObj_heap_same Yr,y _ _ (hE _ _ _ JZ J (y _ _ U)),
     (((F.mono fun b o h=>.inl h).trans (a.mono fun b o h=>.inr h)).trans (J.mono fun b o h=>.inl h)).trans (LH.mono fun b o h=>.inr h)⟩
   cases e with
   |normal=>
    obtain⟨h1,h2,h3,h4,h5⟩:=fin I hI none hq
    exact⟨_,_,h1,h5,.inl ⟨rfl,h2,h3,h4⟩⟩
   |ret=>
    obtain⟨h1,h2,h3,h4,h5⟩:=fin M C (some .ret) hq
    exact⟨_,_,h1,h5,.inr ⟨rfl,h2,h3,h4⟩⟩
   |_=>exact hq.elim
  |_=>exact hp.elim
 ·rintro e d ⟨hv,h⟩
  refine⟨hv,?_⟩;rcases h with⟨m,Wk,T,q,U⟩|⟨m,T,q,U⟩
  ·have f:=run_endLoop (P:=P) q (by rw[hrec];simp)
   have a:∀u,aY (cD g) n0 d (d.putObj l u):=fun u=>O2 u q trivial;exact⟨_,_,f,y _ _ U,.inl ⟨by rw[hrec],m,hS _ _ _ Wk (a _),hI _ _ _ T ((a _).mono fun b o h=>.inr h)⟩⟩
  ·have f:=run_endLoop (P:=P) q (by rw[hrec];simp)
   have a:∀u,aY (cD g) n0 d (d.putObj l u):=fun u=>O2 u q trivial;exact⟨_,_,f,y _ _ U,.inr ⟨by rw[hrec],m,C _ _ _ T ((a _).mono fun b o h=>.inr h)⟩⟩
theorem Z7(h:p:=by
  rw[<-hW1]
  have:=zAn (w.alloc (.deferred (some []))) (.loop (l7 fn a.tmps ps assign body w.heap.size .ready none))
  rwa [World.size_alloc] at this):p:=h
theorem am6(h:p:=by
  simp only[resolve,hg]
  simp[go_sem]):p:=h
theorem anb(h:p:=by
  rw[<-hW1]
  exact(Below.heap_alloc _ _ _ bH).trans (zAn w _)):p:=h
theorem uI{P:Program}{α:Type}{n n0:Nat}{g:Operand}{ps:Array Tmp}{assign body:Code}{Q:Exit->Act->World->Prop}{a:Act}{w:World}
  {gf:Nat}{u:Array Value}(hg:a.eval g=.func (.func gf) #[] u)(M:∀args w,(callFunc gf args).run P w=.ok (.enter gf args) w)
  {d:α->Array Value}(z:∀x,(d x).size=ps.size){G:List α->α->World->Prop}{y iA:Nat->Obj->Prop}{S:List α->World->Prop}(j:yY P n0 w.heap.size gf u d G y iA S w)
  (hn0:n0<=w.heap.size)(N:∀b o,iA b o->¬book o)(O:∀b o,y b o->¬book o)
  (I k:List α->World->Prop)(hI:∀pre A B,I pre A->aY (fun b o=>iA b o\/cD w.heap.size b o) n0 A B->I pre B)(C:∀pre A B,k pre A->aY (fun b o=>iA b o\/cD w.heap.size b o) n0 A B->k pre B)
  (R:∀f A B,S f A->aY (cD w.heap.size) n0 A B->S f B)(h0:I [] w)
  (jB:∀l pre x W,(∃r,W.heap[l]?=some (.loop r))->I pre W->G pre x W->assign.wpIn (Fence.wide.inRound l) 0 P (Exit.then (fun m c=>aY y n0 W c/\∀i,aY (cD w.heap.size) n0 c i->i.heap.size=c.heap.size->(∃r,i.heap[l]?=some (.loop r))->
    body.wpIn (Fence.wide.inRound l) 0 P (QS y n0 I k (pre++[x]) i) m i) (fun _ _ _=>False))
   {tmps:=(ps.zip (d x)).foldl (fun t (p,v)=>t.setIfInBounds p v) a.tmps,defers:=[]} W)
  (hdone:∀D f W,w.heap.size<=D->S f W->I f W->W.heap[D]?=some (.deferred (some []))->Q .normal {a with defers:={target:=.collected D,args:=#[]}::a.defers} W)
  (hstop:∀D f W,w.heap.size<=D->k f W->W.heap[D]?=some (.deferred (some []))->Q .ret {a with defers:={target:=.collected D,args:=#[]}::a.defers} W):
  (Code.rangeFunc g ps assign body).wpIn Fence.wide n P Q a w:=by
 refine wpIn_rangeFunc ?_;intro fn T;obtain⟨c,hW1⟩:∃c,(w.alloc (.deferred (some []))).alloc (.loop (l7 fn a.tmps ps assign body w.heap.size .ready none))=c:=⟨_,rfl⟩
 have E:c.heap[w.heap.size+1]?=some (.loop (l7 fn a.tmps ps assign body w.heap.size .ready none)):=by
  exact Z7
 have F:c.heap[w.heap.size]?=some (.deferred (some [])):=by
  exact anb
 have H:BL w c:=Qz
 have J:I [] c:=hI _ _ _ h0 afs
 refine⟨w.heap.size+1,[{target:=.collected w.heap.size,args:=#[]}],c,{target:=.fn (.func gf) u,args:=#[.func (.yield (w.heap.size+1)) #[] #[]]},c,gf,
  #[.func (.yield (w.heap.size+1)) #[] #[]]++u,c,?_,?_,fun _ _=>trivial,?_,fun h=>by simp[Fence.wide] at h,?_⟩
 ·rw[<-hW1];exact run_enterLoop_outer _ _ _ _ _
 ·exact am6
 ·simp[invoke,go_sem,M]
 ·rw[callsIn_wide]
  refine(DJ (l:=w.heap.size+1) z j H E aD hn0 N O I k hI C R (fun W=>W.heap[w.heap.size]?=some (.deferred (some []))) (fun A X Y hA U h=>U.2 _ _ h (fun h=>hA _ _ h trivial))
   (fun X o h=>(World.putObj_heap_other aD).trans h) J F (fun pre x W V=>jB (w.heap.size+1) pre x W ⟨_,V⟩)).mono ?_
  rintro e i ⟨⟨v,rfl⟩,q,Z,s,L,h⟩;refine⟨q,Z,s,?_⟩;rcases h with⟨rfl,f,K,h2⟩|⟨rfl,f,K⟩
  ·exact hdone _ f _ aL K h2 L
  ·exact wpIn_ret (hstop _ f _ aL K L)
theorem eA.vG{α:Type}{R:World->Value->α->Prop}{S:Nat->Prop}{w:World}{a:Option Addr}{n cap:Nat}{xs:List α}(h:eA R S w (.slice a n cap) xs){j:Nat}(e:j<xs.length):
  ∃u,R w u xs[j]/\∀X,aH S w X->X.cell? ⟨bM a,bT a+j,none⟩=some u:=by
 obtain⟨m,d,f,o,p,q,g,i⟩:=h;cases f;obtain⟨u,b,k⟩:=i j e;refine⟨u,k,fun X l=>?_⟩;have c:bM a<w.heap.size:=kK w ⟨bM a,bT a+j,none⟩ b;have:=l (bM a) (g aD) c;unfold World.cell? at b ⊢;simp only at b ⊢;rw[this];exact b
namespace Sub
def nG(s:S)(k:Nat):List (Nat×Nat):=(List.range k).flatMap fun j=>IV j (s.getD j [])
def tf(k:Nat)(l:List Bool)(i:Nat):List (Nat×Nat):=(List.range i).filterMap fun a=>if l.getD a false then some (k,a) else none
theorem DK(s:S):nG s 0=[]:=rfl
theorem sB(s:S)(k:Nat):nG s (k+1)=nG s k++IV k (s.getD k []):=by simp[nG,zxs]
theorem Ud(s:S):nG s s.length=kept s:=rfl
theorem DL(k:Nat)(l:List Bool):tf k l 0=[]:=rfl
theorem xQ(k:Nat)(l:List Bool)(i:Nat):tf k l (i+1)=tf k l i++if l.getD i false=true then [(k,i)] else []:=by
 unfold tf;rw[zxs,List.filterMap_append];congr 1;rw[List.filterMap_cons,List.filterMap_nil];cases l.getD i false<;>rfl
theorem Ao(k:Nat)(l:List Bool):tf k l l.length=IV k l:=rfl
theorem GS(k:Nat)(l:List Bool){i:Nat}:∀{n:Nat},i<=n->tf k l i<+:tf k l n
 |0,h=>by
  obtain rfl:i=0:=aD
  exact List.prefix_refl _
 |n+1,h=>by
  by_cases e:i=n+1
  ·rw[e];exact List.prefix_refl _
  ·rw[xQ]
   exact(GS k l aD).trans (List.prefix_append _ _)
theorem GU(s:S){i:Nat}:∀{n:Nat},i<=n->nG s i<+:nG s n
 |0,h=>by
  obtain rfl:i=0:=aD
  exact List.prefix_refl _
 |n+1,h=>by
  by_cases e:i=n+1
  ·rw[e];exact List.prefix_refl _
  ·rw[sB]
   exact(GU s aD).trans (List.prefix_append _ _)
theorem LI{s:S}{k i:Nat}(c:k<s.length)(b:i<=(s.getD k []).length):nG s k++tf k (s.getD k []) i<+:kept s:=by
 have a:nG s (k+1)<+:kept s:=GU s aD;rw[sB] at a;refine List.IsPrefix.trans ?_ a;rw[<-Ao];exact(List.prefix_append_right_inj _).2 (GS k _ b)
end Sub
theorem adB(h:p:=by
  gi_wp2
  refine bodyPost_ret (results_none rfl _ _ _) rfl ?_
  exact⟨⟨_,rfl⟩,.inr ⟨_,H2.out⟩⟩):p:=h
theorem GV(s:Sub.S)(n0 T b l:Nat)(v:Value)(S:Nat->Prop)(U:World)(V:Nat->Obj->Prop)(g:World->Prop)(p:∀X Y,g X->aY (fun b o=>V b o\/cD T b o) n0 X Y->g Y)
  (C:∀X,g X->X.heap[b]?=some (.cells #[v] 70 (0,0)))(D:∀X,g X->aH S U X)(K:nU S U v s)
  (J Z:List (Nat×Nat)->World->Prop)(hJ:∀pre X Y,J pre X->aY (fun _ _=>False) n0 X Y->J pre Y)(W:World)
  (hY:∀pre (x:Nat×Nat) L,J pre L->pre++[x]<+:Sub.kept s->YieldAt Fence.wide 0 prog l #[.agg #[.int .i64 (x.1:Int),.int .i64 (x.2:Int)]] L fun e B=>
   aY (fun b o=>V b o\/cD T b o) n0 L B/\((e=.returned (.bool true)/\J (pre++[x]) B)\/(e=.returned (.bool false)/\Z (pre++[x]) B)))
  (q:g W)(h0:J [] W):
  CP 156 #[.func (.yield l) #[] #[],.pointer (some ⟨b,0,none⟩)] W fun e B=>(∃v,e=.returned v)/\((∃I,I=Sub.kept s/\J I B)\/∃I,Z I B):=by
 have c0:=(one_cell (C W q)).1;obtain⟨a,cap,rfl,ab,hc,hm⟩:=K.form;have HS:=hid K;have E:=hid (And.intro q h0);have HY:=hid hY;have ad:=hid (fun pre X m (h:J pre X)=>hJ pre X (X.drewN m) h ((aY.refl _ _ _).drewN m));have ae:=hid (fun X m (h:g X)=>p X (X.drewN m) h ((aY.refl _ _ _).drewN m));have Da:=hid D;have J2:=hid p;clear hY q h0 C D K p hJ;refine(callsIn_wide (n:=1)).1 ?_;refine callsIn_of_wp func156 rfl trivial ?_ rfl;simp only[ntmps156,List.size_toArray,zxg,List.length_nil,Nat.reduceAdd,Nat.reduceSub,Array.replicate_succ,Array.replicate_zero,List.push_toArray,List.append_toArray,List.nil_append,List.cons_append];gi_wp2;clear c0;gi_loopw [9] (fun c wr=>∃k:Nat,k<=s.length/\c=.int .i64 k/\Hid (g wr/\J (Sub.nG s k) wr)) (fun c _=>s.length-(intOf c).toNat);case atStart=>exact⟨0,aD,rfl,hid ⟨E.out.1,by rw[Sub.DK];exact E.out.2⟩⟩
 case round=>
  obtain⟨k,hk,rfl,HR⟩:=hrel;by_cases r:k<s.length
  ·obtain⟨u,t,F⟩:=HS.out.vG r
   have M:=F wr (Da.out wr HR.out.1);obtain⟨a1,c1,rfl,O4,N,af⟩:=t.form;have HB:=hid t;have O:Hid (s.getD k []=s[k]):=hid (Sub.bh r);have ag:=zN k
   have ah:=zL k s.length
   clear t F;obtain⟨G,P⟩:=bJ (s[k].length);rw[<-P] at HB O4 N M;have Cr:=hid P;clear P;gi_wp2;clear M;generalize Lx:wr=Wb at*;gi_loopw [16] (fun c wr=>∃i:Nat,i<=G/\c=.int .i64 i/\Hid (g wr/\J (Sub.nG s k++Sub.tf k s[k] i) wr)) (fun c _=>G-(intOf c).toNat);case atStart=>exact⟨0,aD,rfl,hid ⟨HR.out.1,by rw[Sub.DL,zxp];exact HR.out.2⟩⟩
   case round=>
    obtain⟨i,hi,rfl,w⟩:=hrel;by_cases hit:i<G
    ·have ai:=zN i
     have aj:=zL i G
     have H:i<s[k].length:=by have:=Cr.out;omega
     obtain⟨ub,Q,F⟩:=HB.out.vG H;obtain rfl:ub=_:=Q;have M:=F wr (Da.out wr w.out.1);have d:=Sub.xQ k s[k] i;rw[Sub.bh H] at d;have hpre:=Sub.LI (s:=s) (k:=k) (i:=i+1) r (by rw[O.out];omega);rw[O.out] at hpre;clear F;generalize s[k][i]=kp at*;cases kp with
     |true=>
      rw[if_pos rfl] at d
      rw[d,<-zxm] at hpre
      obtain⟨fn,aa,assign,body,RA,hR⟩:=YieldAt.jD (m':=0) rfl (HY.out _ (k,i) wr w.out.2 hpre)
      have R:=hid hR
      have y:=hid d
      clear d hpre hR
      gi_wp2
      refine(RoundIn.jD rfl R.out).mono ?_
      rintro e W2 ⟨z,j⟩
      have A:=J2.out _ _ w.out.1 z
      rw[zxm,<-y.out] at j
      rcases j with⟨rfl,f⟩|⟨rfl,f⟩
      ·have H2:=hid (And.intro A f)
       clear z A f R RA y;gi_wp2;go_roundw;case rel=>exact⟨i+1,aD,zG,H2⟩
       exact zI
      ·have H2:=hid f
       clear z A f R RA y;exact adB
     |false=>
      rw[if_neg bH] at d
      have H2:Hid (g wr/\J (Sub.nG s k++Sub.tf k s[k] (i+1)) wr):=hid ⟨w.out.1,by rw[d,zxp];exact w.out.2⟩
      clear d hpre
      gi_wp2
      refine⟨bH,?_⟩
      gi_wp2
      go_roundw
      case rel=>exact⟨i+1,aD,zG,H2⟩
      exact zI
    ·obtain rfl:G=i:=by omega
     have H2:Hid (g wr/\J (Sub.nG s (k+1)) wr):=hid ⟨w.out.1,by
      have:=w.out.2
      rw[Sub.sB,O.out,<-Sub.Ao,<-Cr.out]
      exact this⟩
     gi_wp2;go_roundw;case rel=>exact⟨k+1,aD,zG,H2⟩
     exact zI
  ·obtain rfl:s.length=k:=by omega
   have H2:=hid HR.out.2;gi_wp2;go_end0;exact⟨⟨_,rfl⟩,.inl ⟨_,rfl,by rw[<-Sub.Ud];exact H2.out⟩⟩
theorem LJ(a:Option Addr)(n c:Nat)(w:World):CP 108 #[.slice a n c] w fun e b=>e=.returned (.func (.func 156) #[] #[.pointer (some ⟨w.heap.size,0,none⟩)])/\b=w.alloc (.cells #[.slice a n c] 70):=by
 go_enter func108,ntmps108;exact Ez
theorem GW(s:Sub.S)(n0 c b:Nat)(v:Value)(S:Nat->Prop)(a:Nat->Obj->Prop)(w:World)(d:n0<=w.heap.size)(e:nU S w v s)
  (f:w.heap[b]?=some (.cells #[v] 70 (0,0)))(g:∀o,¬a b o)(i:∀X,aY (fun b o=>a b o\/cD c b o) n0 w X->aH S w X):
  yY (α:=Nat×Nat) prog n0 c 156 #[.pointer (some ⟨b,0,none⟩)] (fun x=> #[.agg #[.int .i64 (x.1:Int),.int .i64 (x.2:Int)]]) (fun pre x _=>pre++[x]<+:Sub.kept s) a (fun _ _=>False) (fun j _=>j=Sub.kept s) w:=by
 intro l J k W m n p q r;refine GV s n0 c b l v S w a (fun X=>aY (fun b o=>a b o\/cD c b o) n0 w X) (fun X Y t u=>t.trans u) (fun X h=>h.2 _ _ f ?_) i e J k n W q (aY.bg m d) r;rintro (h|h)
 ·exact g _ h
 ·simp[cD,book] at h
theorem ZB(b o j:Nat):(⟨b,o,none⟩:Addr).add j=⟨b,o+j,none⟩:=by
 unfold Addr.add;split
 ·rename_i h;subst h;rfl
 ·rfl
theorem Ue(n:Nat)(g:n<=1000000)(w:World):CP 158 #[.int .u64 1,.int .u64 n] w fun e a=>e=.returned (.tuple #[.int .u64 0,.int .u64 n])/\w=a:=by
 have b:bits .and .u64 1 4294967295=1:=iG
 have c:bits .and .u64 0 4294967295=0:=iG
 have d:bits .and .u64 (n:Int) 4294967295=n:=by
  have h:=bits_and_u64_nat n 4294967295 aD aD;have e:n&&&4294967295=n % 4294967296:=Nat.and_two_pow_sub_one_eq_mod n 32;rw[e,Nat.mod_eq_of_lt aD] at h;exact h
 have hd:(n:Int) / 4294967296=0:=aD
 have i:IntKind.u64.wrap (n:Int)=n:=by rw[IntKind.wrap_u64];omega
 have f:IntKind.u64.wrap 0=0:=iG
 go_enter func158,ntmps158;go_wp2;go_ret2;exact⟨rfl,rfl⟩
theorem ZC(n:Nat)(b:n<=1000000)(w:World):CP 111 #[.int .u64 1,.int .u64 n] w fun e a=>e=.returned (.tuple #[.int .u64 0,.int .u64 n])/\w=a:=by
 go_enter func111,ntmps111;go_wp2_with (go_at_call 158;refine(Ue n b _).mono ?_;rintro e a ⟨rfl,rfl⟩);go_ret2;exact⟨rfl,rfl⟩
def oJ(n m:Nat):List Bool:=List.replicate m true++List.replicate (n-m) false
theorem yZ(n m:Nat)(h:m<=n):(oJ n m).length=n:=by simp[oJ];omega
theorem Bn(n m c:Nat)(_h:m+c<=n):splice ((oJ n m).map Value.bool) m ((List.replicate c true).map Value.bool)=(oJ n (m+c)).map Value.bool:=by
 have a:(oJ n m).take m=List.replicate m true:=by unfold oJ;simp
 have b:(oJ n m).drop (m+c)=List.replicate (n-(m+c)) false:=by
  unfold oJ;rw[List.drop_append,List.drop_of_length_le bH];simp;omega
 unfold splice;rw[<-List.map_take,sM,List.length_replicate,<-List.map_drop,<-zxj,<-zxj,a,b];congr 1;unfold oJ;rw[<-zxm,List.replicate_append_replicate]
theorem aco(n m i:Nat)(h:i<m)(a:m<=n):(oJ n m)[i]'(by rw[yZ n m a];omega)=true:=by
 unfold oJ;rw[Xi Fa];simp
theorem O5(n:Nat)(hn:n<=1000000)(b:Nat)(w:World)(B:w.cell? ⟨b,0,none⟩=some (.bool true)):
  CP 62 #[.slice (some ⟨b,0,none⟩) 1 1,.int .i64 n] w fun e M=>∃x,e=.returned x/\ku (w.heap.size<=·) M x (List.replicate n true)/\BL w M:=by
 have N:=fun W=>Di (P:=prog) (t:=121) (e:=4) (b:=1) zK zK aD n aD W;have p:=hid (fun W=>ZC n hn W);have ab:IntKind.u64.wrap (n:Int)=n:=by rw[IntKind.wrap_u64];omega
 have ad:(0:Int)<=n:=aD
 have ae:(n:Int)<=1000000:=aD
 obtain⟨c0,d⟩:=bJ (Nat.min 1 n);have C:c0<=1:=by rw[d];exact Nat.min_le_left _ _
 have D:c0<=n:=by rw[d];exact Nat.min_le_right _ _
 have O:0<n->1<=c0:=fun h=>by rw[d];exact Nat.le_min.2 ⟨aL,h⟩
 obtain⟨cs,a⟩:=bJ ((List.replicate c0 true).map Value.bool);have f:cs.length=c0:=by rw[a];simp
 have X:Hid (splice ((oJ n 0).map Value.bool) 0 cs=(oJ n c0).map Value.bool):=hid (by rw[a];have:=Bn n 0 c0 aD;rwa [zxn] at this)
 have Y:Hid (∀j v,cs[j]?=some v->j=0/\Value.bool true=v):=hid (fun j v hj=>by
  have A:=(zxu.1 hj).1;rw[a,alY,List.getElem?_replicate,if_pos aD] at hj;exact⟨aD,BI⟩)
 have E:Hid (∀v∈cs,v.oneCell'=true):=hid (by rw[a];simp[Value.oneCell']);have i:=hid f;have F:=hid d;clear a f d;have Q:=hid (bD (k:=w.heap.size) w (.cells ((List.replicate n (Value.bool false)).toArray) 4) rfl);have G:(w.alloc (.cells ((List.replicate n (Value.bool false)).toArray) 4)).cell? ⟨b,0,none⟩=some (.bool true):=cell_later (aG.alloc aL _) B;have R:=hid G;have H:BL w (w.alloc (.cells ((List.replicate n (Value.bool false)).toArray) 4)):=aG.alloc aL _;have Le:=hid H;have Z:(oJ n 0).map Value.bool=(List.replicate n false).map Value.bool:=by simp[oJ]
 have HZ:Hid ((List.replicate n (Value.bool false)).toArray=((oJ n 0).map Value.bool).toArray):=hid (by rw[Z,List.map_replicate]);clear G H B Z;go_enter func62,ntmps62;have d1:decide ((n:Int)<0)=false:=decide_eq_false aD;have d2:decide (9223372036854775807<(n:Int))=false:=decide_eq_false aD;have Dt:Hid ((w.alloc (.cells ((List.replicate n (Value.bool false)).toArray) 4)).heap[w.heap.size]?=some (.cells ((oJ n 0).map Value.bool).toArray 4 (0,0))):=hid (by rw[Q.out,HZ.out])
 go_wp2_with (first
  |(go_at_call 111;refine(p.out _).mono ?_;rintro e M ⟨rfl,rfl⟩)
  |(refine wpList_copy_splice (o:=⟨some 33,_,_,_,_,_⟩) rfl (.tmp 31) (.tmp 32) 121 121 rfl 4 zK zK (some ⟨w.heap.size,0,none⟩) (some ⟨b,0,none⟩) n n 1 1 rfl rfl w.heap.size 0 ((oJ n 0).map Value.bool) 4 Dt.out cs (by rw[i.out,F.out]) (fun _=>⟨rfl,_,rfl,fun j v hj=>by
     obtain⟨rfl,rfl⟩:=Y.out j v hj
     exact R.out⟩) (by rw[sM,yZ n 0 (zxa _),i.out];omega) E.out w.heap.size w Le.out aL ?_))
 intro w2 I Nb;have s:=I.out;rw[X.out] at s;have g:(cs.length:Int)=(c0:Int):=by rw[i.out]
 rw[g];have HI:=hid (And.intro s Nb);clear s Nb I N p X Y E i F g;go_wp2;go_loopw [8] (fun c wr=>∃m:Nat,(m<n->1<=m)/\m<=n/\c=.int .i64 m/\Hid (wr.heap[w.heap.size]?=some (.cells ((oJ n m).map Value.bool).toArray 4 (0,0))/\BL w wr)) (fun c _=>n-(intOf c).toNat);case atStart=>exact⟨c0,fun h=>O aD,D,rfl,HI⟩
 case round=>
  obtain⟨m,af,u,rfl,y⟩:=hrel;by_cases ag:m<n
  ·have aa:(m:Int)<n:=by omega
   have ah:(0:Int)<=m:=aD
   obtain⟨c,B⟩:=bJ (min (n-m) m);obtain⟨cs,a⟩:=bJ ((List.replicate c true).map Value.bool);have f:cs.length=c:=by rw[a];simp
   have HN:Hid (splice ((oJ n m).map Value.bool) m cs=(oJ n (m+c)).map Value.bool):=hid (by rw[a];exact Bn n m c aD)
   have J:Hid (∀j v,cs[j]?=some v->wr.cell? ((⟨w.heap.size,0,none⟩:Addr).add j)=some v):=hid (fun j v hj=>by
    rw[a,alY,List.getElem?_replicate] at hj
    have S:j<c:=by
     by_cases h:j<c
     ·exact h
     ·rw[if_neg h] at hj;simp at hj
    rw[if_pos S] at hj;have hv:Value.bool true=v:=BI
    rw[<-hv,ZB,cell_of_row _ _ _ _ _ (0,0) y.out.1];have hl:=yZ n m u;have A:=aco n m j aD u;simp only[zxn,List.getElem?_toArray,alY];rw[lN aD,A];rfl)
   have q:∀v∈cs,v.oneCell'=true:=by rw[a];simp[Value.oneCell']
   have K:=hid q;have l:=hid f;have T:=hid B;have C:m+c<=n:=aD
   have D:1<=c:=aD
   clear a f q B;go_wp2;refine bq 8 (.quiet 0 (.quiet 1 (.quiet 2 (.quiet 3 (.quiet 4 (.quiet 5 (.quiet 6 (.one 7 .done)))))))) (fun _=>True) nK zK trivial ?_
   iterate 7 refine gF ?_
   refine aZ rfl ?_
   refine wpList_copy_splice rfl (.tmp 41) (.tmp 44) 121 121 rfl 4 zK zK (some ⟨w.heap.size,m,none⟩) (some ⟨w.heap.size,0,none⟩) (n-m) (n-m) m n rfl rfl w.heap.size m ((oJ n m).map Value.bool) 4 y.out.1 cs (by rw[l.out,T.out];exact Nat.min_comm _ _)
    (fun _=>⟨rfl,_,rfl,fun j v hj=>J.out j v hj⟩) (by rw[sM,yZ n m u,l.out];exact C) K.out w.heap.size w (aJ y.out.2 1) aL ?_
   intro w4 DM L;have z:=DM.out;rw[HN.out] at z;have U:=hid (And.intro z L);have g:goInt cs.length=.int .i64 (c:Int):=by rw[l.out];rfl
   rw[g];clear z L DM y J K HN l g;go_wp2;refine tK ⟨fun _=>True,trivial,?_⟩;refine bG ?_;try simp only[jW,jH]
   go_wp2;go_roundw;case rel=>exact⟨m+c,aD,aD,zG,U⟩
   exact zI
  ·obtain rfl:m=n:=by omega
   have r:(oJ m m).map Value.bool=(List.replicate m true).map Value.bool:=by simp[oJ]
   have A:=y.out.1;rw[r] at A;have hB:=y.out.2
   have HR:Hid (ku (w.heap.size<=·) wr (.slice (some ⟨w.heap.size,0,none⟩) m m) (List.replicate m true)):=hid ⟨by
    refine⟨bH,.inr ⟨w.heap.size,m,_,bH,zxa _,A,?_,?_,?_,?_⟩⟩
    ·simp
    ·unfold maxLen;omega
    ·simp
    ·simp,fun b' V=>by simp[Value.ownBlock] at V;omega⟩
   have HB:=hid hB;clear r A hB y;go_wp2;go_ret;exact⟨_,rfl,HR.out,HB.out⟩
theorem Uf(W:aC.dw)(hl:W.length<=1000)(Y:∀r∈W,r.length<=1000000)(v:Value)(T:Nat->Prop)(w:World)(D:bK T w v W):
  CP 27 #[v] w fun e Z=>∃g,e=.returned (.slice (some ⟨g,0,none⟩) W.length W.length)/\pu (w.heap.size<=·) Z (.slice (some ⟨g,0,none⟩) W.length W.length) (nX W)/\BL w Z:=by
 obtain⟨sx,cs,rfl,E, -, -⟩:=D.form;have HV:=hid D;have HW:=hid Y;clear D Y;have o:=fun X=>oQ (P:=prog) (t:=70) (e:=121) (b:=24) zK zK aD W.length aD X;obtain⟨n,F⟩:=bJ W.length;rw[<-F] at E o hl ⊢;have HN:=hid F;clear F;go_enter func27,ntmps27;go_wp2;clear o;obtain⟨g0,f⟩:=bJ w.heap.size;have Rv:Hid (pu (w.heap.size<=·) (w.alloc (.cells (gM n) 121)) (.slice (some ⟨g0,0,none⟩) n n) (List.replicate n [])):=hid (by rw[f];exact GP w _ aD);rw[<-f];clear f;go_loopw [11] (fun G wr=>∃(k:Nat) (a:Sub.S),k<=n/\G=.int .i64 k/\Hid (a.length=n)/\Hid (∀j,j<k->a[j]?=(nX W)[j]?)/\Hid (pu (w.heap.size<=·) wr (.slice (some ⟨g0,0,none⟩) n n) a)/\Hid (BL w wr)) (fun G _=>n-(intOf G).toNat);case atStart=>exact⟨0,List.replicate n [],zxa _,rfl,hid bH,hid (fun j h=>absurd h aD),Rv,hid (aG.alloc aL _)⟩
 case round=>
  obtain⟨k,a,hk,rfl,p,HX,HO,HB⟩:=hrel;obtain⟨l,rfl⟩:=bJ (wr:World);by_cases hlt:k<n
  ·have aa:(0:Int)<=k:=by omega
   have ab:(k:Int)<n:=aD
   have i:k<W.length:=Nv
   have q:k<a.length:=by rw[p.out];exact hlt
   obtain⟨u,hu,hz,hr⟩:=eA.at (by rw[HN.out];exact HV.out.keep (aH.below HB.out):bK T l (.slice sx n cs) W) i;obtain⟨ar,cr,rfl, -, -, -⟩:=hr.form;obtain⟨m,C⟩:=bJ (W[k].length);have H:m<=1000000:=by rw[C];exact HW.out _ (eV i)
   rw[<-C] at hu;have s:Hid ((nX W)[k]?=some (List.replicate m true)):=hid (by unfold nX;rw[alY,lN i,C];rfl);clear C;obtain⟨w1,hw1⟩:=bJ (l.alloc (.cells #[.bool true] 4));have y:BL l w1:=Cx
   have GR:=hid (O5 m H l.heap.size w1 (by rw[hw1];exact(one_cell (bD _ _ rfl)).1));have bL:=hid y;have I:=hid hw1;clear hw1 y;have J:=HO.out;rw[show (Value.slice (some ⟨g0,0,none⟩) n n)=.slice (some ⟨g0,0,none⟩) a.length n by rw[p.out]] at J;obtain⟨g,ad,uu,TT,e1,e2,e3,Np,K,L,Bm,E3, -,c⟩:=jv.borrow gW J k q
   have M:g0=g:=by
    exact Dp
   subst M;have Rw:=hid (fun w2 u'=>c w2 u' (List.replicate m true));have N:=hid E3;have O:=hid Np;clear e1 e2 e3 Bm E3 c K L J hr Np;generalize z:List.replicate m true=r at*;have A:r.length=m:=by rw[<-z];simp
   have Ct:=hid A;clear z A;go_wp2_with fail;rw[<-I.out];refine GR.out.mono ?_;rintro e w2 ⟨x,rfl,hx,d⟩;obtain⟨Q,R,rfl, -, -, -⟩:=(ku.sl hx).form;have B:BL l w2:=bO bL.out d;have ae:=bL.out.size;obtain⟨k1,k2,k3,k4⟩:=Rw.out w2 (.slice Q r.length R) (Turns.bg B) (gW.mono hx (fun b _ (d:w1.heap.size<=b)=>.inr (show l.heap.size<=b by omega)))
   have rV:Hid (pu (w.heap.size<=·) (w2.setCell ⟨g0,k,none⟩ (.slice Q r.length R)) (.slice (some ⟨g0,0,none⟩) n n) (a.set k r)):=hid (by
    have:=gB.mono k3 (fun b _ d=>eE HB.out.size b d)
    rw[p.out] at this
    exact this)
   have pX:Hid (BL w (w2.setCell ⟨g0,k,none⟩ (.slice Q r.length R))):=hid (HB.out.trans (k4.below HB.out.size (fun b d=>by
    rcases d with d|d
    ·exact(N.out b d).1
    ·rw[d];exact O.out)))
   have U:Hid (∀j,j<k+1->(a.set k r)[j]?=(nX W)[j]?):=hid (fun j hj=>by
    by_cases e:j=k
    ·subst e;rw[List.getElem?_set_self aD,s.out]
    ·rw[List.getElem?_set_ne aD];exact HX.out j aD)
   have V:Hid ((a.set k r).length=n):=hid (by rw[zxl];exact p.out);have af:dV (some ⟨g0,0,none⟩) n:=fun _=>⟨_,_,rfl⟩;clear k3 k4 hx d B Rw s HX q;go_wp2;go_roundw;case rel=>exact⟨k+1,a.set k r,aD,zG,V,U,rV,pX⟩
   exact zI
  ·obtain rfl:n=k:=by omega
   have HE:Hid (a=nX W):=hid (List.ext_getElem? (fun j=>by
    by_cases hj:j<n
    ·exact HX.out j hj
    ·rw[zxr (by rw[p.out];omega),zxr (by simp only[nX,sM];rw[<-HN.out];omega)]))
   exact amk
theorem gq{W:aC.dw}{k:Nat}(h:k<W.length):W[k].length<=aC.total W:=by
 have a:=si W (k+1);rw[yh h] at a;simp only[aC.total,zxj,List.sum_append,zxt,List.map_nil,List.sum_cons,List.sum_nil] at a ⊢;omega
theorem LK(W:aC.dw)(u:Int):aC.gK W u<=aC.total W:=by
 unfold aC.gK;by_cases h:u.toNat<W.length
 ·rw[Sub.bh h];exact gq h
 ·rw[Sub.yM aD];exact zxa _
theorem O6{W:aC.dw}{k i j:Nat}(a:k<W.length)(b:i<W[k].length)(c:j<W[k][i].length):bU.wM W k i j=W[k][i][j]:=by
 unfold bU.wM;rw[Sub.bh a,Sub.bh b,Sub.bh c]
theorem wS.aju{S S':Nat->Prop}{B:Nat}{e:TypeId}{w:World}{v:Value}{xs:List bU.Ref}(h:dX 4 OV S B e w v xs):dX 4 OV S' B e w v xs:=by
 obtain⟨d,f,g,i,k⟩:=h;refine⟨d,f,g,i,fun j a b=>?_⟩;have c:=k j a b;unfold OV at c ⊢;exact c
theorem ad4(h:p:=by
  refine gF ?_
  refine aZ rfl ?_
  go_wp2_with fail
  refine aN (fun V=>Turns (·=w5.heap.size) wr V) (fun _ h=>h) Wm.out ?_
  refine gF ?_
  refine bG ?_
  try simp only[jW,jH]
  clear O7 O8 hqc hqd
  go_wp2
  go_roundw
  case rel=>exact⟨i+1,aD,zG,vR,O9⟩
  exact zI):p:=h
theorem Ug(x:aC.cE)(W:aC.dw)(s:Sub.S)(n:bU.jE x W)(hsh:W.map List.length=s.map List.length)(v u t:Value)(S T U:Nat->Prop)(w:World)(hv:dO S w v x)(hW:bK T w u W)(hs:nU U w t s):
  CP 60 #[v,u,t] w fun e w'=>∃B0 B1 B2,e=.returned (.pointer (some ⟨B2+1,0,none⟩))/\StV B0 B1 B2 512 (bU.fS x) W s w'/\w.heap.size<=B0/\BL w w':=by
 obtain⟨ak,ck,al,cl,ar,cr,rfl, -⟩:=hv.form;have RB:=bK.mono (S':=(·<w.heap.size)) hW (fun b c _=>c);have N:=n.len;have bS:=n.ah;have an:s.length=W.length:=abv
 have Pa:Hid (∀k (p:k<W.length) (o:k<s.length),s[k].length=W[k].length):=hid (fun k p o=>by
  have:=congrArg (fun l=>l[k]?) hsh;have e:W[k].length=s[k].length:=by simpa [p,o] using this
  exact e.symm)
 have Uh:Hid (∀k (p:k<W.length),W[k].length<=512):=hid (fun k p=>by
  have o:=aC.Tb p [];have h3:=n.tot;have h4:W[k].length<=aC.total W:=gq p;omega)
 obtain⟨w1,A⟩:=bJ (bSx w x ak al ar ck cl cr);have bL:=yL A;have bd:=bF (show w1.heap[w.heap.size]?=some (.cells (sBx x ak al ar ck cl cr) 27 (0,0)) by rw[A];exact jt ..);delta bSx fJ at A;have be:=hid A;clear A;obtain⟨⟨Z,y1,y2,y3⟩, -⟩:=bd
 have DE:=hid (Lz x n.ah (fun k hk=>by
  obtain⟨j,hj,rfl⟩:=zxf hk;rw[<-dH hj];exact n.aF j) _ S w1 (hv.keep (aH.below bL.out)))
 have bf:=hid (fun X (hX:BL w X)=>Bl s aD (fun r hr=>by
  obtain⟨j,hj,rfl⟩:=zxf hr;have:=Pa.out j aD hj;have:=Uh.out j aD;omega) t U X (hs.keep (aH.below hX)))
 obtain⟨aw,cw,rfl,bV, -, -⟩:=RB.form;obtain⟨sx,cs,rfl,bW, -, -⟩:=hs.form;have rS:=hid N;have ZE:=hid an;have BZ:=hid (nU.mono (S':=(·<w.heap.size)) hs (fun b c _=>c));clear N an hsh hW hv hs;have bX:= @run_makeMap prog;go_enter func60,ntmps60;go_upto_region 1 with fail;rw[<-be.out];go_wp2_with fail;refine DE.out.mono ?_;rintro e w2 ⟨y,cq,rs,rfl,bB,ao,aa,ab⟩;have qC:=(wS.aju (S':=fun _=>False) aa).sl dL (T:=fun b=>w1.heap.size<=b/\b<w2.heap.size) (fun b _ h=>h.elim) (fun b c=>aa.lt b c);have f9:Hid (BL w1 w2):=hid ab;have cH:=aR bL ab;have bY:dV y rs.length:=by obtain⟨_,_,e,g, -⟩:=qC.form;cases e;exact g
 have Ng:=hid ao;clear aa ab ao Z y1 y2 y3;go_wp2_with fail;refine(bf.out w2 cH.out).mono ?_;rintro e w3 ⟨gs,rfl,ap,K⟩;have au:=hid (gB.mono (S':=fun b=>w2.heap.size<=b/\b<w3.heap.size) ap (fun b B c=>⟨c,B⟩));have av:=hid (fC.keep dL qC (aH.below K));have cN:=aR cH K;have ZF:=hid (RB.keep (aH.below cN.out));have ax:=K.size;have bi:=f9.out.size;have ay:=bL.out.size;clear ap qC RB K;obtain⟨w4,C⟩:=bJ ((w3.alloc (.map #[] 0)).alloc (.cells #[.slice y rs.length cq,.slice aw W.length cw,.slice (some ⟨gs,0,none⟩) s.length s.length,.map (some w3.heap.size)] 172));have kJ:Hid (Below w3.heap.size w3 w4):=hid (by rw[C];exact(aG.alloc aL _).alloc bH _);have az:Hid (w4.heap[w3.heap.size+1]?=some (.cells #[.slice y rs.length cq,.slice aw W.length cw,.slice (some ⟨gs,0,none⟩) s.length s.length,.map (some w3.heap.size)] 172 (0,0))):=hid (by rw[C];exact bD _ _ bH)
 have Ru:Hid (pK w4 w3.heap.size []):=hid (by rw[C];exact(pK.made w3).keep (by
  have:w3.heap.size<(w3.alloc (.map #[] 0)).heap.size:=bH
  exact(aG.alloc aL _).block _ this))
 have Fy:=hid C;clear C;obtain⟨x0,x1,x2,x3⟩:=b4z az.out;go_upto_region 2 with fail;rw[<-Fy.out];go_wp2;clear x0 x1 x2 x3;go_loopw [25] (fun rr wr=>∃(r:Nat) (f:List Nat),r<=rs.length/\rr=.int .i64 r/\Hid (f.length=r)/\Hid (pK wr w3.heap.size f)/\Hid f.Nodup/\Hid (∀b∈f,w3.heap.size+2<=b)/\Hid (∀k (h:k<f.length) (o:k<rs.length),gD wr f[k] 512 (lJ W s rs[k]))/\Hid (wr.heap[w3.heap.size+1]?=some (.cells #[.slice y rs.length cq,.slice aw W.length cw,.slice (some ⟨gs,0,none⟩) s.length s.length,.map (some w3.heap.size)] 172 (0,0)))/\Hid (BL w3 wr)) (fun rr _=>rs.length-(intOf rr).toNat);case atStart=>exact⟨0,[],zxa _,rfl,hid rfl,Ru,hid List.nodup_nil,hid (fun _ h=>absurd h bH),hid (fun k h=>absurd h bH),az,kJ⟩
 case round=>
  obtain⟨r,f,hr,rfl,O,HO,aA,Cq,Wn,Wp,P⟩:=hrel;by_cases B:r<rs.length
  ·have hr0:=zN r
   have bZ:=zL r rs.length
   have kM:=aR cN P.out;obtain⟨-,us,FA,D,TU⟩:=fC.at (fC.keep dL av.out (aH.bg P.out (fun b c=>by have h:=c.2;omega))) B;obtain rfl:us=_:=TU;have Z:wr.cell? ⟨bM y,bT y+r*4,none⟩=some (.int .i64 (rs[r].kind:Int)):=D 0 _ rfl;have y1:wr.cell? ⟨bM y,bT y+r*4+1,none⟩=some (.int .i64 (rs[r].field:Int)):=D 1 _ rfl;have y2:wr.cell? ⟨bM y,bT y+r*4+2,none⟩=some (.int .i64 rs[r].up):=D 2 _ rfl;have y3:wr.cell? ⟨bM y,bT y+r*4+3,none⟩=some (.int .i64 rs[r].least):=D 3 _ rfl;have E:rs[r]∈bU.fS x:=by rw[<-Ng.out];exact eV B
   obtain⟨q1,q2,q3,q4,q5,q6, -, -⟩:=n.refs _ E;have xL:=hid (n.lead _ E);have Fz:Hid (rs[r]?=some rs[r]):=hid (lN B);clear D FA E;have aB:=hid (fun(X:World) (hX:∀k (h:k<f.length),X.heap[f[k]]?=wr.heap[f[k]]?) k (h:k<f.length) (o:k<rs.length)=>(Wn.out k h o).keep (hX k h));generalize aE:rs[r]=rf at*;obtain⟨rk,d,ru,rl⟩:=rf;simp only at Z y1 y2 y3 q1 q2 q3 q4 q5 q6 xL;obtain⟨m,rfl⟩:∃m:Nat,ru=(m:Int):=⟨ru.toNat,aD⟩;have aK:=hid aE;clear aE;obtain⟨w5,hw⟩:=bJ (wr.alloc (.cells #[.int .i64 (rk:Int),.int .i64 (d:Int),.int .i64 (m:Int),.int .i64 rl] 174));have qf:Hid (w5.heap[wr.heap.size]?=some (.cells #[.int .i64 (rk:Int),.int .i64 (d:Int),.int .i64 (m:Int),.int .i64 rl] 174 (0,0))):=hid ahT;have jZ:BL wr w5:=R7
   have EU:=hid hw;clear hw;have bE:=hid jZ;go_upto_region 5 with fail;rw[<-EU.out];clear Z y1 y2 y3;obtain⟨w6,hw⟩:=bJ (w5.alloc (.map #[] 0));have oH:BL wr w6:=by rw[hw];exact jZ.alloc jZ.size _
   have fH:Hid (gD w6 w5.heap.size 0 (fun _ _=>0)):=hid (by rw[hw];exact gD.made w5);have Wq:=hid (HO.out.keep (oH.block _ HO.out.lt));have G:=Wq.out.store (by rw[O.out];omega) w5.heap.size;rw[O.out] at G;obtain⟨w7,Q,aM,qz⟩:=G;have x3:w5.cell? ⟨w3.heap.size+1,3,none⟩=some (.map (some w3.heap.size)):=aP ((jZ.block _ (aI Wp.out)).trans Wp.out) 3;rw[hw] at Q;go_upto_region 6 with fail;have aO:BL w5 w6:=R7
   have bj:wr.heap.size<w5.heap.size:=by rw[EU.out];simp
   have bl:w5.heap.size<w6.heap.size:=Sr
   have b0:=qz.size;have OB:=aI Wp.out;have OW:=hid aM;have ad:BL w3 w6:=bO P.out oH;have xO:Hid (BL w3 w7):=hid (ad.trans (qz.below ad.size (fun b c=>Nat.le_of_eq c.symm)));have jb:=aR cN xO.out;have KM:Hid (∀b,b<wr.heap.size->b≠w3.heap.size->w7.heap[b]?=wr.heap[b]?):=hid (fun b p o=>(qz.block b o aD).trans (oH.block b p));have ae:Hid (w7.heap[wr.heap.size]?=some (.cells #[.int .i64 (rk:Int),.int .i64 (d:Int),.int .i64 (m:Int),.int .i64 rl] 174 (0,0))):=hid ((qz.block wr.heap.size (show ¬wr.heap.size=w3.heap.size by omega) aD).trans ((aO.block _ bj).trans qf.out));have pJ:Hid (gD w7 w5.heap.size 0 (oI W s ⟨rk,d,(m:Int),rl⟩ 0)):=hid (by rw[T9];exact fH.out.keep (qz.block w5.heap.size (show ¬w5.heap.size=w3.heap.size by omega) bl));have aQ:Hid (w7.heap[w3.heap.size+1]?=some (.cells #[.slice y rs.length cq,.slice aw W.length cw,.slice (some ⟨gs,0,none⟩) s.length s.length,.map (some w3.heap.size)] 172 (0,0))):=hid ((KM.out _ OB aD).trans Wp.out);have R:rk<W.length:=by rw[rS.out];exact q1
   have L:rk<s.length:=by rw[ZE.out];exact R
   have b1:=zN rk
   have b2:=zL rk W.length
   have b3:=zL rk s.length
   obtain⟨uk,Ye,bI,H⟩:=(ZF.out.keep (aH.bg xO.out (fun b c=>by have h':b<w.heap.size:=c;omega))).at R;obtain⟨ua,uc,rfl,bm, -, -⟩:=H.form;obtain⟨bk,aS,aT,qZ⟩:=(BZ.out.keep (aH.below jb.out)).at L;obtain⟨ba,bc,rfl,bn, -, -⟩:=qZ.form;have Ze:=hid H;have bo:Hid (bM sx<w.heap.size):=hid (by obtain⟨_,_,h0,_⟩:=BZ.out.at L;exact h0);have aU:=hid qZ;have Ct:Hid (s[rk].length=W[rk].length):=hid (Pa.out rk R L);have aV:W[rk].length<=512:=Uh.out rk R;have FD:Hid (∀i (h:i<W[rk].length),d<W[rk][i].length):=hid (fun i h=>by rw[n.lX rk R _ (eV h)];exact q2)
   have aW:Hid (∀i (h:i<W[rk].length),vH (bU.wM W rk i d)):=hid (fun i h=>by
    have p:=xL.out i R h;have o:=LK W (m:Int);have h3:=n.tot;exact⟨aD,aD⟩)
   have aX:vH (m:Int):=by have:=n.ah;exact⟨aD,aD⟩
   have Ui:=hid aX;clear H qZ aX n;obtain⟨Z,y1,y2,y3⟩:=b4z ae.out;obtain⟨nr,qg⟩:=bJ (W[rk].length);obtain⟨nb,af⟩:=bJ (s[rk].length);rw[<-qg] at Ze Ct aV bm Ye;rw[<-af] at aU Ct bn aS;have Cr:=hid qg;have bp:=hid af;clear qg af hw qz aM Q oH aO ad;go_wp2;clear Z y1 y2 y3;generalize Lx:wr=Wb at*;go_loopw [42] (fun ii wq=>∃i:Nat,i<=nr/\ii=.int .i64 i/\Hid (gD wq w5.heap.size i (oI W s ⟨rk,d,(m:Int),rl⟩ i))/\Hid (Turns (·=w5.heap.size) w7 wq)) (fun ii _=>nr-(intOf ii).toNat);case atStart=>exact⟨0,zxa _,rfl,pJ,hid (Turns.refl _ _)⟩
   case round=>
    obtain⟨i,hi,rfl,I,z⟩:=hrel;have Y:Hid (∀b,b<w7.heap.size->b≠w5.heap.size->wr.heap[b]?=w7.heap[b]?):=hid (fun b p o=>z.out.block b o p);by_cases hit:i<nr
    ·have b4:=zN i
     have b5:=zL i nr
     have b6:(i:Int)<(nb:Int):=by have:=Ct.out;omega
     have ox:i<W[rk].length:=by have:=Cr.out;omega
     have aY:i<s[rk].length:=by have:=bp.out;have:=Ct.out;omega
     obtain⟨ui,b7,bN,E5⟩:=(cG.keep Ze.out (z.out.keep (fun b c e=>by have p:b<w.heap.size:=c;have o:b=w5.heap.size:=e;omega))).at ox;obtain⟨ia,ic,rfl,b8, -, -⟩:=E5.form;have b9:=zN d
     have ca:(d:Int)<(W[rk][i].length:Int):=by have:=FD.out i ox;omega
     obtain⟨uv,cb,bP,a0⟩:=E5.at (FD.out i ox);obtain rfl:uv=_:=a0;obtain⟨ub,cc,bQ,a1⟩:=(pq.keep aU.out (z.out.keep (fun b c e=>by have p:b<w.heap.size:=c;have o:b=w5.heap.size:=e;omega))).at aY;obtain rfl:ub=_:=a1;have ag:bU.wM W rk i d=W[rk][i][d]:=O6 R ox (FD.out i ox);have Uj:Hid (vH (W[rk][i][d])):=hid (by rw[<-ag];exact aW.out i ox);have J2:Hid (Sub.keeps s rk i=s[rk][i]):=hid (by unfold Sub.keeps;rw[Sub.bh L,Sub.bh aY])
     have xJ:Hid (s[rk][i]=false->gD wr w5.heap.size (i+1) (oI W s ⟨rk,d,(m:Int),rl⟩ (i+1))):=hid (fun h=>by
      rw[acn (r:=⟨rk,d,(m:Int),rl⟩) (by rw[J2.out];exact h)];exact I.out.mono aD)
     have B6:Hid (s[rk][i]=true->oI W s ⟨rk,d,(m:Int),rl⟩ (i+1)=FC (oI W s ⟨rk,d,(m:Int),rl⟩ i) (m:Int) (W[rk][i][d]) (oI W s ⟨rk,d,(m:Int),rl⟩ i (m:Int) (W[rk][i][d])+1)):=hid (fun h=>by
      rw[Zy (r:=⟨rk,d,(m:Int),rl⟩) (by rw[J2.out];exact h),ag])
     have J:=hid ((Y.out _ (aI ae.out) aD).trans ae.out);have a2:=hid ((Y.out _ (aI aQ.out) aD).trans aQ.out);have br:=hid (OW.out.keep (Y.out _ aD aD))
     have bt:Hid (∀X,Turns (·=w5.heap.size) wr X->X.cell? ⟨bM ia,bT ia+d,none⟩=some (.int .i64 W[rk][i][d])):=hid (fun X hX=>by
      obtain⟨u,e,h⟩:=E5.vG (FD.out i ox);rw[h X (hX.keep (fun b c e=>by have p:b<w.heap.size:=c;have o:b=w5.heap.size:=e;omega)),show u=_ from e])
     clear E5 ag J2;generalize W[rk][i][d]=v at*;generalize W[rk][i].length=ln at*;generalize s[rk][i]=kp at*;obtain⟨Z,y1,y2,y3⟩:=b4z J.out;have bR:wr.cell? ⟨bM sx,bT sx+rk,none⟩=some (.slice ba nb bc):=(al1 (w:=w7) (a:=⟨bM sx,bT sx+rk,none⟩) (Y.out (bM sx) aT (by have:=bo.out;omega))).trans aS;cases kp with
     |false=>
      have Fx:=hid (xJ.out rfl)
      clear xJ B6
      go_wp2
      go_roundw
      case rel=>exact⟨i+1,aD,zG,Fx,z⟩
      exact zI
     |true=>
      have HY:=hid (B6.out rfl)
      clear xJ B6
      obtain⟨F,hF⟩:=bJ (oI W s ⟨rk,d,(m:Int),rl⟩ i)
      rw[<-hF] at HY I
      have M:0<=F (m:Int) v/\F (m:Int) v<=i:=by rw[hF];exact DI ..
      clear hF
      obtain⟨fc,ai⟩:=bJ (F (m:Int) v)
      rw[<-ai] at HY M
      have cd:=M.1
      have ce:=M.2
      have a3:=hid ai
      clear M ai
      go_upto_region 10 with fail
      have O7:∀q:Held (fun V=>Turns (·=w5.heap.size) wr V),q.1.cell? ⟨w3.heap.size+1,3,none⟩=some (.map (some w3.heap.size)):=fun q=>(bF ((q.2.block _ (show ¬w3.heap.size+1=w5.heap.size by omega) (aI a2.out)).trans a2.out)).1.2.2.2
      have O8:∀q:Held (fun V=>Turns (·=w5.heap.size) wr V),q.1.cell? ⟨Wb.heap.size,1,none⟩=some (.int .i64 (d:Int)):=fun q=>(bF ((q.2.block _ (show ¬Wb.heap.size=w5.heap.size by omega) (aI J.out)).trans J.out)).1.2.1
      have hqc:∀q:Held (fun V=>Turns (·=w5.heap.size) wr V),q.1.cell? ⟨Wb.heap.size,2,none⟩=some (.int .i64 (m:Int)):=fun q=>(bF ((q.2.block _ (show ¬Wb.heap.size=w5.heap.size by omega) (aI J.out)).trans J.out)).1.2.2.1
      have hqd:∀q:Held (fun V=>Turns (·=w5.heap.size) wr V),q.1.cell? ⟨bM ia,bT ia+d,none⟩=some (.int .i64 v):=fun q=>bt.out q.1 q.2
      refine bq 18 (.quiet 0 (.quiet 4 (.quiet 6 (.quiet 7 (.quiet 8 (.quiet 9 (.quiet 10 (.quiet 11 (.quiet 12 (.quiet 13 (.one 1 (.quiet 2 (.quiet 3 (.one 5 (.two 14 16 (.quiet 15 (.one 16 (.quiet 17 .done))) (.quiet 17 (.one 14 (.quiet 15 .done)))))))))))))))))) (fun V=>Turns (·=w5.heap.size) wr V) nK zK (Turns.bg (aJ aG 1)) ?_
      have JW:Hid (Turns (·=w5.heap.size) wr (wr.drewN 1)):=hid (Turns.bg (aJ aG 1))
      have wR:Hid (gD (wr.drewN 1) w5.heap.size i F):=hid (I.out.keep rfl)
      have Ba:Hid (pK (wr.drewN 1) w3.heap.size (f++[w5.heap.size])):=hid (br.out.keep rfl)
      generalize wr.drewN 1=w8 at*
      obtain⟨jZ,e5⟩:∃h:r<(f++[w5.heap.size]).length,(f++[w5.heap.size])[r]=w5.heap.size:=by
       have:=O.out;subst this;exact⟨bH,bH⟩
      have bu:=Ba.out.look jZ aD
      rw[e5] at bu
      have a4:=wR.out.look Ui.out Uj.out
      rw[<-a3.out] at a4
      unfold vG at a4
      obtain⟨v0,st,w9,bv,a5,Pb,G⟩:=wR.out.entry aD Ui.out Uj.out
      unfold vG at bv
      have a6:=a5.look Ui.out Uj.out
      rw[<-a3.out] at a6
      unfold vG at a6
      have a7:vH (fc+1):=⟨aD,aD⟩
      obtain⟨mL,ZG,ZH,ZI⟩:=G w9 (fc+1) a7 rfl
      have cf:(Instr.entryStore 175 (.map (some w5.heap.size)) (.int .i64 (st:Int)) (.int .i64 (fc+1))).run prog w9=.ok () mL:=ZG
      clear ZG
      have Wm:=hid (JW.out.trans Pb)
      have O9:Hid (Turns (·=w5.heap.size) w7 mL):=hid (z.out.trans (Wm.out.trans ZI))
      have vR:Hid (gD mL w5.heap.size (i+1) (oI W s ⟨rk,d,(m:Int),rl⟩ (i+1))):=hid (by rw[HY.out];exact ZH)
      clear jZ e5 a5 Pb G ZH ZI a7
      iterate 10 refine gF ?_
      refine aZ rfl ?_
      go_wp2_with fail
      refine aN (fun V=>Turns (·=w5.heap.size) wr V) (fun _ h=>h) JW.out ?_
      iterate 2 refine gF ?_
      refine aZ rfl ?_
      go_wp2_with fail
      refine aN (fun V=>Turns (·=w5.heap.size) wr V) (fun _ h=>h) JW.out ?_
      refine fP rfl rfl ?_ ?_
      ·go_wp2_with fail
       refine aN (fun V=>Turns (·=w5.heap.size) wr V) (fun _ h=>h) JW.out ?_;exact ad4
      ·go_wp2_with fail
       refine aN (fun V=>Turns (·=w5.heap.size) wr V) (fun _ h=>h) Wm.out ?_;exact ad4
    ·obtain rfl:nr=i:=by omega
     have a8:=Y;have a9:BL w3 wr:=xO.out.trans (z.out.below xO.out.size (fun b c=>by have o:b=w5.heap.size:=c;have:=P.out.size;omega));have lP:=hid a9;have aj:Hid (∀b,b<Wb.heap.size->b≠w3.heap.size->wr.heap[b]?=Wb.heap[b]?):=hid (fun b p o=>(Y.out b aD aD).trans (KM.out b p o));have bw:Hid (wr.heap[w3.heap.size+1]?=some (.cells #[.slice y rs.length cq,.slice aw W.length cw,.slice (some ⟨gs,0,none⟩) s.length s.length,.map (some w3.heap.size)] 172 (0,0))):=hid ((aj.out _ OB aD).trans Wp.out);have bx:Hid (pK wr w3.heap.size (f++[w5.heap.size])):=hid (OW.out.keep (Y.out _ aD aD))
     have am:Hid (∀b∈f,b<Wb.heap.size):=hid (fun b c=>by
      obtain⟨k,hk,rfl⟩:=zxf c;exact(Wn.out k hk (by have:=O.out;omega)).lt)
     have bz:Hid (f++[w5.heap.size]).Nodup:=hid (List.nodup_append.2 ⟨aA.out,bH,fun a ha b c e=>by
      rw[nL] at c;have:=am.out a ha;omega⟩)
     have BU:Hid (∀b∈f++[w5.heap.size],w3.heap.size+2<=b):=hid (fun b c=>by
      rcases zxx.1 c with c|c
      ·exact Cq.out b c
      ·rw[nL] at c
       omega)
     have pQ:Hid ((f++[w5.heap.size]).length=r+1):=hid (by rw[rK,O.out];rfl)
     have bb:Hid (∀k (h:k<(f++[w5.heap.size]).length) (o:k<rs.length),gD wr (f++[w5.heap.size])[k] 512 (lJ W s rs[k])):=hid (fun k h o=>by
      by_cases hk:k<f.length
      ·have:=aB.out wr (fun k h=>aj.out _ (am.out _ (eV h)) (by have:=Cq.out _ (eV h);omega)) k hk o
       rw[Xi hk];exact this
      ·have bA:k=r:=by have:=pQ.out;have:=O.out;omega
       subst bA
       have e1:(f++[w5.heap.size])[k]=w5.heap.size:=by
        have:=O.out;subst this;simp
       rw[e1,aK.out];have h3:=I.out.mono (m:=512) aV;unfold lJ;rw[show (W.getD rk []).length=nr by rw[Sub.bh R,Cr.out]];exact h3)
     clear a8 a9 Wn aB I z Y aj am;go_wp2;go_roundw;case rel=>exact⟨r+1,f++[w5.heap.size],aD,zG,pQ,bx,bz,BU,bb,bw,lP⟩
     exact zI
  ·obtain rfl:rs.length=r:=by omega
   go_wp2;go_ret;refine⟨w1.heap.size,w2.heap.size,w3.heap.size,rfl,?_,ay,bO cN.out P.out⟩;rw[<-Ng.out];exact⟨bi,ax,⟨y,cq,aw,cw,gs,Wp.out,fC.keep dL av.out (aH.bg P.out (fun b c=>by have h:=c.2;omega)),(bK.mono ZF.out (fun b _ h=>show b<w1.heap.size by have h':b<w.heap.size:=h;omega)).keep (aH.bg P.out (fun b c=>by have h':b<w1.heap.size:=c;omega)),gB.keep au.out (aH.bg P.out (fun b c=>c.2))⟩,⟨f,HO.out,O.out,aA.out,Cq.out,Wn.out⟩⟩
theorem pV{w:World}{F:Nat}{a b:Value}{t:TypeId}(h:w.heap[F]?=some (.cells #[a,b] t (0,0))):
  (w.cell? ⟨F,0,none⟩=some a/\w.cell? ⟨F,1,none⟩=some b)/\∀i,w.frozen? ⟨F,i,none⟩=false:=
 ⟨⟨aP h 0,aP h 1⟩,fM h⟩
theorem adD(h:p:=by
  iterate 2
   go_wp2
   go_quiet (fail)
  go_wp2
  go_roundw
  case rel=>exact⟨j+1,aD,zG,acq,hid ah1⟩
  exact zI):p:=h
theorem Uk(x:aC.cE)(W:aC.dw)(s:Sub.S)(g:bU.jE x W)(hsh:W.map List.length=s.map List.length)(B0 B1 q n:Nat)(k i:Nat)(Q:k<W.length)(T:i<W[k].length)(w:World)(h:StV B0 B1 q n (bU.fS x) W s w):
  CB 109 #[.pointer (some ⟨q+1,0,none⟩),.agg #[.int .i64 (k:Int),.int .i64 (i:Int)]] w (.bool (bU.wrong (bU.fS x) W s k i)):=by
 have U:=g.refs;have t:=g.lead;have X:=g.lX;have wK:=g.tot;have aP:=g.ah;have C:=g.len;obtain⟨u,cr,aw,cw,gs,za,qC,RB,Y⟩:=h.box;obtain⟨G,ho,Z, -, -,H⟩:=h.maps;have ZJ:=pu.sl Y;have aQ:=h.Ua;have ZK:=h.b12;have aS:=g.many;clear h g;generalize bU.fS x=rs at*;have Nb:q+1<w.heap.size:=aI za;have aa:s.length=W.length:=abv
 have Pa:Hid (∀k (D:k<W.length) (E:k<s.length),s[k].length=W[k].length):=hid (fun k D E=>by
  have:=congrArg (fun l=>l[k]?) hsh;have e:W[k].length=s[k].length:=by simpa [D,E] using this
  exact e.symm)
 have Uh:Hid (∀k (D:k<W.length),W[k].length<=512):=hid (fun k D=>by
  have h4:W[k].length<=aC.total W:=gq D;omega)
 obtain⟨ao,co,eo,yp, -, -⟩:=qC.form;cases eo;obtain⟨aT,aU,ew,aV, -, -⟩:=RB.form;cases ew;obtain⟨aW,aX,es,aY, -, -⟩:=ZJ.form;cases es;obtain⟨w1,hw1⟩:=bJ (w.alloc (.cells #[.int .i64 (k:Int),.int .i64 (i:Int)] 177));have bL:Hid (Below w.heap.size w w1):=hid Cx;have E6:Hid (w1.heap[w.heap.size]?=some (.cells #[.int .i64 (k:Int),.int .i64 (i:Int)] 177 (0,0))):=hid J7;have r:Hid (∀V,BL w V->V.heap[q+1]?=some (.cells #[.slice u rs.length cr,.slice aw W.length cw,.slice (some ⟨gs,0,none⟩) s.length s.length,.map (some q)] 172 (0,0))):=hid (fun V o=>(o.block _ Nb).trans za);have ai:Hid (∀V,BL w V->GK (fun b=>B0<=b/\b<B1) V (.slice u rs.length cr) rs):=hid (fun V o=>fC.keep dL qC (aH.below o));have ZF:Hid (∀V,BL w V->bK (·<B0) V (.slice aw W.length cw) W):=hid (fun V o=>RB.keep (aH.below o));have aj:Hid (∀V,BL w V->nU (fun b=>B1<=b/\b<q) V (.slice (some ⟨gs,0,none⟩) s.length s.length) s):=hid (fun V o=>ZJ.keep (aH.below o));have ak:Hid (∀V,BL w V->pK V q G):=hid (fun V o=>ho.keep (o.block _ aD));have al:Hid (∀V,BL w V->∀j (h:j<G.length) (E:j<rs.length),gD V G[j] n (lJ W s rs[j])):=hid (fun V o j h E=>(H j h E).keep (o.block _ (H j h E).lt));have am:=hid hw1;have rS:=hid C;have ZE:=hid aa;have vQ:=hid Z;have GA:=hid hsh;have DE:=hid U;have xL:=hid t;have FD:=hid X;have I:w.heap.size<w1.heap.size:=J6
 have a2:=zN k
 have a3:=zN i
 clear hw1 C aa Z hsh U t X ho H ZJ RB qC Y za;obtain⟨x0,x1,x2,x3⟩:=b4z (r.out w1 bL.out);go_enter func109,ntmps109;go_upto_region 1 with fail;rw[<-am.out];go_wp2;clear x0 x1 x2 x3;go_loopw [12] (fun jj wr=>∃j:Nat,j<=rs.length/\jj=.int .i64 j/\Hid ((rs.take j).any (bU.Dl W s k i)=false)/\Hid (BL w1 wr)) (fun jj _=>rs.length-(intOf jj).toNat);case atStart=>exact⟨0,zxa _,rfl,hid bH,hid aG⟩
 case round=>
  obtain⟨j,hj,rfl,xJ,nJ⟩:=hrel;have kM:=aR bL nJ.out;by_cases hlt:j<rs.length
  ·have a4:=zN j
   have a5:=zL j rs.length
   obtain⟨-,us,FA,y,TU⟩:=fC.at (ai.out wr kM.out) hlt;obtain rfl:us=_:=TU;have y0:wr.cell? ⟨bM u,bT u+j*4,none⟩=some (.int .i64 (rs[j].kind:Int)):=y 0 _ rfl;have y1:wr.cell? ⟨bM u,bT u+j*4+1,none⟩=some (.int .i64 (rs[j].field:Int)):=y 1 _ rfl;have y2:wr.cell? ⟨bM u,bT u+j*4+2,none⟩=some (.int .i64 rs[j].up):=y 2 _ rfl;have y3:wr.cell? ⟨bM u,bT u+j*4+3,none⟩=some (.int .i64 rs[j].least):=y 3 _ rfl;have p:rs[j]∈rs:=eV hlt;obtain⟨q1,q2,q3,q4,q5,q6, -, -⟩:=DE.out _ p;have an:=hid (xL.out _ p);have R:Hid ((rs.take (j+1)).any (bU.Dl W s k i)=bU.Dl W s k i rs[j]):=hid (by rw[yh hlt,List.any_append,xJ.out];simp);have ZL:Hid (bU.Dl W s k i rs[j]=true->bU.wrong rs W s k i=true):=hid (fun h=>List.any_eq_true.2 ⟨_,p,h⟩);have ap:Hid (∀V,BL w V->gD V (G[j]' Sh) n (lJ W s rs[j])):=hid (fun V o=>al.out V o j _ hlt);clear y FA p;generalize rs[j]=rf at*;obtain⟨rk,f,ru,rl⟩:=rf;simp only at y0 y1 y2 y3 q1 q2 q3 q4 q5 q6;obtain⟨m,rfl⟩:∃m:Nat,ru=(m:Int):=⟨ru.toNat,aD⟩;obtain⟨w5,hw⟩:=bJ (wr.alloc (.cells #[.int .i64 (rk:Int),.int .i64 (f:Int),.int .i64 (m:Int),.int .i64 rl] 174));have A:Hid (w5.heap[wr.heap.size]?=some (.cells #[.int .i64 (rk:Int),.int .i64 (f:Int),.int .i64 (m:Int),.int .i64 rl] 174 (0,0))):=hid ahT;have kY:Hid (Below w1.heap.size w1 w5):=hid Ik;have B:=aR bL kY.out;have EU:=hid hw;clear hw;go_upto_region 4 with fail;rw[<-EU.out];clear y0 y1 y2 y3;obtain⟨y0,y1,y2,y3⟩:=b4z A.out;obtain⟨x0,x1,x2,x3⟩:=b4z (r.out w5 B.out);obtain⟨⟨a0,a1⟩, -⟩:=pV ((kY.out.block _ I).trans E6.out);have F:Hid (bU.Dl W s k i ⟨rk,f,(m:Int),rl⟩=((decide (rk=k)&& !Sub.keeps s m (bU.wM W k i f).toNat)||(decide ((m:Int)=k)&&decide ((bU.Ri W s ⟨rk,f,(m:Int),rl⟩ i:Int)<rl)))):=hid rfl;by_cases J:rk=k
   ·subst J
    have VP:m<W.length:=by have:=rS.out;omega
    have K:m<s.length:=by rw[ZE.out];exact VP
    have a6:=zN m
    have a7:=zL m s.length
    have a8:=zL rk W.length
    obtain⟨uk,Ye, -,z⟩:=(ZF.out w5 B.out).at Q;obtain⟨ua,uc,rfl,a9, -, -⟩:=z.form;obtain⟨ui,bb, -,E5⟩:=z.at T;obtain⟨ia,ic,rfl,bd, -, -⟩:=E5.form;have Ul:f<W[rk][i].length:=by rw[FD.out rk Q _ (eV T)];exact q2
    obtain⟨uv,aq, -,rfl⟩:=E5.at Ul;have L:bU.wM W rk i f=W[rk][i][f]:=O6 Q T Ul;have t:0<=bU.wM W rk i f/\bU.wM W rk i f<aC.gK W (m:Int):=an.out i Q T;rw[L] at t;obtain⟨bk,au, -,qZ⟩:=(aj.out w5 B.out).at K;obtain⟨ba,bc,rfl,be, -, -⟩:=qZ.form;rw[fK,fL,zxn] at au
    have av:aC.gK W (m:Int)=s[m].length:=by
     rw[Pa.out m VP K];unfold aC.gK;rw[zxk,Sub.bh VP]
    obtain⟨v,hv⟩:∃v:Nat,W[rk][i][f]=(v:Int):=⟨W[rk][i][f].toNat,aD⟩;have M:v<s[m].length:=aD
    obtain⟨ub,bf, -,rfl⟩:=qZ.at M;have J2:Hid (Sub.keeps s m (bU.wM W rk i f).toNat=s[m][v]):=hid (by unfold Sub.keeps;rw[L,hv,zxk,Sub.bh K,Sub.bh M]);have bg:=zN v
    have bi:(v:Int)<(s[m].length:Int):=aD
    have bl:=zN f
    have bm:(f:Int)<(W[rk][i].length:Int):=aD
    have bn:(i:Int)<(W[rk].length:Int):=aD
    rw[hv] at aq;have bo:=hid T;have bp:=hid Q;clear z E5 qZ L t av hv;generalize s[m][v]=kp at*;clear M;generalize s[m].length=ns at*;generalize W[rk][i].length=ln at*;cases kp with
    |false=>
     have N:Hid (bU.wrong rs W s rk i=true):=hid (ZL.out (by rw[F.out,J2.out];simp))
     clear F J2 R ZL
     go_wp2
     go_quiet (fail)
     go_wp2
     go_ret
     exact⟨by rw[N.out];rfl,aJ B.out _⟩
    |true=>
     have O:¬(m:Int)=(rk:Int):=aD
     have acq:Hid ((rs.take (j+1)).any (bU.Dl W s rk i)=false):=hid (by rw[R.out,F.out,J2.out];simp[O])
     clear F J2 R ZL
     exact adD
   ·have br:¬(rk:Int)=(k:Int):=by omega
    by_cases O:(m:Int)=(k:Int)
    ·obtain rfl:m=k:=by omega
     obtain⟨lf,P⟩:=bJ (bU.Ri W s ⟨rk,f,(m:Int),rl⟩ i);have ZM:Hid (bU.Dl W s m i ⟨rk,f,(m:Int),rl⟩=decide ((lf:Int)<rl)):=hid (by rw[F.out,P];simp[J])
     have JX:Hid (∀V,BL w V->(Instr.lookup 175 (.map (some (G[j]' Sh))) (.agg #[.int .i64 (m:Int),.int .i64 (i:Int)]) false).run prog V=.ok (.int .i64 (lf:Int)) V):=hid (fun V o=>by
      have D:=(ap.out V o).look (a:=(m:Int)) (c:=(i:Int)) ⟨aD,aD⟩ ⟨aD,by have:=Uh.out m Q;omega⟩;have E:lJ W s ⟨rk,f,(m:Int),rl⟩ (m:Int) (i:Int)=(lf:Int):=by rw[P];unfold lJ oI bU.Ri;rw[if_pos rfl]
      rw[E] at D;exact D)
     have ax:Hid (∀V,BL w V->(Instr.lookup 170 (.map (some q)) (.int .i64 (j:Int)) false).run prog V=.ok (.map (some (G[j]' Sh))) V):=hid (fun V o=>(ak.out V o).look Sh aD);clear P F;generalize (G[j]' Sh)=bj at*;go_wp2;go_quiet (fail);go_upto_region 6 with fail;have bt:=kY.out.size;have ab:=eC w5 ⟨q+1,0,none⟩ (.slice u rs.length cr) fun d=>(bF (r.out d.1 (bO B.out d.2))).1.1;have ay:=eC w5 ⟨q+1,1,none⟩ (.slice aw W.length cw) fun d=>(bF (r.out d.1 (bO B.out d.2))).1.2.1;have az:=eC w5 ⟨q+1,2,none⟩ (.slice (some ⟨gs,0,none⟩) s.length s.length) fun d=>(bF (r.out d.1 (bO B.out d.2))).1.2.2.1;have aA:=eC w5 ⟨q+1,3,none⟩ (.map (some q)) fun d=>(bF (r.out d.1 (bO B.out d.2))).1.2.2.2;have ad:=eC w5 ⟨wr.heap.size,0,none⟩ (.int .i64 (rk:Int)) fun d=>(bF ((d.2.block _ (aI A.out)).trans A.out)).1.1;have aB:=eC w5 ⟨wr.heap.size,1,none⟩ (.int .i64 (f:Int)) fun d=>(bF ((d.2.block _ (aI A.out)).trans A.out)).1.2.1;have aE:=eC w5 ⟨wr.heap.size,2,none⟩ (.int .i64 (m:Int)) fun d=>(bF ((d.2.block _ (aI A.out)).trans A.out)).1.2.2.1;have ae:=eC w5 ⟨wr.heap.size,3,none⟩ (.int .i64 rl) fun d=>(bF ((d.2.block _ (aI A.out)).trans A.out)).1.2.2.2;have ZN:=eC w5 ⟨w.heap.size,0,none⟩ (.int .i64 (m:Int)) fun d=>(pV ((d.2.block _ (show w.heap.size<w5.heap.size by omega)).trans ((kY.out.block _ I).trans E6.out))).1.1;have ZO:=eC w5 ⟨w.heap.size,1,none⟩ (.int .i64 (i:Int)) fun d=>(pV ((d.2.block _ (show w.heap.size<w5.heap.size by omega)).trans ((kY.out.block _ I).trans E6.out))).1.2;refine bq 16 (.quiet 0 (.quiet 1 (.quiet 2 (.quiet 3 (.quiet 4 (.quiet 5 (.quiet 6 (.quiet 10 (.quiet 12 (.quiet 14 (.quiet 15 (.one 7 (.quiet 8 (.quiet 9 (.one 11 (.one 13 .done)))))))))))))))) (BL w5) nK zK (aJ (aJ aG _) 1) ?_;generalize af:World.drewN _ 1=w8;have wR:Hid (Below w5.heap.size w5 w8):=hid (by rw[<-af];exact aJ (aJ aG _) 1);clear af;have ou:=aR B wR.out;have aF:=aR kY wR.out;have aK:=ax.out w8 ou.out;have aM:=JX.out w8 ou.out;clear x0 x1 x2 x3 y0 y1 y2 y3 a0 a1
     iterate 11 refine gF ?_
     refine aZ rfl ?_;go_wp2_with fail;refine aN (BL w5) (fun _ h=>h) wR.out ?_
     iterate 2 refine gF ?_
     iterate 2
      refine aZ rfl ?_
      go_wp2_with fail
      refine aN (BL w5) (fun _ h=>h) wR.out ?_
     refine bG ?_;try simp only[jW,jH]
     clear ab ay az aA ad aB aE ae ZN ZO aK aM;by_cases ag:(lf:Int)<rl
     ·have N:Hid (bU.wrong rs W s m i=true):=hid (ZL.out (by rw[ZM.out];exact decide_eq_true ag))
      go_wp2;go_ret;exact⟨by rw[N.out];rfl,ou.out⟩
     ·have acq:Hid ((rs.take (j+1)).any (bU.Dl W s m i)=false):=hid (by rw[R.out,ZM.out];exact decide_eq_false ag)
      go_wp2;go_roundw;case rel=>exact⟨j+1,aD,zG,acq,aF⟩
      exact zI
    ·have ZM:Hid (bU.Dl W s k i ⟨rk,f,(m:Int),rl⟩=false):=hid (by rw[F.out];simp[J,O])
     have acq:Hid ((rs.take (j+1)).any (bU.Dl W s k i)=false):=hid (by rw[R.out,ZM.out]);clear F ZM R ZL
     exact adD
  ·obtain rfl:rs.length=j:=by omega
   have aO:Hid (bU.wrong rs W s k i=false):=hid (by have:=xJ.out;rw[zxw] at this;exact this);go_wp2;go_ret;exact⟨by rw[aO.out];rfl,kM.out⟩
structure DN(B0 B1 B2 M n:Nat)(rs:List bU.Ref)(W:aC.dw)(s:Sub.S)(w:World):Prop where
 Ua:B0<=B1
 b12:B1<=B2
 b2m:B2+2<=M
 box:∃ar cr aw cw gs,w.heap[B2+1]?=some (.cells #[.slice ar rs.length cr,.slice aw W.length cw,.slice (some ⟨gs,0,none⟩) s.length s.length,.map (some B2)] 172 (0,0))/\
  GK (fun b=>B0<=b/\b<B1) w (.slice ar rs.length cr) rs/\bK (·<B0) w (.slice aw W.length cw) W/\pu (fun b=>B1<=b/\b<B2) w (.slice (some ⟨gs,0,none⟩) s.length s.length) s
 maps:∃bs:List Nat,pK w B2 bs/\bs.length=rs.length/\bs.Nodup/\(∀b∈bs,B2+2<=b/\b<M)/\∀k (h:k<bs.length) (h2:k<rs.length),gD w bs[k] n (lJ W s rs[k])
theorem DN.toV{a c d M n:Nat}{rs:List bU.Ref}{W:aC.dw}{s:Sub.S}{w:World}(h:DN a c d M n rs W s w):StV a c d n rs W s w where
 Ua:=h.Ua
 b12:=h.b12
 box:=h.box
 maps:=by
  obtain⟨e,f,g,i,j,k⟩:=h.maps;exact⟨e,f,g,i,fun b l=>(j b l).1,k⟩
theorem StV.toD{c d e n:Nat}{rs:List bU.Ref}{W:aC.dw}{s:Sub.S}{w:World}(h:StV c d e n rs W s w):DN c d e w.heap.size n rs W s w where
 Ua:=h.Ua
 b12:=h.b12
 b2m:=by
  obtain⟨p,q,r,t,u,a, -⟩:=h.box;exact aI a
 box:=h.box
 maps:=by
  obtain⟨i,a,j,l,m,f⟩:=h.maps;refine⟨i,a,j,l,fun b g=>⟨m b g,?_⟩,f⟩;obtain⟨k,o,rfl⟩:=zxf g;exact(f k o aD).lt
theorem DN.zb{j o f M n:Nat}{rs:List bU.Ref}{W:aC.dw}{s:Sub.S}{w w':World}(h:DN j o f M n rs W s w)(d:aH (·<M) w w'):DN j o f M n rs W s w' where
 Ua:=h.Ua
 b12:=h.b12
 b2m:=h.b2m
 box:=by
  have z:=h.Ua;have A:=h.b12;have q:=h.b2m;obtain⟨r,t,u,v,x,e,l,m,g⟩:=h.box;refine⟨r,t,u,v,x,?_,fC.keep dL l (fun b i c=>d b (by have:=i.2;show b<M;omega) c),m.keep (fun b (i:b<j) c=>d b (by show b<M;omega) c),gB.keep g (fun b i c=>d b (by have:=i.2;show b<M;omega) c)⟩;rw[d _ (by show f+1<M;omega) (aI e)];exact e
 maps:=by
  have q:=h.b2m;obtain⟨y,e,l,m,g,p⟩:=h.maps;exact⟨y,e.keep (d _ (by show f<M;omega) e.lt),l,m,g,fun k a b=>(p k a b).keep (d _ (g _ (eV a)).2 (p k a b).lt)⟩
theorem DN.mono{c d e M n m:Nat}{rs:List bU.Ref}{W:aC.dw}{s:Sub.S}{w:World}(h:DN c d e M n rs W s w)(f:n<=m):DN c d e M m rs W s w where
 Ua:=h.Ua
 b12:=h.b12
 b2m:=h.b2m
 box:=h.box
 maps:=by
  obtain⟨g,i,j,l,o,p⟩:=h.maps;exact⟨g,i,j,l,o,fun k a b=>(p k a b).mono f⟩
theorem aY.ajD{A:Nat->Obj->Prop}{n0 M:Nat}{w w':World}(h:aY A n0 w w')(hA:∀b o,b<M->¬A b o):aH (·<M) w w':=fun b d a=>by
 have c:w.heap[b]?=some w.heap[b]:=zxi a;rw[c,h.2 b _ c (hA b _ d)]
theorem aY.eX{A:Nat->Obj->Prop}{n0:Nat}{S:Nat->Prop}{w w':World}(h:Turns S w w')(c:n0<=w.heap.size)(h0:∀b,S b->n0<=b)(hA:∀b o,S b->w.heap[b]?=some o->A b o):aY A n0 w w':=
 ⟨h.below c h0,fun b o a d=>(h.block b (fun e=>d (hA b o e a)) (aI a)).trans a⟩
theorem gD.obj{w:World}{b n:Nat}{f:Int->Int->Int}(h:gD w b n f){o:Obj}(a:w.heap[b]?=some o):¬book o:=by
 obtain⟨D,⟨d,clock,c, -⟩, -⟩:=h;rw[c] at a;cases a;simp[book]
theorem xR(W:aC.dw)(s:Sub.S)(r:bU.Ref)(k i:Nat)(c:Int):∀n,bU.uy W (Sub.drop s k i) r c n+(if r.kind=k/\i<n/\Sub.keeps s k i=true/\bU.wM W k i r.field=c then 1 else 0)=bU.uy W s r c n
 |0=>by simp[bU.uy]
 |n+1=>by
  have a:=xR W s r k i c n;rw[sy,sy,Sub.o9];by_cases e:r.kind=k/\n=i
  ·obtain⟨rfl,rfl⟩:=e
   rw[if_neg aD] at a;have d:n<n+1:=aD
   cases hk:Sub.keeps s r.kind n<;>simp[d]<;>omega
  ·have f:(decide (r.kind=k)&&decide (n=i))=false:=by simpa using e
   rw[f];by_cases b:r.kind=k
   ·have g:n≠i:=fun h=>e ⟨b,h⟩
    have j:(i<n+1)↔i<n:=aD
    simp only[j];simp only[Bool.not_false,Bool.and_true];omega
   ·simp only[b,false_and,if_false] at a ⊢
    simp only[Bool.not_false,Bool.and_true];omega
theorem Jc{W:aC.dw}{s:Sub.S}{r:bU.Ref}{k i:Nat}(h:r.kind≠k):lJ W (Sub.drop s k i) r=lJ W s r:=by
 funext a c;unfold lJ oI;have:=xR W s r k i c (W.getD r.kind []).length;rw[if_neg (by simp[h]),Nat.add_zero] at this;rw[this]
theorem FE{W:aC.dw}{s:Sub.S}{r:bU.Ref}{k i:Nat}(h:r.kind=k)(e:i<(W.getD k []).length)(f:Sub.keeps s k i=true):
  lJ W (Sub.drop s k i) r=FC (lJ W s r) r.up (bU.wM W k i r.field) (lJ W s r r.up (bU.wM W k i r.field)-1):=by
 subst h;funext a c;unfold FC lJ oI;have:=xR W s r r.kind i c (W.getD r.kind []).length;by_cases b:a=r.up
 ·subst b
  by_cases d:c=bU.wM W r.kind i r.field
  ·subst d
   rw[if_pos ⟨rfl,e,f,rfl⟩] at this;rw[if_pos rfl,if_pos ⟨rfl,rfl⟩,if_pos rfl];omega
  ·rw[if_neg (fun h=>d h.2.2.2.symm),Nat.add_zero] at this
   rw[if_pos rfl,if_neg (fun h=>d h.2),if_pos rfl,this]
 ·rw[if_neg b,if_neg (fun h=>b h.1),if_neg b]
end Go.Proofs.YtohddpbgflgiaaaGreatDoor
