/- Part 14 of the walks and plain laws that the proof needs (packed). -/
import Derived.WalkMore
import Derived.Test.YtobgljfnfpolkaaGreatDoorCards
import Derived.Test.YtobgljfnfpolkaaGreatDoorTie
import Derived.WalkKit
import Derived.ProofKit
import Derived.OpenShut
import Derived.Deep.DeepHandedRow
import Derived.Lib.LaidTab
import Derived.Stop.LaidErr
import Derived.MakeChecks
import Derived.LaidMore
import Derived.LaidSub
import Derived.Maps.OwnSet
import Derived.Test.YtobgljfnfpolkaaGreatDoorQ5
import Derived.Test.YtobgljfnfpolkaaGreatDoorQ6
import Derived.Test.YtobgljfnfpolkaaGreatDoorQ9
import Derived.Test.YtobgljfnfpolkaaGreatDoorQ10
import Derived.Test.YtobgljfnfpolkaaGreatDoorQ11
import Derived.Test.YtobgljfnfpolkaaGreatDoorQ13
set_option linter.all false
set_option maxRecDepth 100000
set_option maxHeartbeats 8000000
namespace Go.Proofs.YtobgljfnfpolkaaGreatDoor
open Go.RowKit
theorem l9{P:Program}{t:TypeId}{bytes:Nat}{w:World}{ops:Array Oper}{rest:List Oper}{o:Oper}{a:Act}{Q:Exit->Act->World->Prop}(hgd:o.guard=none)(s x:Operand)
  (ho:o.op=.call {callee:=.builtin .append,args:=#[s,x],argTypes:=#[t,t]})(hT:jt P t 45 1 bytes)
  {B:Nat}{E:Nat->Prop}{v:Value}{xs:List Sub.S}(hs:a.eval s=v)(hown:cW B E w v xs)
  {u:Value}{g:Nat}(hx:a.eval x=.slice (some ⟨g,0,none⟩) 1 1)(hcell:w.cell? ⟨g,0,none⟩=some u)(y:Sub.S)(hu:aP (fun b=>E b/\v.ownBlock≠some b) w u y)(h1:u.oneCell'=true)
  (hsmall:xs.length+1<=1000000000)(hB:B<=w.heap.size)
  (h:∀v' w',cW B E w' v' (xs++[y])->Turns (fun b=>v.ownBlock=some b) w w'->(∀b,v'.ownBlock=some b->v.ownBlock=some b\/w.heap.size<=b)->wpList P ops Q rest (a.put o.dst v') w'):
  wpList P ops Q (o::rest) a w:=by
 obtain⟨us,h2,h3,h4⟩:=hown;refine gB hgd s x ho hT hs h2 _ 1 1 hx (fun _=>⟨_,_,rfl⟩) [u] rfl (fun j u' hj=>?_) (by simpa using h1) hsmall hB (fun v' w' g1 g2 g3=>?_)
 ·obtain rfl:j=0:=by
   have:=(List.getElem?_eq_some_iff.1 hj).1
   simpa using this
  obtain rfl:u=u':=by simpa using hj
  exact hcell
 have hT:=Turns.eT (S:=fun b=>v.ownBlock=some b) g2 fun b hb'=>hb';refine h v' w' ⟨us++[u],by simpa using g1,by simp[h3],fun j k1 k2=>?_⟩ hT (fun b hb=>?_);rotate_left
 ·rcases g3 with g3|g3
  ·exact .inl (g3▸hb)
  ·rw[g3] at hb
   have h8:=zSi hb;exact .inr (by omega)
 have keep:∀{u y},aP (fun b=>E b/\v.ownBlock≠some b) w u y->aP (fun b=>E b/\v'.ownBlock≠some b) w' u y:=fun h=>by
  have:=aP.mono (S':=fun b=>(E b/\v.ownBlock≠some b)/\b<w.heap.size) h (fun b hb hE=>⟨hE,hb⟩);refine aP.mono (aP.keep this (hT.keep (fun b hb=>hb.1.2))) (fun b _ hb=>⟨hb.1.1,?_⟩);rcases g3 with g3|g3
  ·rw[g3];exact hb.1.2
  ·rw[g3];intro e
   have h8:=zSi e;have h9:=hb.2;omega
 by_cases hj:j<us.length
 ·rw[zAl hj,zAl (by omega)]
  exact keep (h4 j hj (by omega))
 ·simp at k1
  obtain rfl:j=us.length:=by omega
  simp only[zAr aB,Nat.sub_self,List.getElem_cons_zero];rw[zAr (by omega)];simp[h3];exact keep hu
structure D5(N bc:Nat)(um uc:Value)(sm:List Sub.S)(cs:List Int)(X:World):Prop where
 subs:cW (bc+1) (fun b=>N<=b/\b<bc) X um sm
 ints:cF (fun b=>bc+1<=b/\um.ownBlock≠some b) X uc cs
theorem D5.kept{N bc:Nat}{um uc:Value}{sm:List Sub.S}{cs:List Int}{X Y:World}(h:D5 N bc um uc sm cs X)(hk:∀b,b<X.heap.size->b≠bc->Y.heap[b]?=X.heap[b]?):D5 N bc um uc sm cs Y:=
 ⟨h.subs.kept fun b hb h2=>hk b hb (h2.elim (fun e=>by have:=(h.subs.lt b e).1;omega) (fun e=>by show b≠bc;have:b<bc:=e.2;omega)),bg.keep h.ints fun b hb hl=>hk b hl (by have:=hb.1;omega)⟩
theorem D5.next{N bc:Nat}{um uc:Value}{sm:List Sub.S}{cs:List Int}{X Y:World}(h:D5 N bc um uc sm cs X)(hb:BL X Y):D5 N bc um uc sm cs Y:=h.kept fun b hl _=>hb.block b hl
theorem D5.Zf{N bc:Nat}{um um' uc:Value}{sm:List Sub.S}{cs:List Int}{s:Sub.S}{X Y:World}(h:D5 N bc um uc sm cs X)(h1:cW (bc+1) (fun b=>N<=b/\b<bc) Y um' (sm++[s]))(ht:Turns (fun b=>um.ownBlock=some b) X Y)(hn:∀b,um'.ownBlock=some b->um.ownBlock=some b\/X.heap.size<=b):D5 N bc um' uc (sm++[s]) cs Y:=by
 refine⟨h1,?_⟩;have h2:=bg.mono (S':=fun b=>(bc+1<=b/\um.ownBlock≠some b)/\b<X.heap.size) h.ints (fun b hb hE=>⟨hE,hb⟩);have h3:=bg.keep h2 (ht.keep fun b hb=>hb.1.2);exact bg.mono h3 fun b _ hb=>⟨hb.1.1,fun e=>(hn b e).elim hb.1.2 (fun h=>by have:=hb.2;omega)⟩
theorem D5.Zg{N bc:Nat}{um uc uc':Value}{sm:List Sub.S}{cs cs':List Int}{X Y:World}{M:Nat}(h:D5 N bc um uc sm cs X)(hN:M=X.heap.size)(hb:bc+1<=M)(h1:cF (Grow (fun b=>bc+1<=b/\um.ownBlock≠some b) M) Y uc' cs')(ht:Turns (fun b=>some b=uc.ownBlock) X Y):D5 N bc um uc' sm cs' Y:=by
 refine⟨h.subs.kept fun b hl h2=>ht.block b (fun e=>?_) hl,bg.mono h1 fun b _ hb=>?_⟩
 ·have h3:=h.ints.2 b e.symm
  rcases h2 with h2|h2
  ·exact h3.2 h2
  ·have:b<bc:=h2.2
   omega
 ·rcases hb with hb|hb
  ·exact hb.1
  ·exact⟨by omega,fun e=>by have:=(h.subs.lt b e).2;omega⟩
theorem D5.turn{N bc:Nat}{um uc:Value}{sm:List Sub.S}{cs:List Int}{X Y:World}(h:D5 N bc um uc sm cs X)(hz:bc+1<=X.heap.size)(ht:Turns (fun b=>um.ownBlock=some b) X Y):Below (bc+1) X Y:=ht.below hz fun b hb=>(h.subs.lt b hb).1
theorem D5.QX{N bc:Nat}{um uc:Value}{sm:List Sub.S}{cs:List Int}{X Y:World}(h:D5 N bc um uc sm cs X)(hz:bc+1<=X.heap.size)(ht:Turns (fun b=>some b=uc.ownBlock) X Y):Below (bc+1) X Y:=ht.below hz fun b hb=>(h.ints.2 b hb.symm).1
theorem aF.D6{f:Sub.S->Int}{c:Int}{l:List Sub.S}(h:∀i (h:i<l.length),f l[i]≠c):aF.j4 f c l=none:=by
 unfold aF.j4;rw[List.findIdx?_eq_none_iff];intro s hs;obtain⟨i,hi,rfl⟩:=zMg.1 hs;simpa using h i hi
def KM:Value:=.agg #[.slice none 0 0,.int .i64 0,.slice none 0 0,.slice none 0 0]
theorem lI{w:World}{g:Nat}{x0 x1 x2 x3 e:Value}{tmps:Array Value}(h:w.heap[g]?=some (.cells #[x0,x1,x2,x3] 53 (0,0)))(hp:tmps[10]?=some (.pointer (some ⟨g,0,none⟩)))(hq:tmps[11]?=some e):
  (results Tryz.f20 tmps).run Tryz.prog w=.ok (.tuple #[.agg #[x0,x1,x2,x3],e]) w:=by
 obtain⟨⟨h0,h1,h2,h3⟩, -⟩:=aO h;simp[results,Tryz.results20,go_sem,hp,hq,h0,h1,h2,h3]
def Zh(N:Nat)(l:List Sub.S)(ge code:Int)(f:Sub.S->Int)(e:Ending)(w':World):Prop:=
 (ge≠0/\e=.returned (.tuple #[KM,.int .i64 ge]))\/(ge=0/\(code<1\/251<code)/\e=.returned (.tuple #[KM,.int .i64 5]))\/(ge=0/\(1<=code/\code<=251)/\400<l.length/\e=.returned (.tuple #[KM,.int .i64 4]))\/
 (ge=0/\(1<=code/\code<=251)/\l.length<=400/\aF.j4 f code l=none/\e=.returned (.tuple #[KM,.int .i64 6]))\/
 (ge=0/\(1<=code/\code<=251)/\l.length<=400/\∃m s,aF.j4 f code l=some m/\l[m]?=some s/\∃us um uc,e=.returned (.tuple #[.agg #[us,.int .i64 code,um,uc],.int .i64 0])/\aP (N<=·) w' us s/\cW N (N<=·) w' um (l.take m)/\cF (N<=·) w' uc ((l.take m).map f))
theorem BQ(x:ah.bD)(W:ah.bK)(l:List Sub.S)(hl:aF.iD x W l)(hok:ah.okB x=true)(hfit:aF.dF x W=true)(pq:W.length<=1000/\∀r∈W,r.length<=1000000)(htot:ah.total W<=100000)(hll:l.length<=100000)(jM:QW x W)
  (p:List Vm.Ins)(n:Int)(hn:sM n)(code:Int)(v u pv:Value)(tb B:Nat)(w:World)(ha:l6 tb x W v u B w)(hp:nG (·<B) w pv p):
  Calls Tryz.prog 20 #[v,u,pv,.int .i64 n,.int .i64 code] w fun e w'=>BL w w'/\Zh w.heap.size l (aF.l8 x W p n) code (aF.jI x W p n) e w':=by
 have Fq:=hid hl;have HLx:=hid hll;obtain⟨ak,ck,al,cl,ar,cr,rfl, -⟩:=ha.vY.form;obtain⟨aw,cw,rfl, -, -, -⟩:=ha.sG.form;obtain⟨ap,cp,rfl, -, -, -⟩:=hp.form;obtain⟨w1,hw1⟩:=nmE ((bE w x.af6 (.slice ak x.af3.length ck) (.slice al x.af7.length cl) (.slice ar x.af8.length cr)).alloc (.cells #[.slice none 0 0,.int .i64 0,.slice none 0 0,.slice none 0 0] 53));have aW:Hid (Below w.heap.size w w1):=hid (by rw[hw1];exact(aQ ..).alloc (by simp[bE]) _)
 have mO:Hid (∀X,BL w1 X->X.heap[w.heap.size]?=some (.cells #[.int .i64 x.af6,.slice ak x.af3.length ck,.slice al x.af7.length cl,.slice ar x.af8.length cr] 27 (0,0))/\X.heap[w.heap.size+1]?=some (.cells #[.slice none 0 0,.int .i64 0,.slice none 0 0,.slice none 0 0] 53 (0,0))):=hid (fun X hX=>by
  have e:∀{k o},w1.heap[k]?=some o->X.heap[k]?=some o:=fun h=>(hX.block _ (Array.getElem?_eq_some_iff.1 h).1).trans h;refine⟨e ?_,e ?_⟩
  ·rw[hw1];exact aG _ (bf ..)
  ·rw[hw1];exact aD _ _ (by simp[bE]))
 unfold bE at hw1;have HW1:=hid hw1;have R5:Hid (w.heap.size+1<w1.heap.size):=hid (by rw[hw1];simp);clear hw1;obtain⟨K,hK⟩:=nmE W.length;obtain⟨np,hnp⟩:=nmE p.length;have KG:=hid (fun(X:World) (hX:BL w X)=>sO x W p n hn hok hfit pq _ _ _ tb B X (ha.next hX) (hp.keep (aA.below hX)));have Ei:=hid (fun(X:World) (hX:BL w X)=>AF x W l hl hok hfit pq htot hll 400 (by omega) _ _ tb B X (ha.next hX));have zH:=hid (fun(X:World) (b:Nat) (s:Sub.S) (t:Value) (U:Nat->Prop) (hg:D4 tb x W p n B b X) (hs:s∈l) (hv:aP U X t s)=>sN x W p n hn s (f9 hok hfit ((hl.mem s).1 hs).1) ((hl.mem s).1 hs).2 jM t U tb B b X hg hv);have HSK:Hid (∀s∈l,s.length=K):=hid (fun s hs=>by rw[hK,((hl.mem s).1 hs).1.1];exact zLm _);rw[<-hK] at KG Ei ⊢;rw[<-hnp] at KG ⊢;have HK:=hid (And.intro hK hnp);have RA:Hid (∀(X:World) (ee:Int) (a0 a1 a2 a3:Value),X.heap[w.heap.size+1]?=some (.cells #[a0,a1,a2,a3] 53 (0,0))->(((((X.setCell ⟨w.heap.size+1,0,none⟩ (.slice none 0 0)).setCell ⟨w.heap.size+1,1,none⟩ (.int .i64 0)).setCell ⟨w.heap.size+1,2,none⟩ (.slice none 0 0)).setCell ⟨w.heap.size+1,3,none⟩ (.slice none 0 0)).heap[w.heap.size+1]?=some (.cells #[.slice none 0 0,.int .i64 0,.slice none 0 0,.slice none 0 0] 53 (0,0)))/\(BL w X->BL w ((((X.setCell ⟨w.heap.size+1,0,none⟩ (.slice none 0 0)).setCell ⟨w.heap.size+1,1,none⟩ (.int .i64 0)).setCell ⟨w.heap.size+1,2,none⟩ (.slice none 0 0)).setCell ⟨w.heap.size+1,3,none⟩ (.slice none 0 0)))):=hid (fun X ee a0 a1 a2 a3 h=>⟨(Ba h _ _ _ _).1,fun hb=>(((hb.setCell (by simp) _).setCell (by simp) _).setCell (by simp) _).setCell (by simp) _⟩);generalize hge:aF.l8 x W p n=ge at*;generalize hcf:aF.jI x W p n=cf at*;have HGE:=hid (And.intro hge hcf);clear hge hcf hK hnp ha hp hl hok hfit pq htot hll jM hn;obtain⟨⟨y0,y1,y2,y3⟩, -⟩:=aO (mO.out w1 aj).1;go_enter Tryz.func20,Tryz.ntmps20;go_upto_region 1 with fail;rw[<-HW1.out];go_wp2_with fail;refine(KG.out w1 aW.out).mono ?_;rintro e w2 ⟨hb2,hres⟩;have cU:Hid (BL w1 w2):=hid hb2;have bB:=bq aW hb2;clear hb2 y0 y1 y2 y3;obtain⟨⟨z0,z1,z2,z3⟩,zf⟩:=aO (mO.out w2 cU.out).2;have zf0:=zf 0;have zf1:=zf 1;have zf2:=zf 2;have zf3:=zf 3;clear zf;rcases hres with⟨Zi,rfl,BF⟩|⟨hge,rfl⟩;rotate_left
 ·have HGe:=hid hge
  have hge2:¬ge=0:=hge;clear hge;go_wp2;refine bodyPost_ret (lI (RA.out w2 0 _ _ _ _ (mO.out w2 cU.out).2).1 rfl rfl) rfl ⟨(RA.out w2 0 _ _ _ _ (mO.out w2 cU.out).2).2 bB.out,.inl ⟨HGe.out,rfl⟩⟩
 ·subst Zi
  by_cases hc1:code<1
  ·go_wp2
   refine bodyPost_ret (lI (RA.out w2 0 _ _ _ _ (mO.out w2 cU.out).2).1 rfl rfl) rfl ⟨(RA.out w2 0 _ _ _ _ (mO.out w2 cU.out).2).2 bB.out,.inr (.inl ⟨rfl,.inl hc1,rfl⟩)⟩
  by_cases hc2:251<code
  ·go_wp2
   refine bodyPost_ret (lI (RA.out w2 0 _ _ _ _ (mO.out w2 cU.out).2).1 rfl rfl) rfl ⟨(RA.out w2 0 _ _ _ _ (mO.out w2 cU.out).2).2 bB.out,.inr (.inl ⟨rfl,.inr hc2,rfl⟩)⟩
  have Vn:Hid (1<=code/\code<=251):=hid ⟨by omega,by omega⟩;have Mt:=hid BF;clear BF z0 z1 z2 z3 zf0 zf1 zf2 zf3;obtain⟨⟨y0,y1,y2,y3⟩, -⟩:=aO (mO.out w2 cU.out).1;go_wp2_with fail;refine(Ei.out w2 bB.out).mono ?_;rintro e w3 ⟨hb3,hres⟩;have dD:=bq cU hb3;have bG:=bq bB hb3;have Us:=hid (Mt.out.keep hb3);clear Mt hb3 y0 y1 y2 y3;rcases hres with⟨D3,la,lc,rfl,hrow⟩|⟨D3,rfl⟩;rotate_left
  ·obtain⟨⟨z0,z1,z2,z3⟩,zf⟩:=aO (mO.out w3 dD.out).2
   have zf0:=zf 0;have zf1:=zf 1;have zf2:=zf 2;have zf3:=zf 3;have Wi:=hid D3;clear zf D3;go_wp2;refine bodyPost_ret (lI (RA.out w3 0 _ _ _ _ (mO.out w3 dD.out).2).1 rfl rfl) rfl ⟨(RA.out w3 0 _ _ _ _ (mO.out w3 dD.out).2).2 bG.out,.inr (.inr (.inl ⟨rfl,Vn.out,Wi.out,rfl⟩))⟩
  obtain⟨hsl,hlc,hlm2⟩:dG la l.length/\l.length<=lc/\lc<=9223372036854775807:=by
   obtain⟨_,_,e,h1,h2,h3⟩:=hrow.form;cases e;exact⟨h1,h2,h3⟩
  obtain⟨nl,hnl⟩:=nmE l.length;rw[<-hnl] at hsl hlc D3 hrow ⊢;have hz2:=cU.out.size;have yp:=hid (hrow.mono (E':=(w1.heap.size<=·)) (fun b _ h=>Nat.le_trans hz2 h));have VF:=hid hnl;have Wi:=hid D3;obtain⟨w4,hw4⟩:=nmE (w3.alloc (.cells #[.slice none 0 0,.int .i64 code,.slice none 0 0,.slice none 0 0] 53));have acO:Hid (w4.heap[w3.heap.size]?=some (.cells #[.slice none 0 0,.int .i64 code,.slice none 0 0,.slice none 0 0] 53 (0,0))):=hid (by rw[hw4];exact aD _ _ rfl);have iQ:Hid (Below w3.heap.size w3 w4):=hid (by rw[hw4];exact aj.alloc aB _);have HZ4:Hid (w4.heap.size=w3.heap.size+1):=hid (by rw[hw4];simp);have zV:=hid hw4;clear hw4 hrow hnl D3 hz2;go_upto_region 10 with fail;rw[<-zV.out];go_wp2;clear zV;obtain⟨bc,hbc⟩:=nmE w3.heap.size;have Ge:=hid hbc;rw[<-hbc] at acO HZ4 iQ ⊢;clear hbc;go_loopw [52] (fun jj wr=>∃(j:Nat) (ma:Option Addr) (ml mc:Nat) (ca:Option Addr) (cl cc:Nat),j<=nl/\jj=.int .i64 (j:Int)/\Hid (D5 w1.heap.size bc (.slice ma ml mc) (.slice ca cl cc) (l.take j) ((l.take j).map cf) wr)/\Hid (wr.heap[bc]?=some (.cells #[.slice none 0 0,.int .i64 code,.slice ma ml mc,.slice ca cl cc] 53 (0,0)))/\Hid (∀i (h:i<l.length),i<j->cf l[i]≠code)/\Hid (Below bc w3 wr)) (fun jj _=>nl-(intOf jj).toNat);case atStart=>exact⟨0,none,0,0,none,0,0,Nat.zero_le _,rfl,hid ⟨cW.nil _ _ _,cF.nil _ _⟩,acO,hid (fun i _ h=>absurd h (by omega)),iQ⟩
  case round=>
   obtain⟨j,ma,ml,mc,ca,LM,cc,hj,rfl,HS,HBx,yd,iP⟩:=hrel;have ML:Hid (Below w3.heap.size w3 wr):=hid (by rw[<-Ge.out];exact iP.out);have iO:=bq dD ML.out;have FL:=bq bG ML.out;by_cases hlt:j<nl
   ·have hj0:(0:Int)<=(j:Int):=by omega
    have hj1:(j:Int)<(nl:Int):=by omega
    have hjl:j<l.length:=by rw[<-VF.out];exact hlt
    obtain⟨ul,uR,BR⟩:=yp.out.sl.lW hjl;have hmem:l[j]∈l:=zGm hjl;have Gt:Hid (l.take (j+1)=l.take j++[l[j]]):=hid (zTs hjl);have HJt:Hid (l[j]?=some l[j]):=hid (zEg hjl)
    have HJs:Hid (∀i (h:i<l.length),i<j+1->cf l[i]≠code\/l[i]=l[j]):=hid (fun i h hi=>by
     by_cases e:i=j
     ·subst e;exact .inr rfl
     ·exact .inl (yd.out i h (by omega)))
    have Kx:Hid (cf l[j]=code->aF.j4 cf code l=some j):=hid (fun h=>aF.Mf hjl h (fun i hi=>yd.out i (by omega) hi));have Wj:=HSK.out _ hmem;generalize l[j]=s at*;obtain⟨ga,gc,rfl, -, -, -⟩:=uR.form;rw[Wj] at uR BR;have x0:=BR wr (aA.below ML.out);have HUl:=hid (aP.mono (S':=fun b=>w1.heap.size<=b/\b<bc) uR (fun b hb h=>⟨h.1,by rw[Ge.out];exact hb⟩));have HUr:Hid (aP (fun b=>w1.heap.size<=b/\b<bc) wr (.slice ga K gc) s):=hid (aP.keep HUl.out (aA.below ML.out));have sU:=hid (zH.out wr _ s _ _ (Us.out.keep ML.out) hmem HUr.out);unfold Ur;clear uR BR hmem Wj;go_wp2_with fail;refine sU.out.mono ?_;rintro e w5 ⟨rfl,gL⟩;have qY:=hid (HS.out.next gL);have D7:Hid (w5.heap[bc]?=some (.cells #[.slice none 0 0,.int .i64 code,.slice ma ml mc,.slice ca LM cc] 53 (0,0))):=hid ((gL.block _ (ay HBx.out)).trans HBx.out);have dP:Hid (Below bc w3 w5):=hid (iP.out.trans (gL.mono (Nat.le_of_lt (ay HBx.out))));have HU5:Hid (aP (fun b=>w1.heap.size<=b/\b<bc) w5 (.slice ga K gc) s):=hid (aP.keep HUr.out (aA.below gL));have Zj:=bq FL gL;have fS:=bq iO gL;have hzc:=ay D7.out;clear gL x0 HUr sU HS HBx iP iO FL ML;by_cases hcs:cf s=code
    ·have HR:Hid (aF.j4 cf code l=some j):=hid (Kx.out hcs)
     obtain⟨⟨c0,c1,c2,c3⟩,cfr⟩:=aO D7.out;have cf0:=cfr 0;have hww:w.heap.size+1<bc:=by have h1:=R5.out;have h2:=dD.out.size;have h3:=Ge.out;omega
     have hwn:w.heap.size+1≠bc:=by omega
     obtain⟨w6,jf⟩:=nmE (w5.setCell ⟨bc,0,none⟩ (.slice ga K gc));have pM:Turns (·=bc) w5 w6:=by rw[jf];exact(Turns.refl _ _).setCell _ _ rfl
     have HBx6:Hid (w6.heap[bc]?=some (.cells #[.slice ga K gc,.int .i64 code,.slice ma ml mc,.slice ca LM cc] 53 (0,0))):=hid (by rw[jf];exact heap_setCell_same _ bc 0 _ _ _ D7.out);have HZr:Hid (w6.heap[w.heap.size+1]?=some (.cells #[.slice none 0 0,.int .i64 0,.slice none 0 0,.slice none 0 0] 53 (0,0))):=hid ((pM.block _ hwn (by omega)).trans (mO.out w5 fS.out).2);obtain⟨w7,hw7⟩:=nmE ((((w6.setCell ⟨w.heap.size+1,0,none⟩ (.slice ga K gc)).setCell ⟨w.heap.size+1,1,none⟩ (.int .i64 code)).setCell ⟨w.heap.size+1,2,none⟩ (.slice ma ml mc)).setCell ⟨w.heap.size+1,3,none⟩ (.slice ca LM cc));have hst:=Ba HZr.out (.slice ga K gc) (.int .i64 code) (.slice ma ml mc) (.slice ca LM cc);rw[<-hw7] at hst;have HR7:=hid hst.1;have AZ:Hid (∀b,b<w5.heap.size->b≠bc->b≠w.heap.size+1->w7.heap[b]?=w5.heap[b]?):=hid (fun b h1 h2 h3=>(hst.2.block b h3 (by have:=pM.size;omega)).trans (pM.block b h2 h1));have kN:Hid (BL w w7):=hid ((Zj.out.trans (pM.below Zj.out.size (fun b e=>by rw[e];omega))).trans (hst.2.below (by have:=pM.size;have:=Zj.out.size;omega) (fun b e=>by rw[e];omega)));have CT:=hid jf;have HW7:=hid hw7;clear jf hw7 hst pM cfr;obtain⟨⟨z0,z1,z2,z3⟩,zf⟩:=aO HZr.out;have zf0:=zf 0;have zf1:=zf 1;have zf2:=zf 2;have zf3:=zf 3;clear zf;obtain⟨⟨d0,d1,d2,d3⟩, -⟩:=aO HBx6.out;go_upto_region 16 with fail;rw[<-CT.out];go_wp2;rw[<-HW7.out];refine bodyPost_ret (lI HR7.out rfl rfl) rfl ⟨kN.out,.inr (.inr (.inr (.inr ⟨rfl,Vn.out,by rw[<-VF.out];exact Wi.out,j,s,HR.out,HJt.out,_,_,_,rfl,?_,?_,?_⟩)))⟩
     ·exact aP.mono (aP.keep HU5.out (fun b h hl=>AZ.out b hl (Nat.ne_of_lt h.2) (by have h1:=h.1;have h2:=R5.out;omega))) (fun b _ h=>by have h1:=h.1;have h2:=R5.out;show w.heap.size<=b;omega)
     ·exact((qY.out.subs.kept (fun b hl h=>AZ.out b hl (h.elim (fun e=>by have:=(qY.out.subs.lt b e).1;omega) (fun e=>Nat.ne_of_lt e.2)) (h.elim (fun e=>by have:=(qY.out.subs.lt b e).1;omega) (fun e=>by have h1:=e.1;have h2:=R5.out;omega)))).down (by omega)).mono (fun b _ h=>by have h1:=h.1;have h2:=R5.out;show w.heap.size<=b;omega)
     ·exact bg.mono (bg.keep qY.out.ints (fun b h hl=>AZ.out b hl (by have:=h.1;omega) (by have:=h.1;omega))) (fun b _ h=>by have h1:=h.1;show w.heap.size<=b;omega)
    ·have JF:Hid (∀i (h:i<l.length),i<j+1->cf l[i]≠code):=hid (fun i h hi=>(HJs.out i h hi).elim id (fun e=>by rw[e];exact hcs))
     have kW:(l.take j).length+1<=1000000000:=by rw[zLt];have:=HLx.out;omega
     have Zk:((l.take j).map cf).length+1<=1000000000:=by rw[zLm];exact kW
     have Qo:Hid (∀(X:World) (fa:Option Addr) (fl fc:Nat) (Wk:Option Addr) (Zl Wm:Nat),D5 w1.heap.size bc (.slice fa fl fc) (.slice Wk Zl Wm) (l.take j++[s]) ((l.take j).map cf++[cf s]) X->Below (bc+1) w5 X->
       D5 w1.heap.size bc (.slice fa fl fc) (.slice Wk Zl Wm) (l.take (j+1)) ((l.take (j+1)).map cf) ((X.setCell ⟨bc,2,none⟩ (.slice fa fl fc)).setCell ⟨bc,3,none⟩ (.slice Wk Zl Wm))/\((X.setCell ⟨bc,2,none⟩ (.slice fa fl fc)).setCell ⟨bc,3,none⟩ (.slice Wk Zl Wm)).heap[bc]?=some (.cells #[.slice none 0 0,.int .i64 code,.slice fa fl fc,.slice Wk Zl Wm] 53 (0,0))/\
       Below bc w3 ((X.setCell ⟨bc,2,none⟩ (.slice fa fl fc)).setCell ⟨bc,3,none⟩ (.slice Wk Zl Wm))):=hid (fun X fa fl fc Wk Zl Wm h1 h2=>by
      rw[Gt.out,List.map_append];refine⟨h1.kept (fun b hl hne=>(zBh _ ⟨bc,3,none⟩ _ b hne).trans (zBh _ ⟨bc,2,none⟩ _ b hne)),heap_setCell_same _ bc 3 _ _ _ (heap_setCell_same _ bc 2 _ _ _ ((h2.block bc (Nat.lt_succ_self _)).trans D7.out)),?_⟩;exact((dP.out.trans (h2.mono (Nat.le_succ _))).setCell (p:=⟨bc,2,none⟩) aB _).setCell (p:=⟨bc,3,none⟩) aB _)
     clear Gt Kx HJs;have xY:∀xh:Held (fun V=>Below (bc+1) w5 V),xh.1.cell? ⟨bc,2,none⟩=some (.slice ma ml mc):=fun xh=>(aO ((xh.2.block bc (Nat.lt_succ_self _)).trans D7.out)).1.2.2.1;have Px:∀xh:Held (fun V=>Below (bc+1) w5 V),xh.1.cell? ⟨bc,3,none⟩=some (.slice ca LM cc):=fun xh=>(aO ((xh.2.block bc (Nat.lt_succ_self _)).trans D7.out)).1.2.2.2;have hcs2:(cf s=code)=False:=eq_false hcs;go_upto_region 17 with fail;refine bF 11 (.quiet 0 (.quiet 1 (.quiet 2 (.quiet 5 (.quiet 6 (.quiet 7 (.two 3 8 (.two 4 8 (.quiet 10 (.one 8 (.one 9 .done))) (.one 4 (.quiet 10 (.one 9 .done)))) (.one 3 (.one 4 (.quiet 10 (.one 9 .done))))))))))) (fun V=>Below (bc+1) w5 V) mxT (by kernel_rfl) (af5 aj 1) ?_;have Ut:Hid (Below (bc+1) w5 (w5.drewN 1)):=hid (af5 aj 1);have Zm:=hid (qY.out.next (af5 aj 1));have acP:Hid (aP (fun b=>w1.heap.size<=b/\b<bc) (w5.drewN 1) (.slice ga K gc) s):=hid (aP.keep HU5.out (aA.below (af5 aj 1)));generalize w5.drewN 1=w8 at*
     iterate 6
      refine ai rfl ?_
      intro hne
      go_big_quiet_step (fail)
      refine zWq ?_
      clear hne
     refine dU rfl rfl ?_ ?_
     ·obtain⟨w9,hw⟩:=nmE (w8.alloc (.cells #[.slice ga K gc] 45))
      have AJ:Hid (Below (bc+1) w5 w9):=hid (by rw[hw];exact Ut.out.alloc (by have:=Ut.out.size;omega) _);have hba:BL w8 w9:=by rw[hw];exact aj.alloc aB _
      have D8:=hid (Zm.out.next hba);have QY:Hid (aP (fun b=>w1.heap.size<=b/\b<bc) w9 (.slice ga K gc) s):=hid (aP.keep acP.out (aA.below hba));have sR:Hid (w9.cell? ⟨w8.heap.size,0,none⟩=some (.slice ga K gc)):=hid (by rw[hw];exact(one_cell (aD _ _ rfl)).1);have Uu:bc+1<=w9.heap.size:=by have:=AJ.out.size;omega
      have QZ:=hid hw;clear hw hba Uu;go_wp2_with fail;rw[<-QZ.out];clear QZ;refine aC (fun V=>Below (bc+1) w5 V) (fun _ h=>h) AJ.out ?_;refine dU rfl rfl ?_ ?_
      ·have AL:bc+1<=w9.heap.size:=by have:=AJ.out.size;omega
       have Wn:Hid (aP (fun b=>(w1.heap.size<=b/\b<bc)/\(Value.slice ma ml mc).ownBlock≠some b) w9 (.slice ga K gc) s):=hid (aP.mono QY.out (fun b _ h=>⟨h,fun e=>by have h1:=(D8.out.subs.lt b e).1;have h2:=h.2;omega⟩));go_wp2_with (at_builtin;go_must (refine l9 rfl _ _ rfl Tryz.D1 rfl D8.out.subs rfl sR.out s Wn.out rfl kW AL ?_));intro v' gX hrow ht hnb;obtain⟨fa,fl,fc,rfl⟩:∃a l c,v'=.slice a l c:=by obtain⟨a,c,e, -⟩:=hrow.form;exact⟨_,_,_,e⟩
       have qy:=hid (D8.out.Zf hrow ht hnb);have nR:Hid (Below (bc+1) w5 gX):=hid (AJ.out.trans (D8.out.turn AL ht));have F4:=hid (aP.keep QY.out (ht.keep (fun b h e=>by have h1:=(D8.out.subs.lt b e).1;have h2:=h.2;omega)));clear hrow ht hnb AL Wn sR;go_wp2_with fail;refine aC (fun V=>Below (bc+1) w5 V) (fun _ h=>h) nR.out ?_;refine ai rfl ?_;intro hne;go_big_quiet_step (fail);refine zWq ?_;clear hne;refine aH rfl ?_;obtain⟨qF,hw⟩:=nmE (gX.alloc (.cells #[.int .i64 (cf s)] 3));have oU:Hid (Below (bc+1) w5 qF):=hid (by rw[hw];exact nR.out.alloc (by have:=nR.out.size;omega) _);have hba:BL gX qF:=by rw[hw];exact aj.alloc aB _
       have qz:=hid (qy.out.next hba);have HUw11:Hid (aP (fun b=>w1.heap.size<=b/\b<bc) qF (.slice ga K gc) s):=hid (aP.keep F4.out (aA.below hba));have KN:Hid (bO (·=gX.heap.size) qF (.slice (some ⟨gX.heap.size,0,none⟩) 1 1) [cf s]):=hid (by rw[hw];exact lF (·=gX.heap.size) gX _ (cf s) rfl rfl);have Uu:bc+1<=qF.heap.size:=by have:=oU.out.size;omega
       have Wp:=hid hw;clear hw hba Uu;go_wp2_with fail;rw[<-Wp.out];clear Wp;refine aC (fun V=>Below (bc+1) w5 V) (fun _ h=>h) oU.out ?_;refine aH rfl ?_;have AL:bc+1<=qF.heap.size:=by have:=oU.out.size;omega
       go_wp2_with (at_builtin;go_must (refine gZ rfl _ _ rfl Tryz.Du rfl qz.out.ints aj rfl KN.out Zk ?_));intro v' D2 how ht;obtain⟨ha',hl',hc',rfl⟩:∃a l c,v'=.slice a l c:=by obtain⟨a,c,e, -⟩:=how.sl.form;exact⟨_,_,_,e⟩
       have F5:=hid (qz.out.Zg rfl AL how ht);have qA:Hid (Below (bc+1) w5 D2):=hid (oU.out.trans (qz.out.QX AL ht));clear how ht AL KN;go_wp2_with fail;refine aC (fun V=>Below (bc+1) w5 V) (fun _ h=>h) qA.out ?_;refine aL ?_;try simp only[zDs,zDz]
       have HBo:Hid (D2.heap[bc]?=some (.cells #[.slice none 0 0,.int .i64 code,.slice ma ml mc,.slice ca LM cc] 53 (0,0))):=hid ((qA.out.block bc (Nat.lt_succ_self _)).trans D7.out);obtain⟨⟨d0,d1,d2,d3⟩,df⟩:=aO HBo.out;have df2:=df 2;have df3:=df 3;have Q0:=hid (Qo.out D2 fa fl fc ha' hl' hc' (by have h:=F5.out;rw[<-List.map_take] at h;exact h) qA.out);clear df xY Px;go_wp2;go_roundw;case rel=>exact⟨j+1,fa,fl,fc,ha',hl',hc',by omega,by go_num,hid Q0.out.1,hid Q0.out.2.1,JF,hid Q0.out.2.2⟩
       simp[intOf];omega
      ·obtain⟨gX,hw⟩:=nmE (w9.alloc (.cells #[.int .i64 (cf s)] 3))
       have nR:Hid (Below (bc+1) w5 gX):=hid (by rw[hw];exact AJ.out.alloc (by have:=AJ.out.size;omega) _);have hba:BL w9 gX:=by rw[hw];exact aj.alloc aB _
       have qy:=hid (D8.out.next hba);have F4:Hid (aP (fun b=>w1.heap.size<=b/\b<bc) gX (.slice ga K gc) s):=hid (aP.keep QY.out (aA.below hba));have KN:Hid (bO (·=w9.heap.size) gX (.slice (some ⟨w9.heap.size,0,none⟩) 1 1) [cf s]):=hid (by rw[hw];exact lF (·=w9.heap.size) w9 _ (cf s) rfl rfl);have Uu:bc+1<=gX.heap.size:=by have:=nR.out.size;omega
       have sR:Hid (gX.cell? ⟨w8.heap.size,0,none⟩=some (.slice ga K gc)):=hid (((hba.cell (p:=⟨w8.heap.size,0,none⟩) (zBl w9 _ sR.out))).trans sR.out);have F6:=hid hw;clear hw hba Uu;go_wp2_with fail;rw[<-F6.out];clear F6;refine aC (fun V=>Below (bc+1) w5 V) (fun _ h=>h) nR.out ?_;refine aH rfl ?_;have AL:bc+1<=gX.heap.size:=by have:=nR.out.size;omega
       have Wn:Hid (aP (fun b=>(w1.heap.size<=b/\b<bc)/\(Value.slice ma ml mc).ownBlock≠some b) gX (.slice ga K gc) s):=hid (aP.mono F4.out (fun b _ h=>⟨h,fun e=>by have h1:=(qy.out.subs.lt b e).1;have h2:=h.2;omega⟩));go_wp2_with (at_builtin;go_must (refine l9 rfl _ _ rfl Tryz.D1 rfl qy.out.subs rfl sR.out s Wn.out rfl kW AL ?_));intro v' qF hrow ht hnb;obtain⟨fa,fl,fc,rfl⟩:∃a l c,v'=.slice a l c:=by obtain⟨a,c,e, -⟩:=hrow.form;exact⟨_,_,_,e⟩
       have qz:=hid (qy.out.Zf hrow ht hnb);have oU:Hid (Below (bc+1) w5 qF):=hid (nR.out.trans (qy.out.turn AL ht));have KN:Hid (bO (·=w9.heap.size) qF (.slice (some ⟨w9.heap.size,0,none⟩) 1 1) [cf s]):=hid (bO.keep KN.out (ht.keep (fun b e h2=>by have h3:=(D8.out.subs.lt b h2).2;have h4:b=w9.heap.size:=e;omega)));clear hrow ht hnb AL Wn sR;go_wp2_with fail;refine aC (fun V=>Below (bc+1) w5 V) (fun _ h=>h) oU.out ?_;refine ai rfl ?_;intro hne;go_big_quiet_step (fail);refine zWq ?_;clear hne;refine aH rfl ?_;have AL:bc+1<=qF.heap.size:=by have:=oU.out.size;omega
       go_wp2_with (at_builtin;go_must (refine gZ rfl _ _ rfl Tryz.Du rfl qz.out.ints aj rfl KN.out Zk ?_));intro v' D2 how ht;obtain⟨ha',hl',hc',rfl⟩:∃a l c,v'=.slice a l c:=by obtain⟨a,c,e, -⟩:=how.sl.form;exact⟨_,_,_,e⟩
       have F5:=hid (qz.out.Zg rfl AL how ht);have qA:Hid (Below (bc+1) w5 D2):=hid (oU.out.trans (qz.out.QX AL ht));clear how ht AL KN;go_wp2_with fail;refine aC (fun V=>Below (bc+1) w5 V) (fun _ h=>h) qA.out ?_;refine aL ?_;try simp only[zDs,zDz]
       have HBo:Hid (D2.heap[bc]?=some (.cells #[.slice none 0 0,.int .i64 code,.slice ma ml mc,.slice ca LM cc] 53 (0,0))):=hid ((qA.out.block bc (Nat.lt_succ_self _)).trans D7.out);obtain⟨⟨d0,d1,d2,d3⟩,df⟩:=aO HBo.out;have df2:=df 2;have df3:=df 3;have Q0:=hid (Qo.out D2 fa fl fc ha' hl' hc' (by have h:=F5.out;rw[<-List.map_take] at h;exact h) qA.out);clear df xY Px;go_wp2;go_roundw;case rel=>exact⟨j+1,fa,fl,fc,ha',hl',hc',by omega,by go_num,hid Q0.out.1,hid Q0.out.2.1,JF,hid Q0.out.2.2⟩
       simp[intOf];omega
     ·obtain⟨w9,hw⟩:=nmE (w8.alloc (.cells #[.int .i64 (cf s)] 3))
      have AJ:Hid (Below (bc+1) w5 w9):=hid (by rw[hw];exact Ut.out.alloc (by have:=Ut.out.size;omega) _);have hba:BL w8 w9:=by rw[hw];exact aj.alloc aB _
      have D8:=hid (Zm.out.next hba);have QY:Hid (aP (fun b=>w1.heap.size<=b/\b<bc) w9 (.slice ga K gc) s):=hid (aP.keep acP.out (aA.below hba));have KN:Hid (bO (·=w8.heap.size) w9 (.slice (some ⟨w8.heap.size,0,none⟩) 1 1) [cf s]):=hid (by rw[hw];exact lF (·=w8.heap.size) w8 _ (cf s) rfl rfl);have Uu:bc+1<=w9.heap.size:=by have:=AJ.out.size;omega
      have QZ:=hid hw;clear hw hba Uu;go_wp2_with fail;rw[<-QZ.out];clear QZ;refine aC (fun V=>Below (bc+1) w5 V) (fun _ h=>h) AJ.out ?_;refine aH rfl ?_;obtain⟨gX,hw⟩:=nmE (w9.alloc (.cells #[.slice ga K gc] 45));have nR:Hid (Below (bc+1) w5 gX):=hid (by rw[hw];exact AJ.out.alloc (by have:=AJ.out.size;omega) _);have hba:BL w9 gX:=by rw[hw];exact aj.alloc aB _
      have qy:=hid (D8.out.next hba);have F4:Hid (aP (fun b=>w1.heap.size<=b/\b<bc) gX (.slice ga K gc) s):=hid (aP.keep QY.out (aA.below hba));have sR:Hid (gX.cell? ⟨w9.heap.size,0,none⟩=some (.slice ga K gc)):=hid (by rw[hw];exact(one_cell (aD _ _ rfl)).1);have Uu:bc+1<=gX.heap.size:=by have:=nR.out.size;omega
      have KN:Hid (bO (·=w8.heap.size) gX (.slice (some ⟨w8.heap.size,0,none⟩) 1 1) [cf s]):=hid (bO.keep KN.out (aA.below hba));have F6:=hid hw;clear hw hba Uu;go_wp2_with fail;rw[<-F6.out];clear F6;refine aC (fun V=>Below (bc+1) w5 V) (fun _ h=>h) nR.out ?_;refine aH rfl ?_;have AL:bc+1<=gX.heap.size:=by have:=nR.out.size;omega
      have Wn:Hid (aP (fun b=>(w1.heap.size<=b/\b<bc)/\(Value.slice ma ml mc).ownBlock≠some b) gX (.slice ga K gc) s):=hid (aP.mono F4.out (fun b _ h=>⟨h,fun e=>by have h1:=(qy.out.subs.lt b e).1;have h2:=h.2;omega⟩));go_wp2_with (at_builtin;go_must (refine l9 rfl _ _ rfl Tryz.D1 rfl qy.out.subs rfl sR.out s Wn.out rfl kW AL ?_));intro v' qF hrow ht hnb;obtain⟨fa,fl,fc,rfl⟩:∃a l c,v'=.slice a l c:=by obtain⟨a,c,e, -⟩:=hrow.form;exact⟨_,_,_,e⟩
      have qz:=hid (qy.out.Zf hrow ht hnb);have oU:Hid (Below (bc+1) w5 qF):=hid (nR.out.trans (qy.out.turn AL ht));have KN:Hid (bO (·=w8.heap.size) qF (.slice (some ⟨w8.heap.size,0,none⟩) 1 1) [cf s]):=hid (bO.keep KN.out (ht.keep (fun b e h2=>by have h3:=(Zm.out.subs.lt b h2).2;have h4:b=w8.heap.size:=e;omega)));clear hrow ht hnb AL Wn sR;go_wp2_with fail;refine aC (fun V=>Below (bc+1) w5 V) (fun _ h=>h) oU.out ?_;refine ai rfl ?_;intro hne;go_big_quiet_step (fail);refine zWq ?_;clear hne;refine aH rfl ?_;have AL:bc+1<=qF.heap.size:=by have:=oU.out.size;omega
      go_wp2_with (at_builtin;go_must (refine gZ rfl _ _ rfl Tryz.Du rfl qz.out.ints aj rfl KN.out Zk ?_));intro v' D2 how ht;obtain⟨ha',hl',hc',rfl⟩:∃a l c,v'=.slice a l c:=by obtain⟨a,c,e, -⟩:=how.sl.form;exact⟨_,_,_,e⟩
      have F5:=hid (qz.out.Zg rfl AL how ht);have qA:Hid (Below (bc+1) w5 D2):=hid (oU.out.trans (qz.out.QX AL ht));clear how ht AL KN;go_wp2_with fail;refine aC (fun V=>Below (bc+1) w5 V) (fun _ h=>h) qA.out ?_;refine aL ?_;try simp only[zDs,zDz]
      have HBo:Hid (D2.heap[bc]?=some (.cells #[.slice none 0 0,.int .i64 code,.slice ma ml mc,.slice ca LM cc] 53 (0,0))):=hid ((qA.out.block bc (Nat.lt_succ_self _)).trans D7.out);obtain⟨⟨d0,d1,d2,d3⟩,df⟩:=aO HBo.out;have df2:=df 2;have df3:=df 3;have Q0:=hid (Qo.out D2 fa fl fc ha' hl' hc' (by have h:=F5.out;rw[<-List.map_take] at h;exact h) qA.out);clear df xY Px;go_wp2;go_roundw;case rel=>exact⟨j+1,fa,fl,fc,ha',hl',hc',by omega,by go_num,hid Q0.out.1,hid Q0.out.2.1,JF,hid Q0.out.2.2⟩
      simp[intOf];omega
   ·obtain rfl:nl=j:=by omega
    obtain⟨⟨z0,z1,z2,z3⟩,zf⟩:=aO (mO.out wr iO.out).2;have zf0:=zf 0;have zf1:=zf 1;have zf2:=zf 2;have zf3:=zf 3;have HR:Hid (aF.j4 cf code l=none):=hid (aF.D6 (fun i h=>yd.out i h (by rw[VF.out];exact h)));clear zf;go_wp2;refine bodyPost_ret (lI (RA.out wr 0 _ _ _ _ (mO.out wr iO.out).2).1 rfl rfl) rfl ⟨(RA.out wr 0 _ _ _ _ (mO.out wr iO.out).2).2 FL.out,.inr (.inr (.inr (.inl ⟨rfl,Vn.out,by rw[<-VF.out];exact Wi.out,HR.out,rfl⟩)))⟩
theorem Q5{α:Type}[DecidableEq α]{x y:List α}(hl:x.length=y.length)(h:∀i (h1:i<x.length) (h2:i<y.length),x[i]=y[i]):x=y:=List.ext_getElem hl h
theorem Uv(x y:List Bool)(v u:Value)(S T:Nat->Prop)(w:World)(hv:iN S w v x)(hu:iN T w u y):
  Calls Tryz.prog 96 #[v,u] w fun e w'=>e=.returned (.bool (decide (x=y)))/\BL w w':=by
 obtain⟨a,c,rfl,hsa,hca,hma⟩:=hv.form;obtain⟨b,d,rfl,hsb, -, -⟩:=hu.form;have HV:=hid hv;have HU:=hid hu;clear hv hu;by_cases hl:x.length=y.length
 ·obtain⟨n,hn⟩:=nmE x.length
  rw[<-hl,<-hn] at hsb ⊢;rw[<-hn] at hsa hca;have HN:=hid hn;have HM:Hid (y.length=n):=hid (by rw[hn,hl]);have HD:Hid (x=y->decide (x=y)=true):=hid decide_eq_true;have Rt:Hid (x≠y->decide (x=y)=false):=hid decide_eq_false;generalize decide (x=y)=r at*;clear hl hn;go_enter Tryz.func96,Tryz.ntmps96;go_wp2;go_loopw [13] (fun kk wr=>∃k:Nat,k<=n/\kk=.int .i64 k/\Hid (∀i (h1:i<x.length) (h2:i<y.length),i<k->x[i]=y[i])/\Hid (BL w wr)) (fun kk _=>n-(intOf kk).toNat);case atStart=>exact⟨0,Nat.zero_le _,rfl,hid (fun i _ _ h=>absurd h (by omega)),hid aj⟩
  case round=>
   obtain⟨k,hk,rfl,HP,HB⟩:=hrel;by_cases hlt:k<n
   ·have hk0:(0:Int)<=k:=by omega
    have hk1:(k:Int)<n:=by omega
    have h1:k<x.length:=by rw[<-HN.out];exact hlt
    have h2:k<y.length:=by rw[HM.out];exact hlt
    obtain⟨p,hp,hp2⟩:=eX.lW (by rw[HN.out];exact HV.out:iN S w (.slice a n c) x) h1;obtain⟨q,hq,xY⟩:=eX.lW (by rw[<-HM.out];exact HU.out:iN T w (.slice b n d) y) h2;obtain rfl:p=_:=hp;obtain rfl:q=_:=hq;have x0:=hp2 wr (aA.below HB.out);have x1:=xY wr (aA.below HB.out)
    have ES:Hid (x[k]=y[k]->∀i (h1:i<x.length) (h2:i<y.length),i<k+1->x[i]=y[i]):=hid (fun e i h1 h2 h3=>by
     by_cases g:i=k
     ·subst g;exact e
     ·exact HP.out i h1 h2 (by omega))
    have Gv:Hid (x[k]≠y[k]->x≠y):=hid (fun h e=>h (by subst e;rfl));clear hp2 xY;generalize x[k]=xk at*;generalize y[k]=yk at*;by_cases he:xk=yk
    ·have HP3:=hid (ES.out he)
     subst he;have he2:(xk !=xk)=false:=by simp
     clear ES Gv;go_wp2;go_quiet (fail);go_wp2;go_roundw;case rel=>exact⟨k+1,by omega,by go_num,HP3,hid (af5 HB.out _)⟩
     simp[intOf];omega
    ·have HR:Hid (r=false):=hid (Rt.out (Gv.out he))
     obtain⟨rfl,rfl⟩|⟨rfl,rfl⟩:(xk=true/\yk=false)\/(xk=false/\yk=true):=by
      cases xk<;>cases yk<;>simp_all
     ·clear ES Gv he
      go_wp2;go_quiet (fail);go_wp2;go_ret;exact⟨by rw[HR.out];rfl,af5 HB.out _⟩
     ·clear ES Gv he
      go_wp2;go_quiet (fail);go_wp2;go_ret;exact⟨by rw[HR.out];rfl,af5 HB.out _⟩
   ·obtain rfl:n=k:=by omega
    have HR:Hid (r=true):=hid (HD.out (Q5 (by rw[<-HN.out,HM.out]) (fun i h1 h2=>HP.out i h1 h2 (by rw[HN.out];exact h1))));go_wp2;go_ret;exact⟨by rw[HR.out];rfl,HB.out⟩
 ·have hne:x≠y:=fun e=>hl (by rw[e])
  rw[decide_eq_false hne];have hl2:¬(x.length:Int)=(y.length:Int):=by omega
  go_enter Tryz.func96,Tryz.ntmps96;go_wp2;go_ret;exact⟨rfl,aj⟩
theorem Q6(x y:Sub.S)(v u:Value)(S T:Nat->Prop)(w:World)(hv:aP S w v x)(hu:aP T w u y):
  Calls Tryz.prog 69 #[v,u,.func (.func 96) #[] #[]] w fun e w'=>e=.returned (.bool (decide (x=y)))/\BL w w':=by
 obtain⟨a,c,rfl,hsa,hca,hma⟩:=hv.form;obtain⟨b,d,rfl,hsb, -, -⟩:=hu.form;have HV:=hid hv;have HU:=hid hu;clear hv hu;by_cases hl:x.length=y.length
 ·obtain⟨n,hn⟩:=nmE x.length
  rw[<-hl,<-hn] at hsb ⊢;rw[<-hn] at hsa hca;have HN:=hid hn;have HM:Hid (y.length=n):=hid (by rw[hn,hl]);have HD:Hid (x=y->decide (x=y)=true):=hid decide_eq_true;have Rt:Hid (x≠y->decide (x=y)=false):=hid decide_eq_false;generalize decide (x=y)=r at*;clear hl hn;go_enter Tryz.func69,Tryz.ntmps69;go_wp2;go_loopw [17] (fun kk wr=>∃k:Nat,k<=n/\kk=.int .i64 k/\Hid (∀i (h1:i<x.length) (h2:i<y.length),i<k->x[i]=y[i])/\Hid (BL w wr)) (fun kk _=>n-(intOf kk).toNat);case atStart=>exact⟨0,Nat.zero_le _,rfl,hid (fun i _ _ h=>absurd h (by omega)),hid aj⟩
  case round=>
   obtain⟨k,hk,rfl,HP,HB⟩:=hrel;by_cases hlt:k<n
   ·have hk0:(0:Int)<=k:=by omega
    have hk1:(k:Int)<n:=by omega
    have h1:k<x.length:=by rw[<-HN.out];exact hlt
    have h2:k<y.length:=by rw[HM.out];exact hlt
    obtain⟨p,hp,hp2⟩:=eX.lW (by rw[HN.out];exact HV.out:aP S w (.slice a n c) x) h1;obtain⟨q,hq,xY⟩:=eX.lW (by rw[<-HM.out];exact HU.out:aP T w (.slice b n d) y) h2;have x0:=hp2 wr (aA.below HB.out);have x1:=xY wr (aA.below HB.out);have HEq:=hid (Uv x[k] y[k] p q S T wr (iN.keep hp (aA.below HB.out)) (iN.keep hq (aA.below HB.out)))
    have ES:Hid (x[k]=y[k]->∀i (h1:i<x.length) (h2:i<y.length),i<k+1->x[i]=y[i]):=hid (fun e i h1 h2 h3=>by
     by_cases g:i=k
     ·subst g;exact e
     ·exact HP.out i h1 h2 (by omega))
    have Gv:Hid (x[k]≠y[k]->x≠y):=hid (fun h e=>h (by subst e;rfl));obtain⟨a2,c2,rfl, -, -, -⟩:=hp.form;obtain⟨b2,d2,rfl, -, -, -⟩:=hq.form;clear hp hq hp2 xY;generalize x[k]=xk at*;generalize y[k]=yk at*;have lG:=aZ Tryz.func96 (by kernel_rfl) rfl;by_cases he:xk=yk
    ·have HP3:=hid (ES.out he)
     rw[decide_eq_true he] at HEq;clear ES Gv he;go_wp2_with fail;refine HEq.out.mono ?_;rintro e w2 ⟨rfl,hb2⟩;have bB:=bq HB hb2;clear hb2 x0 x1;go_wp2;go_roundw;case rel=>exact⟨k+1,by omega,by go_num,HP3,bB⟩
     simp[intOf];omega
    ·rw[decide_eq_false he] at HEq
     have HR:Hid (r=false):=hid (Rt.out (Gv.out he));clear ES Gv he;go_wp2_with fail;refine HEq.out.mono ?_;rintro e w2 ⟨rfl,hb2⟩;have bB:=bq HB hb2;clear hb2 x0 x1;go_wp2;go_ret;exact⟨by rw[HR.out];rfl,bB.out⟩
   ·obtain rfl:n=k:=by omega
    have HR:Hid (r=true):=hid (HD.out (Q5 (by rw[<-HN.out,HM.out]) (fun i h1 h2=>HP.out i h1 h2 (by rw[HN.out];exact h1))));go_wp2;go_ret;exact⟨by rw[HR.out];rfl,HB.out⟩
 ·have hne:x≠y:=fun e=>hl (by rw[e])
  rw[decide_eq_false hne];have hl2:¬(x.length:Int)=(y.length:Int):=by omega
  go_enter Tryz.func69,Tryz.ntmps69;go_wp2;go_ret;exact⟨rfl,aj⟩
theorem Dj(x y:Sub.S)(v u:Value)(S T:Nat->Prop)(w:World)(hv:aP S w v x)(hu:aP T w u y):
  Calls Tryz.prog 59 #[v,u] w fun e w'=>e=.returned (.bool (decide (x=y)))/\BL w w':=by
 have H:=hid (Q6 x y v u S T w hv hu);obtain⟨a,c,rfl, -, -, -⟩:=hv.form;obtain⟨b,d,rfl, -, -, -⟩:=hu.form;clear hv hu;generalize decide (x=y)=r at*;go_enter Tryz.func59,Tryz.ntmps59;go_wp2_with fail;refine H.out.mono ?_;rintro e w2 ⟨rfl,hb⟩;have HB:=hid hb;clear hb;go_wp2;go_ret;exact⟨rfl,HB.out⟩
theorem JG(x:ah.bD)(W:ah.bK)(l:List Sub.S)(hl:aF.iD x W l)(hok:ah.okB x=true)(hfit:aF.dF x W=true)(pq:W.length<=1000/\∀r∈W,r.length<=1000000)(htot:ah.total W<=100000)(hll:l.length<=400)(jM:QW x W)
  (p:List Vm.Ins)(n:Int)(hn:sM n)(code:Int)(hcode:1<=code/\code<=251)(hge:aF.l8 x W p n=0)(m:Nat)(s:Sub.S)(hfc:aF.j4 (aF.jI x W p n) code l=some m)(D3:l[m]?=some s)
  (v u pv us um uc:Value)(U V:Nat->Prop)(B0:Nat)(E:Nat->Prop)(tb B:Nat)(w:World)(ha:l6 tb x W v u B w)(hp:nG (·<B) w pv p)
  (pE:aP U w us s)(hum:cW B0 E w um (l.take m))(huc:bO V w uc ((l.take m).map (aF.jI x W p n))):
  Calls Tryz.prog 26 #[v,u,pv,.int .i64 n,.agg #[us,.int .i64 code,um,uc]] w fun e w'=>e=.returned (.int .i64 0)/\BL w w':=by
 obtain⟨hml,hfm,hno⟩:=aF.FE hfc;have kW:l[m]=s:=by rw[zEg hml] at D3;exact zSi D3
 rw[kW] at hfm;have yd:=hid hno;have Tg:=hid kW;obtain⟨ak,ck,al,cl,ar,cr,rfl, -⟩:=ha.vY.form;obtain⟨aw,cw,rfl, -, -, -⟩:=ha.sG.form;obtain⟨ap,cp,rfl, -, -, -⟩:=hp.form;obtain⟨sa,sc,rfl, -, -, -⟩:=pE.form;have YV:(l.take m).length=m:=by rw[zLt];omega
 obtain⟨ma,mc,rfl,hsma,hmc1,hmc2⟩:=hum.form;have hcl:((l.take m).map (aF.jI x W p n)).length=m:=by rw[zLm];exact YV
 obtain⟨ca,cc,rfl,hsca, -, -⟩:=huc.form;rw[YV] at hsma hum hmc1 ⊢;rw[hcl] at hsca huc ⊢;have HSc:=hid (show s∈l from by rw[<-kW];exact zGm hml);obtain⟨w1,hw1⟩:=nmE ((bE w x.af6 (.slice ak x.af3.length ck) (.slice al x.af7.length cl) (.slice ar x.af8.length cr)).alloc (.cells #[.slice sa s.length sc,.int .i64 code,.slice ma m mc,.slice ca m cc] 53));have aW:Hid (Below w.heap.size w w1):=hid (by rw[hw1];exact(aQ ..).alloc (by simp[bE]) _)
 have mO:Hid (∀X,BL w1 X->X.heap[w.heap.size]?=some (.cells #[.int .i64 x.af6,.slice ak x.af3.length ck,.slice al x.af7.length cl,.slice ar x.af8.length cr] 27 (0,0))/\X.heap[w.heap.size+1]?=some (.cells #[.slice sa s.length sc,.int .i64 code,.slice ma m mc,.slice ca m cc] 53 (0,0))):=hid (fun X hX=>by
  have e:∀{k o},w1.heap[k]?=some o->X.heap[k]?=some o:=fun h=>(hX.block _ (Array.getElem?_eq_some_iff.1 h).1).trans h;refine⟨e ?_,e ?_⟩
  ·rw[hw1];exact aG _ (bf ..)
  ·rw[hw1];exact aD _ _ (by simp[bE]))
 unfold bE at hw1;have HW1:=hid hw1;clear hw1;obtain⟨K,hK⟩:=nmE W.length;obtain⟨np,hnp⟩:=nmE p.length;have KG:=hid (fun(X:World) (hX:BL w X)=>sO x W p n hn hok hfit pq _ _ _ tb B X (ha.next hX) (hp.keep (aA.below hX)));have Ei:=hid (fun(X:World) (hX:BL w X)=>AF x W l hl hok hfit pq htot (by omega) 400 (by omega) _ _ tb B X (ha.next hX));have zH:=hid (fun(X:World) (b:Nat) (s:Sub.S) (t:Value) (U:Nat->Prop) (hg:D4 tb x W p n B b X) (hs:s∈l) (hv:aP U X t s)=>sN x W p n hn s (f9 hok hfit ((hl.mem s).1 hs).1) ((hl.mem s).1 hs).2 jM t U tb B b X hg hv);have HSK:Hid (∀s∈l,s.length=K):=hid (fun s hs=>by rw[hK,((hl.mem s).1 hs).1.1];exact zLm _);have Wj:s.length=K:=HSK.out s HSc.out;have HUs:=hid (fun(X:World) (hX:BL w X)=>pE.keep (aA.below hX));have HUm:=hid hum;have HUc:=hid huc;rw[Wj] at mO HW1 HUs ⊢;rw[<-hK] at KG Ei ⊢;rw[<-hnp] at KG ⊢;rw[hge] at KG;have HK:=hid (And.intro hK hnp);have HCF:=hid hfm;have HML:=hid hml;have HLL:=hid hll;have HTK:=hid YV;generalize hcf:aF.jI x W p n=cf at*;have HGE:=hid (And.intro hge hcf);have k1:¬code<1:=by omega
 have k2:¬251<code:=by omega
 have k1d:decide (code<1)=false:=decide_eq_false k1;have k2d:decide (251<code)=false:=decide_eq_false k2;clear hge hcf hK hnp ha hp hl hok hfit pq htot hll jM hn pE hum huc hfc D3 hfm hno kW Wj YV hcl hcode;obtain⟨⟨y0,y1,y2,y3⟩, -⟩:=aO (mO.out w1 aj).1;go_enter Tryz.func26,Tryz.ntmps26;go_upto_region 1 with fail;rw[<-HW1.out];go_wp2_with fail;refine(KG.out w1 aW.out).mono ?_;rintro e w2 ⟨hb2,hres⟩;have cU:Hid (BL w1 w2):=hid hb2;have bB:=bq aW hb2;clear hb2 y0 y1 y2 y3;rcases hres with⟨-,rfl,BF⟩|⟨hge, -⟩;rotate_left
 ·exact absurd rfl hge
 have Mt:=hid BF;clear BF;obtain⟨⟨y0,y1,y2,y3⟩, -⟩:=aO (mO.out w2 cU.out).1;go_wp2_with fail;refine(Ei.out w2 bB.out).mono ?_;rintro e w3 ⟨hb3,hres⟩;have dD:=bq cU hb3;have bG:=bq bB hb3;have Us:=hid (Mt.out.keep hb3);clear Mt hb3 y0 y1 y2 y3;rcases hres with⟨D3,la,lc,rfl,hrow⟩|⟨D3,rfl⟩;rotate_left
 ·exact absurd HLL.out (by omega)
 obtain⟨hsl,hlc,hlm2⟩:dG la l.length/\l.length<=lc/\lc<=9223372036854775807:=by
  obtain⟨_,_,e,h1,h2,h3⟩:=hrow.form;cases e;exact⟨h1,h2,h3⟩
 obtain⟨nl,hnl⟩:=nmE l.length;rw[<-hnl] at hsl hlc hrow ⊢;have yp:=hid hrow;have VF:=hid hnl;have hmn:m<nl:=by rw[hnl];exact HML.out
 have hm0:(0:Int)<=(m:Int):=by omega
 have hm1:(m:Int)<(nl:Int):=by omega
 have hm2:¬(nl:Int)<=(m:Int):=by omega
 have hm2d:decide ((nl:Int)<=(m:Int))=false:=decide_eq_false hm2;have hm3d:decide (nl<=m)=false:=decide_eq_false (by omega);have hmm:((m:Int) !=(m:Int))=false:=by simp
 obtain⟨ul,uR,BR⟩:=yp.out.sl.lW HML.out;rw[Tg.out] at uR;obtain⟨ga,gc,rfl, -, -, -⟩:=uR.form;rw[HSK.out _ HSc.out] at uR BR;have HUl:=hid uR;have PX:=hid BR;unfold Ur;clear hrow hnl D3 uR BR;obtain⟨⟨c0,c1,c2,c3⟩, -⟩:=aO (mO.out w3 dD.out).2;go_upto_region 8 with fail;have hc0:=hqC w3 ⟨w.heap.size+1,0,none⟩ (.slice sa K sc) fun xh=>(aO (mO.out xh.1 (tnB dD.out xh.2)).2).1.1;have hc1:=hqC w3 ⟨w.heap.size+1,1,none⟩ (.int .i64 code) fun xh=>(aO (mO.out xh.1 (tnB dD.out xh.2)).2).1.2.1;have hc2:=hqC w3 ⟨w.heap.size+1,2,none⟩ (.slice ma m mc) fun xh=>(aO (mO.out xh.1 (tnB dD.out xh.2)).2).1.2.2.1;have hc3:=hqC w3 ⟨w.heap.size+1,3,none⟩ (.slice ca m cc) fun xh=>(aO (mO.out xh.1 (tnB dD.out xh.2)).2).1.2.2.2;have hcl:=hqC w3 ⟨aY la,bC la+m,none⟩ (.slice ga K gc) fun xh=>PX.out xh.1 (aA.below xh.2);refine agf w3 40 (.quiet 0 (.quiet 1 (.quiet 2 (.quiet 3 (.quiet 4 (.quiet 5 (.quiet 6 (.quiet 7 (.quiet 8 (.quiet 9 (.quiet 10 (.one 11 (.quiet 12 (.quiet 13 (.quiet 14 (.quiet 15 (.quiet 16 (.quiet 18 (.one 17 (.quiet 19 (.quiet 20 (.quiet 21 (.quiet 22 (.quiet 23 (.quiet 24 (.quiet 25 (.quiet 26 (.quiet 27 (.one 28 (.quiet 29 (.quiet 30 (.quiet 31 (.quiet 32 (.quiet 33 (.quiet 34 (.quiet 35 (.quiet 36 (.quiet 38 (.quiet 39 (.one 37 .done)))))))))))))))))))))))))))))))))))))))) mxT (by kernel_rfl) fun w4 Ru=>?_
 iterate 11
  refine ai rfl ?_
  intro hne
  go_big_quiet_step (fail)
  refine zWq ?_
  clear hne
 refine aH rfl ?_;go_wp2_with fail;refine aC (BL w3) (fun _ h=>h) Ru.out ?_
 iterate 6
  refine ai rfl ?_
  intro hne
  go_big_quiet_step (fail)
  refine zWq ?_
  clear hne
 refine aH rfl ?_;go_wp2_with fail;refine aC (BL w3) (fun _ h=>h) Ru.out ?_
 iterate 9
  refine ai rfl ?_
  intro hne
  go_big_quiet_step (fail)
  refine zWq ?_
  clear hne
 have HEq:=hid (Dj s s _ _ _ _ w4 (aP.keep HUl.out (aA.below Ru.out)) (HUs.out w4 (tnB bG.out Ru.out)));rw[decide_eq_true rfl] at HEq;refine aH rfl ?_;go_wp2_with fail;refine HEq.out.mono ?_;rintro e w5 ⟨rfl,gL⟩;have Ij:=bq Ru gL;clear gL HEq Ru;go_wp2_with fail;refine aC (BL w3) (fun _ h=>h) Ij.out ?_
 iterate 10
  refine ai rfl ?_
  intro hne
  go_big_quiet_step (fail)
  refine zWq ?_
  clear hne
 have sU:=hid (zH.out w5 _ s _ _ (Us.out.keep Ij.out) HSc.out (aP.keep HUl.out (aA.below Ij.out)));rw[HCF.out] at sU;refine aH rfl ?_;go_wp2_with fail;refine sU.out.mono ?_;rintro e w6 ⟨rfl,lN⟩;have Tk:=bq Ij lN;clear lN sU Ij;go_wp2_with fail;refine aC (BL w3) (fun _ h=>h) Tk.out ?_;refine aL ?_;try simp only[zDs,zDz]
 have hcc:(code !=code)=false:=by simp
 clear hc0 hc1 hc2 hc3 hcl;have HX6:=mO.out w6 (tnB dD.out Tk.out);obtain⟨⟨c0,c1,c2,c3⟩, -⟩:=aO HX6.2;clear HX6;go_wp2;clear c0 c1 c2 c3;go_loopw [85] (fun jj wr=>∃j:Nat,j<=m/\jj=.int .i64 (j:Int)/\Hid (BL w3 wr)) (fun jj _=>m-(intOf jj).toNat);case atStart=>exact⟨0,Nat.zero_le _,rfl,Tk⟩
 case round=>
  obtain⟨j,hj,rfl,yL⟩:=hrel;by_cases hlt:j<m
  ·have hj0:(0:Int)<=(j:Int):=by omega
   have hj1:(j:Int)<(m:Int):=by omega
   have hj2:(j:Int)<(nl:Int):=by omega
   have hjl:j<l.length:=by rw[<-VF.out];omega
   have hjt:j<(l.take m).length:=by rw[HTK.out];exact hlt
   have hjc:j<((l.take m).map cf).length:=by rw[zLm];exact hjt
   have iP:=bq bG yL.out;obtain⟨um',Uw,acQ⟩:=HUm.out.sl.lW hjt;obtain⟨uv,huv,Zo⟩:=eX.lW HUc.out hjc;obtain rfl:uv=_:=huv;obtain⟨ul,uR,BR⟩:=yp.out.sl.lW hjl;have e1:(l.take m)[j]=l[j]:=List.getElem_take;have e2:((l.take m).map cf)[j]=cf l[j]:=by rw[List.getElem_map,e1]
   rw[e1] at Uw;rw[e2] at Zo;have hmem:l[j]∈l:=zGm hjl;have hne:=yd.out j hlt;have Wj:=HSK.out _ hmem;have x0:=acQ wr (aA.below iP.out);have Yo:=hid (fun(xh:Held (BL wr))=>Zo xh.1 (aA.below (tnB iP.out xh.2)));have Bh:=hid (fun(xh:Held (BL wr))=>BR xh.1 (aA.below (tnB yL.out xh.2)));have Bf:=hid (fun(X:World) (hX:BL wr X)=>aP.keep Uw (aA.below (tnB iP.out hX)));have xB:=hid (fun(X:World) (hX:BL wr X)=>aP.keep uR (aA.below (tnB yL.out hX)));have HEq:=hid (fun(X:World) (hX:BL wr X)=>Dj l[j] l[j] _ _ _ _ X (Bf.out X hX) (xB.out X hX));have sU:=hid (fun(X:World) (hX:BL wr X)=>zH.out X _ l[j] _ _ (Us.out.keep (tnB yL.out hX)) hmem (xB.out X hX));obtain⟨ma',mc',rfl, -, -, -⟩:=Uw.form;obtain⟨Wk,Wm,rfl, -, -, -⟩:=uR.form;have acR:=hid (fun X hX=>by have h:=HEq.out X hX;rw[decide_eq_true rfl] at h;exact h);rw[Wj] at acR sU Bh x0;have Hu:cf l[j]≠code:=hne;clear Uw acQ Zo uR BR e1 e2 hmem Wj hne HEq Bf xB;generalize cf l[j]=cj at*;have hcc:(cj !=cj)=false:=by simp
   have hce:(cj==code)=false:=by simp[Hu]
   have hce2:decide (cj=code)=false:=decide_eq_false Hu;clear Hu;go_upto_region 13 with fail;clear x0;have hc1:=hqC wr ⟨w.heap.size+1,1,none⟩ (.int .i64 code) fun xh=>(aO (mO.out xh.1 (tnB dD.out (tnB yL.out xh.2))).2).1.2.1;have hc3:=hqC wr ⟨w.heap.size+1,3,none⟩ (.slice ca m cc) fun xh=>(aO (mO.out xh.1 (tnB dD.out (tnB yL.out xh.2))).2).1.2.2.2;have hk0:=Yo.out;have hk1:=Bh.out;refine agf wr 29 (.quiet 0 (.quiet 1 (.quiet 2 (.quiet 3 (.quiet 4 (.one 5 (.quiet 6 (.quiet 7 (.quiet 8 (.quiet 9 (.quiet 10 (.quiet 11 (.quiet 12 (.quiet 13 (.quiet 14 (.quiet 15 (.quiet 16 (.quiet 17 (.one 18 (.quiet 19 (.quiet 20 (.quiet 21 (.quiet 22 (.quiet 23 (.quiet 24 (.quiet 25 (.quiet 26 (.quiet 27 (.quiet 28 .done))))))))))))))))))))))))))))) mxT (by kernel_rfl) fun v4 HE4=>?_
   iterate 5
    refine ai rfl ?_
    intro hne
    go_big_quiet_step (fail)
    refine zWq ?_
    clear hne
   refine aH rfl ?_;go_wp2_with fail;refine(acR.out v4 HE4.out).mono ?_;rintro e v5 ⟨rfl,gL⟩;have HE5:=bq HE4 gL;clear gL HE4;go_wp2_with fail;refine aC (BL wr) (fun _ h=>h) HE5.out ?_
   iterate 12
    refine ai rfl ?_
    intro hne
    go_big_quiet_step (fail)
    refine zWq ?_
    clear hne
   refine aH rfl ?_;go_wp2_with fail;refine(sU.out v5 HE5.out).mono ?_;rintro e v6 ⟨rfl,lN⟩;have HE6:=bq HE5 lN;clear lN HE5;go_wp2_with fail;refine aC (BL wr) (fun _ h=>h) HE6.out ?_
   iterate 10
    refine ai rfl ?_
    intro hne
    go_big_quiet_step (fail)
    refine zWq ?_
    clear hne
   refine aL ?_;try simp only[zDs,zDz]
   clear hc1 hc3 hk0 hk1;go_wp2;go_roundw;case rel=>exact⟨j+1,by omega,by go_num,hid (tnB yL.out HE6.out)⟩
   simp[intOf];omega
  ·obtain rfl:m=j:=by omega
   go_wp2;go_ret;exact⟨rfl,tnB bG.out yL.out⟩
namespace aF
theorem JH{W:Sub.S->Nat->Nat->Bool}{f:Sub.S->Int}{c:Int}(n:Nat){s:Sub.S}(r:Nat)(h:∀i (h:i<(Sub.kept s).length),f (Sub.without W s (Sub.kept s)[i].1 (Sub.kept s)[i].2)≠c):oQ W f c n s r=(s,r+(Sub.kept s).length):=by
 cases n with
 |zero=>rfl
 |succ n=>
  unfold oQ
  have:(Sub.kept s).findIdx? (fun x=>decide (f (Sub.without W s x.1 x.2)=c))=none:=by
   rw[List.findIdx?_eq_none_iff];intro x hx;obtain⟨i,hi,rfl⟩:=zMg.1 hx;simpa using h i hi
  rw[this]
theorem JI{W:Sub.S->Nat->Nat->Bool}{f:Sub.S->Int}{c:Int}(n:Nat){s:Sub.S}(r j:Nat)(hj:j<(Sub.kept s).length)(h1:f (Sub.without W s (Sub.kept s)[j].1 (Sub.kept s)[j].2)=c)(h2:∀i (h:i<j),f (Sub.without W s (Sub.kept s)[i].1 (Sub.kept s)[i].2)≠c):
  oQ W f c (n+1) s r=oQ W f c n (Sub.without W s (Sub.kept s)[j].1 (Sub.kept s)[j].2) (r+j+1):=by
 conv=>lhs;unfold oQ
 have:(Sub.kept s).findIdx? (fun x=>decide (f (Sub.without W s x.1 x.2)=c))=some j:=by
  rw[List.findIdx?_eq_some_iff_getElem];exact⟨hj,by simpa using h1,fun i hi=>by simpa using h2 i hi⟩
 rw[this];simp only[Sub.aR hj]
end aF
structure MN(x:ah.bD)(W:ah.bK)(f:Sub.S->Int)(c:Int)(T:Nat)(F:Sub.S×Nat)(s:Sub.S)(r n:Nat):Prop where
 eq:F=aF.oQ (aF.wr x W) f c n s r
 size:Sub.size s<=n
 fit:Sub.Fit (aF.shape W) s
 valid:Sub.valid (aF.wr x W) s=true
 KO:Sub.size s<=T
 runs:r+Sub.size s*(T+1)<=1+T*(T+1)
theorem mul_lt{a b T i:Nat}(h:a<b)(hi:i<b)(hb:b<=T):i+1+a*(T+1)<=b*(T+1):=by
 have h1:(a+1)*(T+1)<=b*(T+1):=Nat.mul_le_mul_right _ h;rw[Nat.add_mul] at h1;omega
theorem MN.next{x:ah.bD}{W:ah.bK}{f:Sub.S->Int}{c:Int}{T:Nat}{F:Sub.S×Nat}{s:Sub.S}{r n:Nat}(h:MN x W f c T F s r n){j:Nat}(hj:j<(Sub.kept s).length)(h1:f (Sub.without (aF.wr x W) s (Sub.kept s)[j].1 (Sub.kept s)[j].2)=c)(h2:∀i (h:i<j),f (Sub.without (aF.wr x W) s (Sub.kept s)[i].1 (Sub.kept s)[i].2)≠c):
  ∃n',MN x W f c T F (Sub.without (aF.wr x W) s (Sub.kept s)[j].1 (Sub.kept s)[j].2) (r+j+1) n':=by
 have hk:=Sub.cO.1 (zGm hj);have hlt:Sub.size (Sub.without (aF.wr x W) s (Sub.kept s)[j].1 (Sub.kept s)[j].2)<Sub.size s:=aF.Jd hk;have hs:=h.size;have hks:j<Sub.size s:=hj;obtain⟨n',rfl⟩:∃n',n=n'+1:=⟨n-1,by omega⟩;refine⟨n',by rw[h.eq,aF.JI n' r j hj h1 h2],by omega,Sub.nD (Sub.iU h.fit _ _),Sub.kF (Sub.iU h.fit _ _),by have:=h.KO;omega,?_⟩;have h3:=h.runs;have h4:=mul_lt hlt hks h.KO;omega
theorem kK{Q:Exit->Act->World->Prop}{a:Act}{w:World}(h:Q .ret a w):Exit.noGoto Q .ret a w:=h
def D9(N:Nat)(ge code:Int)(f:Sub.S->Int)(g:Sub.S)(F:Sub.S×Nat)(e:Ending)(w':World):Prop:=
 (ge≠0/\e=.returned (.tuple #[.slice none 0 0,.int .i64 0,.int .i64 ge]))\/(ge=0/\(code<1\/251<code)/\e=.returned (.tuple #[.slice none 0 0,.int .i64 0,.int .i64 5]))\/
 (ge=0/\(1<=code/\code<=251)/\f g≠code/\e=.returned (.tuple #[.slice none 0 0,.int .i64 0,.int .i64 6]))\/
 (ge=0/\(1<=code/\code<=251)/\f g=code/\∃us,e=.returned (.tuple #[us,.int .i64 (F.2:Nat),.int .i64 0])/\aP (N<=·) w' us F.1)
theorem MO(x:ah.bD)(W:ah.bK)(hok:ah.okB x=true)(hfit:aF.dF x W=true)(pq:W.length<=1000/\∀r∈W,r.length<=1000000)(htot:ah.total W<=512)(jM:QW x W)
  (p:List Vm.Ins)(n:Int)(hn:sM n)(code:Int)(v u pv:Value)(tb B:Nat)(w:World)(ha:l6 tb x W v u B w)(hp:nG (·<B) w pv p):
  Calls Tryz.prog 30 #[v,u,pv,.int .i64 n,.int .i64 code] w fun e w'=>BL w w'/\D9 w.heap.size (aF.l8 x W p n) code (aF.jI x W p n) (aF.bP x W) (aF.oQ (aF.wr x W) (aF.jI x W p n) code (Sub.size (aF.bP x W)) (aF.bP x W) 1) e w':=by
 have Ej:=hid pq;have YW:=hid (aF.jZ x W);have HGv:=hid (aF.oF x W);have ud:=hid htot;obtain⟨ak,ck,al,cl,ar,cr,rfl, -⟩:=ha.vY.form;obtain⟨w1,hw1⟩:=nmE (bE w x.af6 (.slice ak x.af3.length ck) (.slice al x.af7.length cl) (.slice ar x.af8.length cr));have aW:=afX hw1;have HX:=afY hw1;unfold bE at hw1;have HW1:=hid hw1;clear hw1;have YX:=hid (fun(X:World) (hX:BL w X)=>(ha.next hX).sG);obtain⟨aw,cw,rfl, -, -, -⟩:=ha.sG.form;obtain⟨ap,cp,rfl, -, -, -⟩:=hp.form;obtain⟨K,hK⟩:=nmE W.length;obtain⟨np,hnp⟩:=nmE p.length;have KG:=hid (fun(X:World) (hX:BL w X)=>sO x W p n hn hok hfit pq _ _ _ tb B X (ha.next hX) (hp.keep (aA.below hX)));have KJ:=hid (fun(X:World) (hX:BL w X)=>nM W Ej.out.1 Ej.out.2 _ _ X (YX.out X hX));have sU:=hid (fun(X:World) t U (hX:BL w X) (hs:aP U X t (iC W))=>iZ x W (iC W) (f9 hok hfit (aF.iX W)) _ _ t U tb B X (ha.next hX) hs);have XS:=hid (fun(X:World) (s:Sub.S) (k i:Nat) t U (hX:BL w X) (hf:Sub.Fit (aF.shape W) s) (hk:Sub.keeps s k i=true) (hs:aP U X t s)=>uK x W s (f9 hok hfit hf) k i hk _ _ t U tb B X (ha.next hX) hs);have zH:=hid (fun(X:World) (b:Nat) (s:Sub.S) (t:Value) (U:Nat->Prop) (hg:D4 tb x W p n B b X) (hf:Sub.Fit (aF.shape W) s) (hvl:Sub.valid (aF.wr x W) s=true) (hv:aP U X t s)=>sN x W p n hn s (f9 hok hfit hf) hvl jM t U tb B b X hg hv);rw[<-hK] at KG KJ sU XS ⊢;rw[<-hnp] at KG ⊢;have HK:=hid (And.intro hK hnp);generalize hge:aF.l8 x W p n=ge at*;generalize hcf:aF.jI x W p n=cf at*;have HGE:=hid (And.intro hge hcf);clear hge hcf hK hnp ha hp hok hfit pq htot jM hn;obtain⟨⟨y0,y1,y2,y3⟩, -⟩:=aO (HX.out w1 aj);go_enter Tryz.func30,Tryz.ntmps30;go_upto_region 1 with fail;rw[<-HW1.out];refine wp_scope_straight ?_;go_wp2_with fail;refine(KG.out w1 aW.out).mono ?_;rintro e xP ⟨hb2,hres⟩;have acS:Hid (BL w1 xP):=hid hb2;have Ea:=bq aW hb2;clear hb2 y0 y1 y2 y3;rcases hres with⟨Zi,rfl,BF⟩|⟨hge,rfl⟩;rotate_left
 ·have HGe:=hid hge
  have hge2:¬ge=0:=hge;clear hge;go_wp2;refine kK ?_;go_ret3;exact⟨Ea.out,.inl ⟨HGe.out,rfl⟩⟩
 subst Zi;have acT:Hid (∀e w',D9 w.heap.size 0 code cf (aF.bP x W) (aF.oQ (aF.wr x W) cf code (Sub.size (aF.bP x W)) (aF.bP x W) 1) e w'=D9 w.heap.size 0 code cf (aF.bP x W) (aF.oQ (aF.wr x W) cf code (Sub.size (aF.bP x W)) (aF.bP x W) 1) e w'):=hid (fun _ _=>rfl);by_cases hc1:code<1
 ·go_wp2
  refine kK ?_;go_ret3;exact⟨Ea.out,.inr (.inl ⟨rfl,.inl hc1,rfl⟩)⟩
 by_cases hc2:251<code
 ·go_wp2
  refine kK ?_;go_ret3;exact⟨Ea.out,.inr (.inl ⟨rfl,.inr hc2,rfl⟩)⟩
 have Vn:Hid (1<=code/\code<=251):=hid ⟨by omega,by omega⟩;have Mt:=hid BF;have HXb:=hid (fun X (hX:BL xP X)=>HX.out X (tnB acS.out hX));clear BF acT;go_upto_region 6 with fail;obtain⟨vV,sD,sE,vW⟩:=M9 HXb.out;refine bF 9 (.quiet 0 (.quiet 1 (.quiet 2 (.one 3 (.one 4 (.quiet 5 (.quiet 6 (.quiet 7 (.quiet 8 .done))))))))) (BL xP) mxT (by kernel_rfl) (af5 aj 1) ?_;have acU:Hid (BL xP (xP.drewN 1)):=hid (af5 aj 1);have Zp:Hid (BL w (xP.drewN 1)):=hid (af5 Ea.out 1);generalize xP.drewN 1=w21 at*
 iterate 3
  refine ai rfl ?_
  intro hne
  go_big_quiet_step (fail)
  refine zWq ?_
  clear hne
 refine aH rfl ?_;go_wp2_with fail;refine(KJ.out w21 Zp.out).mono ?_;rintro e w22 ⟨gf,rfl,hsf,hb3⟩;have Ux:=bq acU hb3;have Zq:=bq Zp hb3;have Wq:=hid (sU.out w22 _ _ Zq.out hsf.sl);clear hsf hb3 acU Zp;go_wp2_with fail;refine aC (BL xP) (fun _ h=>h) Ux.out ?_;refine aH rfl ?_;go_wp2_with fail;refine Wq.out.mono ?_;rintro e w23 ⟨g,rfl,hsf,hb4⟩;have Zr:=bq Ux hb4;have HB23:=bq Zq hb4;have Wr:Hid (gN (xP.heap.size<=·) w23 (.slice (some ⟨g,0,none⟩) K K) (aF.bP x W)):=hid (bN.mono (S':=(xP.heap.size<=·)) hsf (fun b _ hb=>Nat.le_trans Ux.out.size hb));clear hsf hb4 Ux Zq Wq;go_wp2_with fail;refine aC (BL xP) (fun _ h=>h) Zr.out ?_
 iterate 4
  refine ai rfl ?_
  intro hne
  go_big_quiet_step (fail)
  refine zWq ?_
  clear hne
 refine aL ?_;try simp only[zDs,zDz]
 clear vV sD sE vW;have acV:=hid (Mt.out.keep Zr.out);have R4:Hid (aP (w.heap.size<=·) w23 (.slice (some ⟨g,0,none⟩) K K) (aF.bP x W)):=hid (aP.mono Wr.out.sl (fun b _ h=>Nat.le_trans Ea.out.size h));have HGg:=hid (zH.out w23 _ _ _ _ acV.out YW.out HGv.out R4.out);unfold Ur;go_wp2_with fail;refine HGg.out.mono ?_;rintro e w24 ⟨rfl,hb4⟩;have HB24:=bq HB23 hb4;have HL24:=bq Zr hb4;have HS24:Hid (aP (w.heap.size<=·) w24 (.slice (some ⟨g,0,none⟩) K K) (aF.bP x W)):=hid (aP.keep R4.out (aA.below hb4));clear hb4 HGg R4 Wr acV;by_cases hcg:cf (aF.bP x W)=code;rotate_left
 ·have HN:Hid (cf (aF.bP x W)≠code):=hid hcg
  go_wp2;refine kK ?_;go_ret3;exact⟨HB24.out,.inr (.inr (.inl ⟨rfl,Vn.out,HN.out,rfl⟩))⟩
 have HCg:=hid hcg;rw[hcg];have hcc:(code !=code)=false:=by simp
 clear hcg;obtain⟨T,hT⟩:=nmE (ah.total W);have hT5:T<=512:=by rw[hT];exact ud.out
 obtain⟨F,hF⟩:=nmE (aF.oQ (aF.wr x W) cf code (Sub.size (aF.bP x W)) (aF.bP x W) 1);have hsT:Sub.size (aF.bP x W)<=T:=by rw[hT];exact iE YW.out
 have HI0:Hid (MN x W cf code T F (aF.bP x W) 1 (Sub.size (aF.bP x W))):=hid ⟨hF,aB,YW.out,HGv.out,hsT,by have:=Nat.mul_le_mul_right (T+1) hsT;omega⟩;have ET:T*(T+1)<=262656:=Nat.le_trans (Nat.mul_le_mul hT5 (show T+1<=513 by omega)) (by decide);have K8:=hid ET;have ZN:=hid (And.intro hT hF);clear hT hF hsT ET;go_wp2;go_step3;go_wp2;go_loopw [15,16] (fun vv rr wr=>∃(s:Sub.S) (r n:Nat) (ga:Option Addr) (gc:Nat),r<=262657/\vv=.slice ga K gc/\rr=.int .i64 (r:Int)/\Hid (MN x W cf code T F s r n)/\Hid (aP (w.heap.size<=·) wr (.slice ga K gc) s)/\Hid (BL xP wr)) (fun _ rr _=>262658-(intOf rr).toNat);case atStart=>exact⟨_,1,_,_,_,by omega,rfl,rfl,HI0,HS24,HL24⟩
 case round=>
  obtain⟨s,r,n0,ga,gc,hr,rfl,rfl,HI,HS,iO⟩:=hrel;have iP:=bq Ea iO.out;have Y8:=hid (Dg s (by have h1:=HI.out.KO;omega) _ _ wr HS.out);obtain⟨m,hm⟩:=nmE ((Sub.kept s).length);rw[<-hm] at Y8;have HM:=hid hm
  have Ga:m<=512:=by
   have h1:=HI.out.KO;unfold Sub.size at h1;omega
  have HRm:Hid (r+m<=262657):=hid (by
   have h1:=HI.out.runs
   have h2:=K8.out
   have h3:(Sub.kept s).length*1<=Sub.size s*(T+1):=Nat.mul_le_mul aB (by omega)
   omega)
  have hrm:r+m<=262657:=HRm.out;clear hm;go_wp2_with fail;refine Y8.out.mono ?_;rintro e wk ⟨ka,kc,rfl,JB,hbk⟩;have HAk:=hid (yA.of JB);have L0:=bq iO hbk;have VH:Hid (aP (fun b=>w.heap.size<=b/\b<wk.heap.size) wk (.slice ga K gc) s):=hid (aP.mono (aP.keep HS.out (aA.below hbk)) (fun b hb h=>⟨h,hb⟩))
  have hok:dG ka m:=by
   obtain⟨_,_,e,h1, -⟩:=JB.form;cases e;rw[jl,<-HM.out] at h1;exact h1
  clear JB hbk Y8 HS;go_wp2;generalize LY:wr=Wb at*;go_loopw [15,57,16] (fun vv jj rr wr=>∃j:Nat,j<=m/\vv=.slice ga K gc/\jj=.int .i64 (j:Int)/\rr=.int .i64 ((r+j:Nat):Int)/\Hid (∀i (h:i<(Sub.kept s).length),i<j->cf (Sub.without (aF.wr x W) s (Sub.kept s)[i].1 (Sub.kept s)[i].2)≠code)/\Hid (BL wk wr)) (fun _ jj _ _=>m-(intOf jj).toNat);case atStart=>exact⟨0,Nat.zero_le _,rfl,rfl,rfl,hid (fun i _ h=>absurd h (by omega)),hid aj⟩
  case round=>
   obtain⟨j,hj,rfl,rfl,rfl,yd,Qm⟩:=hrel;by_cases hjt:j<m
   ·have hj0:(0:Int)<=(j:Int):=by omega
    have hj1:(j:Int)<(m:Int):=by omega
    have hjk:j<(Sub.kept s).length:=by rw[<-HM.out];exact hjt
    obtain⟨c0,c1⟩:=(HAk.out.kept (fun b _ hl=>Qm.out.block b hl)).cells (j:=j) (by rw[jl];exact hjk);have hkm:(Sub.kept s)[j]∈Sub.kept s:=zGm hjk;have Wg:(l7 (Sub.kept s))[j]'(by rw[jl];exact hjk)=(((Sub.kept s)[j].1:Int),((Sub.kept s)[j].2:Int)):=by simp[l7]
    rw[Wg] at c0 c1;have uW:Hid (cf (Sub.without (aF.wr x W) s (Sub.kept s)[j].1 (Sub.kept s)[j].2)=code->∃n',MN x W cf code T F (Sub.without (aF.wr x W) s (Sub.kept s)[j].1 (Sub.kept s)[j].2) (r+j+1) n'):=hid (fun h=>HI.out.next hjk h (fun i hi=>yd.out i (by omega) hi))
    have Qi:Hid (cf (Sub.without (aF.wr x W) s (Sub.kept s)[j].1 (Sub.kept s)[j].2)≠code->∀i (h:i<(Sub.kept s).length),i<j+1->cf (Sub.without (aF.wr x W) s (Sub.kept s)[i].1 (Sub.kept s)[i].2)≠code):=hid (fun h i hi hij=>by
     by_cases e:i=j
     ·subst e;exact h
     ·exact yd.out i hi (by omega))
    generalize (Sub.kept s)[j]=q at*;obtain⟨k,i'⟩:=q;simp only at c0 c1 uW Qi;have Aj:Hid (Sub.keeps s k i'=true):=hid (Sub.cO.1 hkm);have HLj:=bq L0 Qm.out;obtain⟨w9,Im⟩:=nmE (wr.alloc (.cells #[.int .i64 (k:Int),.int .i64 (i':Int)] 87));have Ce:BL wr w9:=by rw[Im];exact aj.alloc aB _
    have JC:Hid (w9.heap[wr.heap.size]?=some (.cells #[.int .i64 (k:Int),.int .i64 (i':Int)] 87 (0,0))):=hid (by rw[Im];exact aD _ _ rfl);have acW:=bq Qm Ce;have uo:=bq HLj Ce;have uV:=bq Ea uo.out;have VA:=hid Im;clear Im Ce Wg hkm;go_upto_region 15 with fail;rw[<-VA.out];clear c0 c1;obtain⟨⟨y0,y1,y2,y3⟩, -⟩:=aO (HXb.out w9 uo.out);obtain⟨⟨a0,a1⟩, -⟩:=nN JC.out;have VU:=hid (XS.out w9 s k i' _ _ uV.out HI.out.fit Aj.out (aP.keep VH.out (aA.below acW.out)));go_wp2_with fail;refine VU.out.mono ?_;rintro e qF ⟨g2,rfl,hsf,sq⟩;have acX:=bq acW sq;have QU:=bq uo sq;have acY:Hid (aP (w.heap.size<=·) qF (.slice (some ⟨g2,0,none⟩) K K) (Sub.without (aF.wr x W) s k i')):=hid (aP.mono hsf.sl (fun b _ h=>Nat.le_trans uV.out.size h));have HGg:=hid (zH.out qF _ _ _ _ (Mt.out.keep QU.out) (Sub.nD (Sub.iU HI.out.fit k i')) (Sub.kF (Sub.iU HI.out.fit k i')) acY.out);have acZ:Hid (CB 93 #[.slice (some ⟨g2,0,none⟩) K K,.pointer (some ⟨w1.heap.size,0,none⟩),.pointer (some ⟨w1.heap.size+1,0,none⟩),.pointer (some ⟨w1.heap.size+2,0,none⟩),.pointer (some ⟨w1.heap.size+3,0,none⟩)] qF (.int .i64 (cf (Sub.without (aF.wr x W) s k i')))):=HGg;clear hsf sq VU y0 y1 y2 y3 a0 a1 HGg;generalize Sub.without (aF.wr x W) s k i'=t at*;go_wp2_with fail;refine acZ.out.mono ?_;rintro e D2 ⟨rfl,qq⟩;have ac0:=bq acX qq;have Un:=bq QU qq;have Zd:Hid (aP (w.heap.size<=·) D2 (.slice (some ⟨g2,0,none⟩) K K) t):=hid (aP.keep acY.out (aA.below qq));have hcast:((r+j:Nat):Int)+1=((r+j+1:Nat):Int):=by omega
    clear qq acZ;by_cases hct:cf t=code
    ·obtain⟨n',hI'⟩:=uW.out hct
     have HI':=hid hI';have hct2:(cf t==code)=true:=by simp[hct]
     clear hI' hcast uW Qi;go_wp2;go_roundw;case rel=>exact⟨_,r+j+1,n',_,_,by omega,rfl,by go_num,HI',Zd,Un⟩
     simp[intOf];omega
    ·have JF:=hid (Qi.out hct)
     have hct2:(cf t==code)=false:=by simp[hct]
     have hct3:decide (cf t=code)=false:=decide_eq_false hct;clear hcast uW Qi;go_wp2;go_roundw;case rel=>exact⟨j+1,by omega,rfl,by go_num,by go_num,JF,ac0⟩
     simp[intOf];omega
   ·obtain rfl:m=j:=by omega
    have HFe:Hid (F=(s,r+m)):=hid (by rw[HI.out.eq,aF.JH n0 r (fun i hi=>yd.out i hi (by rw[HM.out];exact hi)),HM.out]);have HBj2:Hid (BL w wr):=hid (tnB Ea.out (tnB L0.out Qm.out));have HSj:Hid (aP (w.heap.size<=·) wr (.slice ga K gc) s):=hid (aP.mono (aP.keep VH.out (aA.below Qm.out)) (fun b _ h=>h.1));go_wp2;refine kK ?_;go_ret3;exact⟨HBj2.out,.inr (.inr (.inr ⟨rfl,Vn.out,HCg.out,.slice ga K gc,by rw[<-ZN.out.2,HFe.out];rfl,by rw[<-ZN.out.2,HFe.out];exact HSj.out⟩))⟩
theorem wh{W:ah.bK}{z:Int×Int}:∀{n:Nat},z∈ji W n->∃k i:Nat,z=((k:Int),(i:Int))/\k<n/\i<(W.getD k []).length
 |0,h=>by simp[ji] at h
 |n+1,h=>by
  rw[ji,List.mem_append] at h;rcases h with h|h
  ·obtain⟨k,i,h1,h2,h3⟩:=wh h
   exact⟨k,i,h1,by omega,h3⟩
  ·obtain⟨i,h1,rfl⟩:=List.mem_map.1 h
   exact⟨n,i,rfl,by omega,List.mem_range.1 h1⟩
theorem JK{W:ah.bK}{n:Nat}(h:n<(jc W).length):∃k i:Nat,(jc W)[n]=((k:Int),(i:Int))/\k<W.length/\i<(W.getD k []).length:=wh (zGm h)
theorem nO(s:Sub.S)(kW:Sub.size s<=1000000)(t:Value)(U:Nat->Prop)(w:World)(hs:aP U w t s):
  Calls Tryz.prog 38 #[t] w fun e w'=>e=.returned (.int .i64 (Sub.size s:Nat))/\BL w w':=(Dr.nO s kW t U w hs).mono fun _ _ h=>⟨h.1,h.2.toB⟩
theorem nQ(sh:List Nat)(a b:Sub.S)(hfa:Sub.Fit sh a)(wO:Sub.Fit sh b)(hsa:Sub.size a<=1000000)(hsb:Sub.size b<=1000000)(kW:sh.length<=1000000)(t u:Value)(U V:Nat->Prop)(w:World)(ha:aP U w t a)(hb:aP V w u b):
  Calls Tryz.prog 34 #[t,u] w fun e w'=>e=.returned (.bool (Sub.less sh a b))/\BL w w':=(Dr.nQ sh a b hfa wO hsa hsb kW t u U V w ha hb).mono fun _ _ h=>⟨h.1,h.2.toB⟩
def xL:ah.bD:=⟨0,[⟨⟨#[97]⟩,0,9,[⟨⟨#[105,100]⟩,ah.nil,ah.nil,0,0,0,[],[]⟩]⟩],[],[]⟩
def wL:ah.bK:=[[[5],[9],[2]]]
def pL:List Vm.Ins:=[⟨4,1,0,0⟩,⟨1,2,2,0⟩,⟨7,1,2,4⟩,⟨0,3,0,0⟩]
def lL:List Sub.S:=[[[false,false,false]],[[true,false,false]],[[false,true,false]],[[false,false,true]],[[true,true,false]],[[true,false,true]],[[false,true,true]],[[true,true,true]]]
theorem okL:ah.okB xL=true:=by kernel_rfl
theorem Uz:aF.dF xL wL=true:=by kernel_rfl
theorem Zt:aF.bT xL=[]:=by kernel_rfl
theorem Zu(t:Sub.S):Sub.valid (aF.wr xL wL) t=true:=by
 rw[Sub.fW];intro k i _;unfold aF.wr aF.wrong;rw[Zt];rfl
theorem JL:aF.iD xL wL lL where
 sorted:=by unfold Sub.Sorted;decide
 mem t:=by
  constructor
  ·intro h
   refine⟨?_,Zu t⟩;have hf:∀a b c:Bool,Sub.Fit (aF.shape wL) [[a,b,c]]:=fun a b c=>⟨rfl,fun k=>by cases k<;>rfl⟩;simp only[lL,zMc,zNn,or_false] at h;rcases h with rfl|rfl|rfl|rfl|rfl|rfl|rfl|rfl<;>exact hf _ _ _
  ·rintro ⟨⟨h1,h2⟩, -⟩
   have h3:=h2 0;match t,h1,h3 with
   |[[a,b,c]],_,_=>cases a<;>cases b<;>cases c<;>simp[lL]
theorem JM:aF.l8 xL wL pL 9=0:=by kernel_rfl
theorem JN:aF.j4 (aF.jI xL wL pL 9) 3 lL=some 4:=by kernel_rfl
theorem Zv:aF.jI xL wL pL 9 (aF.bP xL wL)=3:=by kernel_rfl
theorem ac2:aF.oQ (aF.wr xL wL) (aF.jI xL wL pL 9) 3 (Sub.size (aF.bP xL wL)) (aF.bP xL wL) 1=([[false,true,true]],4):=by kernel_rfl
theorem fdL(k j:Int):(ah.fd xL k j).kind=0:=by
 have hz:∀f:ah.cA,f=⟨⟨#[105,100]⟩,ah.nil,ah.nil,0,0,0,[],[]⟩\/f=ah.sZ->f.kind=0:=fun f h=>by
  rcases h with rfl|rfl<;>rfl
 refine hz _ ?_
 have hk:ah.kd xL k=⟨⟨#[97]⟩,0,9,[⟨⟨#[105,100]⟩,ah.nil,ah.nil,0,0,0,[],[]⟩]⟩\/ah.kd xL k=ah.Er:=by
  unfold ah.kd xL;cases k.toNat with
  |zero=>exact .inl rfl
  |succ n=>exact .inr rfl
 unfold ah.fd;rcases hk with e|e<;>rw[e]
 ·cases j.toNat with
  |zero=>exact .inl rfl
  |succ n=>exact .inr rfl
 ·exact .inr rfl
theorem Q9:QW xL wL:=fun k i j h=>by rw[fdL] at h;cases h
theorem nT{α:Type}{R:World->Value->α->Prop}{S:Nat->Prop}{w:World}{g:Nat}{vs:List Value}{xs:List α}{t:TypeId}(hb:w.heap[g]?=some (.cells vs.toArray t (0,0))){m:Nat}(hx:xs.length=m)(hl:vs.length=xs.length)(hm:xs.length<=1000)(hS:S g)
  (hR:∀j (h1:j<vs.length) (h2:j<xs.length),R w vs[j] xs[j]):eX R S w (.slice (some ⟨g,0,none⟩) m m) xs:=by
 subst hx;refine⟨some ⟨g,0,none⟩,xs.length,rfl,fun _=>⟨_,_,rfl⟩,aB,by unfold maxLen;omega,fun _=>hS,fun j hj=>⟨vs[j]'(by omega),?_,hR j (by omega) hj⟩⟩;show w.cell? ⟨g,0+j,none⟩=_
 rw[Nat.zero_add,aI hb];simp[hl,hj]
theorem wj{α:Type}{n:Nat}{R:World->List Value->α->Prop}{S:Nat->Prop}{w:World}{g:Nat}(jS:List (List Value)){xs:List α}{t:TypeId}(hb:w.heap[g]?=some (.cells jS.flatten.toArray t (0,0))){m:Nat}(hx:xs.length=m)(hl:jS.length=xs.length)(hn:∀us∈jS,us.length=n)(hm:xs.length<=1000)(hS:S g)
  (hR:∀j (h1:j<jS.length) (h2:j<xs.length),R w jS[j] xs[j]):dA n R S w (.slice (some ⟨g,0,none⟩) m m) xs:=by
 subst hx;refine⟨some ⟨g,0,none⟩,xs.length,rfl,fun _=>⟨_,_,rfl⟩,aB,by unfold maxLen;omega,fun _=>hS,fun j hj=>⟨jS[j]'(by omega),hn _ (zGm _),fun i u hu=>?_,hR j (by omega) hj⟩⟩;have hj':j<jS.length:=by omega
 have hi:i<n:=by
  have:=(List.getElem?_eq_some_iff.1 hu).1;rw[hn _ (zGm hj')] at this;exact this
 show w.cell? ⟨g,0+j*n+i,none⟩=_
 rw[Nat.zero_add,aI hb,List.getElem?_toArray,qC jS j hj' i hn hi];exact hu
theorem schL{S:Nat->Prop}{w:World}{g h:Nat}(h1:w.heap[g]?=some (.cells #[.string ⟨#[105,100]⟩,.string ah.nil,.string ah.nil,.int .i64 0,.int .i64 0,.int .i64 0,.slice none 0 0,.slice none 0 0] 117 (0,0)))
  (h2:w.heap[h]?=some (.cells #[.string ⟨#[97]⟩,.int .i64 0,.int .i64 9,.slice (some ⟨g,0,none⟩) 1 1] 102 (0,0)))(hg:S g)(hh:S h):
  eU S w (.agg #[.int .i64 0,.slice (some ⟨h,0,none⟩) 1 1,.slice none 0 0,.slice none 0 0]) xL:=by
 have f1:dh S w (.slice (some ⟨g,0,none⟩) 1 1) [⟨⟨#[105,100]⟩,ah.nil,ah.nil,0,0,0,[],[]⟩]:=
  wj (α:=ah.cA) (R:=jm S) (n:=8) [[.string ⟨#[105,100]⟩,.string ah.nil,.string ah.nil,.int .i64 0,.int .i64 0,.int .i64 0,.slice none 0 0,.slice none 0 0]] h1 rfl rfl (fun us h=>by rw[zMs.1 h];rfl) (by simp) hg (fun j a1 a2=>by
   obtain rfl:j=0:=by simpa using a1
   exact⟨_,_,rfl,eX.nil _ _ _,eX.nil _ _ _⟩)
 have k1:fV S w (.slice (some ⟨h,0,none⟩) 1 1) [⟨⟨#[97]⟩,0,9,[⟨⟨#[105,100]⟩,ah.nil,ah.nil,0,0,0,[],[]⟩]⟩]:=
  wj (α:=ah.dZ) (R:=Be S) (n:=4) [[.string ⟨#[97]⟩,.int .i64 0,.int .i64 9,.slice (some ⟨g,0,none⟩) 1 1]] h2 rfl rfl (fun us h=>by rw[zMs.1 h];rfl) (by simp) hh (fun j a1 a2=>by
   obtain rfl:j=0:=by simpa using a1
   exact⟨_,rfl,f1⟩)
 exact⟨_,_,_,rfl,k1,dA.nil _ _ _ _,dA.nil _ _ _ _⟩
theorem wldL{S:Nat->Prop}{w:World}{g0 g1 g2 g3 g4:Nat}(h0:w.heap[g0]?=some (.cells #[.int .i64 5] 3 (0,0)))(h1:w.heap[g1]?=some (.cells #[.int .i64 9] 3 (0,0)))(h2:w.heap[g2]?=some (.cells #[.int .i64 2] 3 (0,0)))
  {t3 t4:TypeId}(h3:w.heap[g3]?=some (.cells #[.slice (some ⟨g0,0,none⟩) 1 1,.slice (some ⟨g1,0,none⟩) 1 1,.slice (some ⟨g2,0,none⟩) 1 1] t3 (0,0)))(h4:w.heap[g4]?=some (.cells #[.slice (some ⟨g3,0,none⟩) 3 3] t4 (0,0)))
  (s0:S g0)(s1:S g1)(s2:S g2)(s3:S g3)(s4:S g4):dc S w (.slice (some ⟨g4,0,none⟩) 1 1) wL:=by
 have one:∀(g:Nat) (n:Int),w.heap[g]?=some (.cells #[.int .i64 n] 3 (0,0))->S g->bO S w (.slice (some ⟨g,0,none⟩) 1 1) [n]:=fun g n h hs=>
  nT (vs:=[.int .i64 n]) (xs:=[n]) h rfl rfl (by simp) hs (fun j a1 a2=>by
   match j,a1 with
   |0,_=>rfl)
 refine nT (vs:=[.slice (some ⟨g3,0,none⟩) 3 3]) (xs:=wL) h4 rfl rfl (by simp[wL]) s4 (fun j a1 a2=>?_);obtain rfl:j=0:=by simpa using a1
 refine nT (vs:=[.slice (some ⟨g0,0,none⟩) 1 1,.slice (some ⟨g1,0,none⟩) 1 1,.slice (some ⟨g2,0,none⟩) 1 1]) (xs:=[[5],[9],[2]]) h3 rfl rfl (by simp) s3 (fun j a1 a2=>?_);match j,a1 with
 |0,_=>exact one _ _ h0 s0
 |1,_=>exact one _ _ h1 s1
 |2,_=>exact one _ _ h2 s2
theorem prgL{S:Nat->Prop}{w:World}{g:Nat}{t:TypeId}(h:w.heap[g]?=some (.cells #[.int .i64 4,.int .i64 1,.int .i64 0,.int .i64 0,.int .i64 1,.int .i64 2,.int .i64 2,.int .i64 0,.int .i64 7,.int .i64 1,.int .i64 2,.int .i64 4,.int .i64 0,.int .i64 3,.int .i64 0,.int .i64 0] t (0,0)))(hs:S g):
  nG S w (.slice (some ⟨g,0,none⟩) 4 4) pL:=by
 refine wj (xs:=pL) [[.int .i64 4,.int .i64 1,.int .i64 0,.int .i64 0],[.int .i64 1,.int .i64 2,.int .i64 2,.int .i64 0],[.int .i64 7,.int .i64 1,.int .i64 2,.int .i64 4],[.int .i64 0,.int .i64 3,.int .i64 0,.int .i64 0]] h rfl rfl (by simp) (by simp[pL]) hs (fun j a1 a2=>?_);match j,a1 with
 |0,_=>rfl
 |1,_=>rfl
 |2,_=>rfl
 |3,_=>rfl
theorem wsL:wL.length<=1000/\∀r∈wL,r.length<=1000000:=⟨by decide,by decide⟩
theorem n9L:sM 9:=by unfold sM;omega
theorem Ra(v u:Value)(tb B:Nat)(w:World)(ha:l6 tb xL wL v u B w):
  Calls Tryz.prog 14 #[v,u,.int .i64 8] w fun e w'=>BL w w'/\∃a c,e=.returned (.tuple #[.slice a 8 c,.int .i64 0]):=by
 refine(F3 xL wL lL JL okL Uz wsL (by decide) (by decide) 8 v u tb B w ha).mono ?_;rintro e w' ⟨h1,h2⟩;refine⟨h1,?_⟩;rcases h2 with⟨h, -⟩|⟨-, -,⟨-,a,c,h, -⟩|⟨h, -⟩⟩
 ·omega
 ·exact⟨a,c,h⟩
 ·exact absurd h (by decide)
theorem BU(v u pv:Value)(tb B:Nat)(w:World)(ha:l6 tb xL wL v u B w)(hp:nG (·<B) w pv pL):
  Calls Tryz.prog 20 #[v,u,pv,.int .i64 9,.int .i64 3] w fun e w'=>BL w w'/\∃us a1 c1 a2 c2,e=.returned (.tuple #[.agg #[us,.int .i64 3,.slice a1 4 c1,.slice a2 4 c2],.int .i64 0])/\
   aP (w.heap.size<=·) w' us [[true,true,false]]/\cW w.heap.size (w.heap.size<=·) w' (.slice a1 4 c1) (lL.take 4)/\cF (w.heap.size<=·) w' (.slice a2 4 c2) ((lL.take 4).map (aF.jI xL wL pL 9)):=by
 refine(BQ xL wL lL JL okL Uz wsL (by decide) (by decide) Q9 pL 9 n9L 3 v u pv tb B w ha hp).mono ?_;rintro e w' ⟨h1,h2⟩;refine⟨h1,?_⟩;rcases h2 with⟨h, -⟩|⟨-,h, -⟩|⟨-, -,h, -⟩|⟨-, -, -,h, -⟩|⟨-, -, -,m,s,h3,h4,us,um,uc,he,h5,h6,h7⟩
 ·exact absurd JM h
 ·omega
 ·exact absurd h (by decide)
 ·rw[JN] at h;cases h
 ·rw[JN] at h3
  cases h3;cases h4;obtain⟨a1,c1,rfl, -⟩:=h6.form;obtain⟨a2,c2,rfl, -⟩:=h7.sl.form;exact⟨us,a1,c1,a2,c2,he,h5,h6,h7⟩
theorem MQ(v u pv:Value)(tb B:Nat)(w:World)(ha:l6 tb xL wL v u B w)(hp:nG (·<B) w pv pL):
  Calls Tryz.prog 30 #[v,u,pv,.int .i64 9,.int .i64 3] w fun e w'=>BL w w'/\∃us,e=.returned (.tuple #[us,.int .i64 4,.int .i64 0])/\aP (w.heap.size<=·) w' us [[false,true,true]]:=by
 refine(MO xL wL okL Uz wsL (by decide) Q9 pL 9 n9L 3 v u pv tb B w ha hp).mono ?_;rintro e w' ⟨h1,h2⟩;refine⟨h1,?_⟩;rcases h2 with⟨h, -⟩|⟨-,h, -⟩|⟨-, -,h, -⟩|⟨-, -, -,us,h3,h4⟩
 ·exact absurd JM h
 ·omega
 ·exact absurd Zv h
 ·rw[ac2] at h3 h4
  exact⟨us,h3,h4⟩
theorem JO(v u pv us um uc:Value)(U V:Nat->Prop)(B0:Nat)(E:Nat->Prop)(tb B:Nat)(w:World)(ha:l6 tb xL wL v u B w)(hp:nG (·<B) w pv pL)
  (pE:aP U w us [[true,true,false]])(hum:cW B0 E w um (lL.take 4))(huc:bO V w uc ((lL.take 4).map (aF.jI xL wL pL 9))):
  Calls Tryz.prog 26 #[v,u,pv,.int .i64 9,.agg #[us,.int .i64 3,um,uc]] w fun e w'=>e=.returned (.int .i64 0)/\BL w w':=
 JG xL wL lL JL okL Uz wsL (by decide) (by decide) Q9 pL 9 n9L 3 (by omega) JM 4 [[true,true,false]] JN rfl v u pv us um uc U V B0 E tb B w ha hp pE hum huc
theorem ac3(w:World)(a b c:Bool)(t1 t2:TypeId):aP yQ ((w.alloc (.cells #[.bool a,.bool b,.bool c] t1)).alloc (.cells #[.slice (some ⟨w.heap.size,0,none⟩) 3 3] t2)) (.slice (some ⟨w.heap.size+1,0,none⟩) 1 1) [[a,b,c]]:=
 nT (vs:=[.slice (some ⟨w.heap.size,0,none⟩) 3 3]) (xs:=[[a,b,c]]) (aD _ _ (by simp)) rfl rfl (by simp) trivial (fun j h1 h2=>by
  match j,h1 with
  |0,_=>exact nT (vs:=[.bool a,.bool b,.bool c]) (xs:=[a,b,c]) (aG _ (aD _ _ (by simp))) rfl rfl (by simp) trivial (fun j g1 g2=>by
   match j,g1 with
   |0,_=>rfl
   |1,_=>rfl
   |2,_=>rfl))
theorem lJ(w:World)(o p:Obj):BL w ((w.alloc o).alloc p):=(aj.alloc aB _).alloc (by simp) _
theorem MR(tb:Nat)(w:World)(hlaid:LaidW w)(htab:TabC tb w):
  Calls Tryz.prog 17 #[] w fun e w'=>e=.returned (.bool true)/\BL w w':=by
 obtain⟨w3,hw3⟩:=nmE ((((((((((w.alloc (.cells #[.string ⟨#[105,100]⟩,.string ⟨#[]⟩,.string ⟨#[]⟩,.int .i64 0,.int .i64 0,.int .i64 0,.slice none 0 0,.slice none 0 0] 117)).alloc (.cells #[.string ⟨#[97]⟩,.int .i64 0,.int .i64 9,.slice (some ⟨w.heap.size,0,none⟩) 1 1] 102)).alloc (.cells #[.int .i64 0,.slice (some ⟨w.heap.size+1,0,none⟩) 1 1,.slice none 0 0,.slice none 0 0] 27)).alloc (.cells #[.int .i64 5] 3)).alloc (.cells #[.int .i64 9] 3)).alloc (.cells #[.int .i64 2] 3)).alloc (.cells #[.slice (some ⟨w.heap.size+1+1+1,0,none⟩) 1 1,.slice (some ⟨w.heap.size+1+1+1+1,0,none⟩) 1 1,.slice (some ⟨w.heap.size+1+1+1+1+1,0,none⟩) 1 1] 22)).alloc (.cells #[.slice (some ⟨w.heap.size+1+1+1+1+1+1,0,none⟩) 3 3] 115)).alloc (.cells #[.int .i64 4,.int .i64 1,.int .i64 0,.int .i64 0,.int .i64 1,.int .i64 2,.int .i64 2,.int .i64 0,.int .i64 7,.int .i64 1,.int .i64 2,.int .i64 4,.int .i64 0,.int .i64 3,.int .i64 0,.int .i64 0] 121)));have hs3:w3.heap.size=w.heap.size+9:=by rw[hw3];simp
 have hb3:BL w w3:=by
  rw[hw3];exact((((((((aj.alloc aB _).alloc (by simp) _).alloc (by simp;omega) _).alloc (by simp;omega) _).alloc (by simp;omega) _).alloc (by simp;omega) _).alloc (by simp;omega) _).alloc (by simp;omega) _).alloc (by simp;omega) _
 have f0:w3.heap[w.heap.size]?=some (.cells #[.string ⟨#[105,100]⟩,.string ⟨#[]⟩,.string ⟨#[]⟩,.int .i64 0,.int .i64 0,.int .i64 0,.slice none 0 0,.slice none 0 0] 117 (0,0)):=by rw[hw3];exact aG _ (aG _ (aG _ (aG _ (aG _ (aG _ (aG _ (aG _ (aD _ _ (by simp)))))))))
 have f1:w3.heap[w.heap.size+1]?=some (.cells #[.string ⟨#[97]⟩,.int .i64 0,.int .i64 9,.slice (some ⟨w.heap.size,0,none⟩) 1 1] 102 (0,0)):=by rw[hw3];exact aG _ (aG _ (aG _ (aG _ (aG _ (aG _ (aG _ (aD _ _ (by simp))))))))
 have f2:w3.heap[w.heap.size+1+1]?=some (.cells #[.int .i64 0,.slice (some ⟨w.heap.size+1,0,none⟩) 1 1,.slice none 0 0,.slice none 0 0] 27 (0,0)):=by rw[hw3];exact aG _ (aG _ (aG _ (aG _ (aG _ (aG _ (aD _ _ (by simp)))))))
 have f3:w3.heap[w.heap.size+1+1+1]?=some (.cells #[.int .i64 5] 3 (0,0)):=by rw[hw3];exact aG _ (aG _ (aG _ (aG _ (aG _ (aD _ _ (by simp))))))
 have f4:w3.heap[w.heap.size+1+1+1+1]?=some (.cells #[.int .i64 9] 3 (0,0)):=by rw[hw3];exact aG _ (aG _ (aG _ (aG _ (aD _ _ (by simp)))))
 have f5:w3.heap[w.heap.size+1+1+1+1+1]?=some (.cells #[.int .i64 2] 3 (0,0)):=by rw[hw3];exact aG _ (aG _ (aG _ (aD _ _ (by simp))))
 have f6:w3.heap[w.heap.size+1+1+1+1+1+1]?=some (.cells #[.slice (some ⟨w.heap.size+1+1+1,0,none⟩) 1 1,.slice (some ⟨w.heap.size+1+1+1+1,0,none⟩) 1 1,.slice (some ⟨w.heap.size+1+1+1+1+1,0,none⟩) 1 1] 22 (0,0)):=by rw[hw3];exact aG _ (aG _ (aD _ _ (by simp)))
 have f7:w3.heap[w.heap.size+1+1+1+1+1+1+1]?=some (.cells #[.slice (some ⟨w.heap.size+1+1+1+1+1+1,0,none⟩) 3 3] 115 (0,0)):=by rw[hw3];exact aG _ (aD _ _ (by simp))
 have f8:w3.heap[w.heap.size+1+1+1+1+1+1+1+1]?=some (.cells #[.int .i64 4,.int .i64 1,.int .i64 0,.int .i64 0,.int .i64 1,.int .i64 2,.int .i64 2,.int .i64 0,.int .i64 7,.int .i64 1,.int .i64 2,.int .i64 4,.int .i64 0,.int .i64 3,.int .i64 0,.int .i64 0] 121 (0,0)):=by rw[hw3];exact aD _ _ (by simp)
 have bG:=hid hb3;have UA:Hid (∀X,BL w3 X->X.heap[w.heap.size+1+1]?=some (.cells #[.int .i64 0,.slice (some ⟨w.heap.size+1,0,none⟩) 1 1,.slice none 0 0,.slice none 0 0] 27 (0,0))):=hid (fun X hX=>(hX.block _ (by omega)).trans f2)
 have HA:Hid (l6 tb xL wL (.agg #[.int .i64 0,.slice (some ⟨w.heap.size+1,0,none⟩) 1 1,.slice none 0 0,.slice none 0 0]) (.slice (some ⟨w.heap.size+1+1+1+1+1+1+1,0,none⟩) 1 1) w3.heap.size w3):=hid
  {vY:=schL f0 f1 (by omega) (by omega)
   sG:=wldL f3 f4 f5 f6 f7 (by omega) (by omega) (by omega) (by omega) (by omega)
   laid:=hlaid.next hb3
   tab:=htab.below hb3 htab.lt (by have:=hlaid.size;omega)
   tbB:=zLl htab.lt hb3.size
   size:=Nat.le_trans hlaid.size hb3.size
   le:=aB}
 have HP:Hid (nG (·<w3.heap.size) w3 (.slice (some ⟨w.heap.size+1+1+1+1+1+1+1+1,0,none⟩) 4 4) pL):=hid (prgL f8 (by omega));have Ei:=hid (Ra _ _ tb _ w3 HA.out);have Tg:=hid (fun X (hX:BL w3 X)=>BU _ _ _ tb _ X (HA.out.next hX) (HP.out.keep (aA.below hX)));have HFa:=hid (fun X (hX:BL w3 X)=>MQ _ _ _ tb _ X (HA.out.next hX) (HP.out.keep (aA.below hX)));have IY:=hid (fun X us um uc U V B0 E (hX:BL w3 X) h1 h2 h3=>JO _ _ _ us um uc U V B0 E tb _ X (HA.out.next hX) (HP.out.keep (aA.below hX)) h1 h2 h3);clear f0 f1 f2 f3 f4 f5 f6 f7 f8 hs3 hb3 hlaid htab;have HW3:=hid hw3;clear hw3;obtain⟨⟨y0,y1,y2,y3⟩, -⟩:=aO (UA.out w3 aj);go_enter Tryz.func17,Tryz.ntmps17;go_upto_region 4 with fail;rw[show (⟨#[]⟩:ByteArray)=ah.nil from rfl] at*;rw[<-HW3.out];go_wp2_with fail;refine Ei.out.mono ?_;rintro e w4 ⟨hb4,aa,ca,rfl⟩;have dO:Hid (BL w3 w4):=hid hb4;clear hb4 y0 y1 y2 y3 Ei;obtain⟨⟨y0,y1,y2,y3⟩, -⟩:=aO (UA.out w4 dO.out);go_wp2_with fail;refine(Tg.out w4 dO.out).mono ?_;rintro e w5 ⟨gL,us,a1,c1,a2,c2,rfl,h1,h2,h3⟩;have dP:=bq dO gL
 obtain⟨a0,c0,rfl⟩:∃a0 c0,us=.slice a0 1 c0:=by
  obtain⟨a,c,e, -⟩:=h1.form;exact⟨a,c,e⟩
 have H1:=hid h1;have H2:=hid h2;have H3:=hid h3;clear gL h1 h2 h3 y0 y1 y2 y3;obtain⟨w6,jf⟩:=nmE (w5.alloc (.cells #[.slice a0 1 c0,.int .i64 3,.slice a1 4 c1,.slice a2 4 c2] 53));have lN:BL w5 w6:=by rw[jf];exact aj.alloc aB _
 have jC:=bq dP lN;have Fx:Hid (w6.heap[w5.heap.size]?=some (.cells #[.slice a0 1 c0,.int .i64 3,.slice a1 4 c1,.slice a2 4 c2] 53 (0,0))):=hid (by rw[jf];exact aD _ _ rfl);have wJ:Hid (aP (w4.heap.size<=·) w6 (.slice a0 1 c0) [[true,true,false]]):=hid (aP.keep H1.out (aA.below lN));have xU:Hid (cW w4.heap.size (w4.heap.size<=·) w6 (.slice a1 4 c1) (lL.take 4)):=hid (H2.out.next lN);have NA:Hid (bO (w4.heap.size<=·) w6 (.slice a2 4 c2) ((lL.take 4).map (aF.jI xL wL pL 9))):=hid (bO.keep H3.out.sl (aA.below lN));have CT:=hid jf;clear jf lN H1 H2 H3;obtain⟨⟨y0,y1,y2,y3⟩, -⟩:=aO (UA.out w6 jC.out);go_upto_region 6 with fail;rw[<-CT.out];go_wp2_with fail;refine(HFa.out w6 jC.out).mono ?_;rintro e w7 ⟨jM,uf,rfl,h4⟩;have kN:=bq jC jM;have zU:Hid (w7.heap[w5.heap.size]?=some (.cells #[.slice a0 1 c0,.int .i64 3,.slice a1 4 c1,.slice a2 4 c2] 53 (0,0))):=hid ((jM.block _ (ay Fx.out)).trans Fx.out);have wI:Hid (aP (w4.heap.size<=·) w7 (.slice a0 1 c0) [[true,true,false]]):=hid (aP.keep wJ.out (aA.below jM));have mV:Hid (cW w4.heap.size (w4.heap.size<=·) w7 (.slice a1 4 c1) (lL.take 4)):=hid (xU.out.next jM);have xV:Hid (bO (w4.heap.size<=·) w7 (.slice a2 4 c2) ((lL.take 4).map (aF.jI xL wL pL 9))):=hid (bO.keep NA.out (aA.below jM));have JX:=hid h4;clear jM h4 wJ xU NA Fx y0 y1 y2 y3;obtain⟨⟨y0,y1,y2,y3⟩, -⟩:=aO (UA.out w7 kN.out);obtain⟨⟨z0,z1,z2,z3⟩, -⟩:=aO zU.out;have HC:=hid (IY.out w7 _ _ _ _ _ _ _ kN.out wI.out mV.out xV.out);have g1:((0:Int) !=0)=false:=rfl;have g2:((8:Int) !=8)=false:=rfl;have g3:((4:Int) !=4)=false:=rfl;go_wp2_with fail;refine HC.out.mono ?_;rintro e w8 ⟨rfl,mK⟩;have lP:=bq kN mK;have rO:Hid (w8.heap[w5.heap.size]?=some (.cells #[.slice a0 1 c0,.int .i64 3,.slice a1 4 c1,.slice a2 4 c2] 53 (0,0))):=hid ((mK.block _ (ay zU.out)).trans zU.out);have Ss:Hid (aP (w4.heap.size<=·) w8 (.slice a0 1 c0) [[true,true,false]]):=hid (aP.keep wI.out (aA.below mK));have HU4:=hid (aP.keep JX.out (aA.below mK));clear mK wI mV xV JX zU y0 y1 y2 y3 z0 z1 z2 z3 HC;obtain⟨⟨z0,z1,z2,z3⟩, -⟩:=aO rO.out;go_wp2_with fail;refine(tP _ _ _ _ _ _ _ (aP.keep Ss.out (aA.below (lJ w8 _ _))) (ac3 w8 true true false _ _)).mono ?_;rintro e w9 ⟨z,rfl,hz,hd⟩;have hz1:z=true:=hz.2 rfl;have zQ:=hid ((lJ w8 (.cells #[.bool true,.bool true,.bool false] 4) (.cells #[.slice (some ⟨w8.heap.size,0,none⟩) 3 3] 94)).trans (hd.below.mono (lJ w8 (.cells #[.bool true,.bool true,.bool false] 4) (.cells #[.slice (some ⟨w8.heap.size,0,none⟩) 3 3] 94)).size));have uV:=bq lP zQ.out;have HU5:=hid (aP.keep HU4.out (aA.below zQ.out));subst hz1;clear hz hd z0 z1 z2 z3 zQ Ss HU4 rO
 obtain⟨af,cf,rfl⟩:∃af cf,uf=.slice af 1 cf:=by
  obtain⟨a,c,e, -⟩:=HU5.out.form;exact⟨a,c,e⟩
 go_wp2_with fail;refine(tP _ _ _ _ _ _ _ (aP.keep HU5.out (aA.below (lJ w9 _ _))) (ac3 w9 false true true _ _)).mono ?_;rintro e gX ⟨z,rfl,hz,hd⟩;have hz1:z=true:=hz.2 rfl;have zQ:=hid ((lJ w9 (.cells #[.bool false,.bool true,.bool true] 4) (.cells #[.slice (some ⟨w9.heap.size,0,none⟩) 3 3] 94)).trans (hd.below.mono (lJ w9 (.cells #[.bool false,.bool true,.bool true] 4) (.cells #[.slice (some ⟨w9.heap.size,0,none⟩) 3 3] 94)).size));have tX:=bq uV zQ.out;subst hz1;clear hz hd zQ;go_wp2;go_ret;exact⟨rfl,tnB bG.out tX.out⟩
theorem MS{x:ah.bD}{W:ah.bK}(h:ah.yE x W){l:List Sub.S}(hl:aF.iD x W l):l.length<=64:=by
 refine Nat.le_trans hl.le ?_;have:2 ^ ah.total W<=2 ^ 6:=Nat.pow_le_pow_right (by omega) h.tot;omega
theorem wu:∀{W:ah.bK},∀r∈W,r.length<=ah.total W
 |[],r,h=>by simp at h
 |a::W,r,h=>by
  have e:ah.total (a::W)=a.length+ah.total W:=by simp[ah.total]
  rcases zMc.1 h with rfl|h
  ·omega
  ·have:=wu r h;omega
theorem own:ownKnob Tryz.prog.godebug=none:=by kernel_rfl
theorem laidOut:laidOutB Tryz.prog=true:=by kernel_rfl
def laidL:List (String×DataW Unit):=[("math/bits.deBruijn32tab",Rows.laid_math_bits_deBruijn32tab),("math/bits.deBruijn64tab",Rows.laid_math_bits_deBruijn64tab),("internal/strconv.uint64pow10",Rows.laid_internal_strconv_uint64pow10),("diorama/schema.words",Rows.laid_diorama_schema_words),("diorama/typing.checks",Rows.laid_diorama_typing_checks)]
theorem AO{W:World}(h:laidMetH Tryz.prog laidL W)(n:String)(d:DataW Unit)(hf:(laidL.filter fun x=>x.1==n)=[(n,d)])(hp:d.handleName?.isNone=true):laidMet Tryz.prog [(n,d)] W:=by
 have h1:=h.filter (fun x=>x.1==n);rw[hf,Go.MakeChecks.laidMetH_plain _ _ _ (by simp[hp])] at h1;exact h1
theorem AP{fuel:Nat}{t e:TypeId}{n:Nat}{cs:List Value}{ss:List (List UInt8)}{p:List MemPlace}{H:Type}{enc:TypeId×Value->H}{P:Program}{w:World}{base:Nat}{sp:Nat->Bool}{held:Bool}
  (ht:P.underlying t=some (.array n e))(he:P.underlying e=some .string)(hce:P.cellsOf e=1)(hct:P.cellsOf t=n)
  (h:DataW.trod enc P w base sp held fuel t cs=some (.agg (ss.map fun s=>.lit (.string s)),p)):∀(i:Nat) (s:List UInt8),ss[i]?=some s->cs[i]?=some (.string ⟨s.toArray⟩):=by
 cases fuel with
 |zero=>simp[DataW.trod] at h
 |succ fuel=>
  simp only[DataW.trod,ht,hce,hct,Nat.mul_one] at h
  split at h
  ·rename_i hl
   obtain⟨xs,hm,hx⟩:=Option.map_eq_some_iff.1 h
   have hxs:xs.map (·.1)=ss.map fun s=>(DataW.lit (.string s):DataW H):=by
    have:=congrArg Prod.fst hx;simpa using this
   have hxl:xs.length=n:=by simpa using Lib.mapM_length hm
   have hsl:ss.length=n:=by
    have:=congrArg List.length hxs;simp at this;omega
   intro i s hs
   have hi:i<n:=by
    have:=(List.getElem?_eq_some_iff.1 hs).1;omega
   obtain⟨b,hb,hf⟩:=Lib.mapM_at hm i i (by simp[hi]);obtain⟨z,hc,rfl,_⟩:=DataW.trod_string he hf
   have h1:cs[i]?=some (.string z):=by
    have:=congrArg (·[0]?) hc;simpa [List.getElem?_take,List.getElem?_drop] using this
   have h2:(xs.map (·.1))[i]?=some (DataW.lit (.string z.data.toList):DataW H):=by simp[hb]
   rw[hxs,List.getElem?_map,hs] at h2;simp only[Option.map_some,Option.some.injEq,DataW.lit.injEq,Lit.string.injEq] at h2;rw[h1,h2]
  ·cases h
theorem Rh{W:World}(h:laidMetH Tryz.prog laidL W):LaidW W where
 pow:=by
  have h1:=AO h "internal/strconv.uint64pow10" Rows.laid_internal_strconv_uint64pow10 (by kernel_rfl) (by kernel_rfl);exact Lib.tabIs_of_head (zs:=Lib.pow10Tab) (rest:=[]) Vw (by kernel_rfl:(Tryz.prog.globals[2]?).map (·.type)=some 338) (by kernel_rfl:Tryz.prog.underlying 338=some (.array 20 251)) (by kernel_rfl:Tryz.prog.underlying 251=some (.int .u64)) (by kernel_rfl) (by kernel_rfl) h1
 agb k hk:=by
  have h1:=AO h "diorama/schema.words" Rows.laid_diorama_schema_words (by kernel_rfl) (by kernel_rfl);obtain⟨ps,⟨g',t',cs,fuel,p,q,hg',ht',hvar,hd,_,_⟩,_⟩:=h1;obtain rfl:=zSi ((show Tryz.prog.globalNamed "diorama/schema.words" =some 1 by kernel_rfl).symm.trans hg');obtain rfl:=zSi ((show (Tryz.prog.globals[1]?).map (·.type)=some 323 by kernel_rfl).symm.trans ht');have h2:=World.var?_cell hg' hvar k;rw[h2,<-Array.getElem?_toList];refine AP (n:=9) (e:=9) (ss:=[[107,101,121],[114,101,102],[110,117,109],[112,105,99,107],[100,97,121],[115,116,101,112],[115,117,109],[115,104,97,114,101],[99,111,112,121]]) (by kernel_rfl) (by kernel_rfl) (by kernel_rfl) (by kernel_rfl) hd k _ ?_;have:k=0\/k=1\/k=2\/k=3\/k=4\/k=5\/k=6\/k=7\/k=8:=by omega
  rcases this with rfl|rfl|rfl|rfl|rfl|rfl|rfl|rfl|rfl<;>rfl
 size:=by
  have h1:=AO h "math/bits.deBruijn64tab" Rows.laid_math_bits_deBruijn64tab (by kernel_rfl) (by kernel_rfl);obtain⟨ps,⟨g',t',cs,fuel,p,q,hg',ht',hvar,hd,_,_⟩,_⟩:=h1;obtain rfl:=zSi ((show Tryz.prog.globalNamed "math/bits.deBruijn64tab" =some 4 by kernel_rfl).symm.trans hg');have h2:=World.var?_cell hg' hvar 0
  have:4<W.heap.size:=by
   unfold World.var? at hvar;rw[hg'] at hvar;refine Nat.lt_of_not_le fun hle=>?_;simp[Array.getElem?_eq_none hle] at hvar
  omega
theorem UC{P:Program}{t f:TypeId}{fs:Array Field}(ht:P.underlying t=some (.struct fs))(hs1:fs.size=1)(hf0:(fs[0]?).map (fun x=>(x.type,x.offset))=some (f,0))(hc:P.cellsOf t=1)(hf:P.cellsOf f=1){H:Type}{enc:TypeId×Value->H}{w:World}{base:Nat}{sp:Nat->Bool}{held:Bool}{n:Nat}{v:Value}{d:DataW H}{ps:List MemPlace}
  (hv:v.formed P t=true)(h:DataW.trod enc P w base sp held n t v.cells.toList=some (.agg [d],ps)):∃c m q,v=.agg #[c]/\DataW.trod enc P w base sp held m f [c]=some (d,q):=by
 obtain⟨xs,m,rfl,hx,hl,hxl,hall⟩:=DataW.trod_struct ht h
 have hv':∃cs,v=.agg cs/\cs.size=1:=by
  cases v<;>simp[Value.formed,ht,hc] at hv;exact⟨_,rfl,hv⟩
 obtain⟨cs,rfl,hs⟩:=hv';obtain⟨c,rfl⟩:∃c,cs=#[c]:=Array.size_eq_one_iff.1 hs;obtain⟨fd,OP,Z7⟩:=Option.map_eq_some_iff.1 hf0;obtain⟨hft,hfo⟩:=Prod.mk.inj Z7;have h0:=hall 0 fd OP;rw[hft,hfo] at h0;obtain⟨y,hy⟩:∃y,xs=[y]:=List.length_eq_one_iff.1 (by omega);subst hy;simp[hf,Value.cells] at h0;have h1:=congrArg Prod.fst hx;simp at h1;exact⟨c,m,y.2,rfl,by rw[h0,h1]⟩
def F8(f:TypeId):TypeDesc->Bool
 | .struct fs=>decide (fs.size=1)&&decide ((fs[0]?).map (fun x=>(x.type,x.offset))=some (f,0))
 |_=>false
theorem MU:∃fs,Tryz.prog.underlying 238=some (.struct fs)/\fs.size=1/\(fs[0]?).map (fun x=>(x.type,x.offset))=some (237,0):=by
 have h:(Tryz.prog.underlying 238).map (F8 237)=some true:=by kernel_rfl
 obtain⟨d,hd,ho⟩:=Option.map_eq_some_iff.1 h;cases d<;>simp[F8] at ho;exact⟨_,hd,ho.1,by simpa using ho.2⟩
theorem UD{W:World}(h:laidMetH Tryz.prog laidL W):∃b,TabC b W:=by
 obtain⟨g,t,cs,fuel,p,hg,ht,hv,hd⟩:=h.funcs (n:= "diorama/typing.checks") (List.Mem.tail _ (List.Mem.tail _ (List.Mem.tail _ (List.Mem.tail _ (List.Mem.head _)))));obtain rfl:=zSi ((show Tryz.prog.globalNamed "diorama/typing.checks" =some 0 by kernel_rfl).symm.trans hg);obtain rfl:=zSi ((show (Tryz.prog.globals[0]?).map (·.type)=some 240 by kernel_rfl).symm.trans ht);have hu:Tryz.prog.underlying 240=some (.map 3 238):=by kernel_rfl
 rcases Go.WideElems.open_map hu hd with⟨-,e⟩|⟨b,es,clock,n,rfl,hcs,hb, -,F,e⟩
 ·cases congrArg Prod.fst e
 have e1:=congrArg Prod.fst e;simp only at e1;refine⟨b,?_,(Array.getElem?_eq_some_iff.1 hb).1,fun W' hW k h0 h8=>?_⟩
 ·have:=World.var?_cell hg hv 0
  rw[Array.eq_one_of_toList hcs] at this;simpa using this
 ·have hz:(zeroValue 238).run Tryz.prog W'=.ok (.agg #[.nilFunc]) W':=by kernel_rfl
  have hkey:keyOf Tryz.prog 3 (.int .i64 k)=some (.int .i64 k):=by
   have:k=0\/k=1\/k=2\/k=3\/k=4\/k=5\/k=6\/k=7\/k=8:=by omega
   rcases this with rfl|rfl|rfl|rfl|rfl|rfl|rfl|rfl|rfl<;>first
    |exact(by kernel_rfl:keyOf Tryz.prog 3 (.int .i64 0)=some (.int .i64 0))
    |exact(by kernel_rfl:keyOf Tryz.prog 3 (.int .i64 1)=some (.int .i64 1))
    |exact(by kernel_rfl:keyOf Tryz.prog 3 (.int .i64 2)=some (.int .i64 2))
    |exact(by kernel_rfl:keyOf Tryz.prog 3 (.int .i64 3)=some (.int .i64 3))
    |exact(by kernel_rfl:keyOf Tryz.prog 3 (.int .i64 4)=some (.int .i64 4))
    |exact(by kernel_rfl:keyOf Tryz.prog 3 (.int .i64 5)=some (.int .i64 5))
    |exact(by kernel_rfl:keyOf Tryz.prog 3 (.int .i64 6)=some (.int .i64 6))
    |exact(by kernel_rfl:keyOf Tryz.prog 3 (.int .i64 7)=some (.int .i64 7))
    |exact(by kernel_rfl:keyOf Tryz.prog 3 (.int .i64 8)=some (.int .i64 8))
  have hK:Maps.Keyed Tryz.prog 3:=Maps.int_keyed (by kernel_rfl:Tryz.prog.underlying 3=some (.int .i64));have hf:Tryz.prog.underlying 237=some (.func #[242] #[37] false):=by kernel_rfl
  rcases Maps.fit_look true hK hu hz (hW.trans hb) F hkey with⟨hrun,_,hat⟩|⟨e0,y,_,_,hrun,hRv,hat,_⟩
  ·rw[<-e1] at hat
   have no:yo k=none:=by
    have:=hat .nil;have:k=0\/k=1\/k=2\/k=3\/k=4\/k=5\/k=6\/k=7\/k=8:=by omega
    rcases this with rfl|rfl|rfl|rfl|rfl|rfl|rfl|rfl|rfl<;>first|rfl|(exfalso;cases hat .nil)
   rw[no];unfold LO;rw[no];exact hrun
  ·rw[<-e1] at hat
   unfold Go.WideElems.elemAt at hRv;split at hRv
   ·rename_i hfm
    obtain⟨fs,hfs,h1,h2⟩:=MU
    have at_:∀(b0:UInt8) (r:List UInt8) (fo:Nat),y.1=.agg [.held (b0::r)]->((List.range Tryz.prog.funcs.size).filter fun f=>(Tryz.prog.funcs[f]?).any (·.name.toUTF8.data.toList==b0::r))=[fo]->e0.val=.agg #[.func (.func fo) #[] #[]]:=fun b0 r fo hy hone=>by
     obtain⟨c,m,q,hv,hc⟩:=UC hfs h1 h2 (by kernel_rfl) (by kernel_rfl) hfm (hRv.trans (by rw[<-hy]));rw[hv,func_of_trod hf hone hc]
    have:k=0\/k=1\/k=2\/k=3\/k=4\/k=5\/k=6\/k=7\/k=8:=by omega
    rcases this with rfl|rfl|rfl|rfl|rfl|rfl|rfl|rfl|rfl
    ·have hv:=at_ 100 [105,111,114,97,109,97,47,116,121,112,105,110,103,46,99,104,101,99,107,115,36,49] 276 (hat .nil).symm (by kernel_rfl)
     rw[hv] at hrun;exact hrun
    ·have hv:=at_ 100 [105,111,114,97,109,97,47,116,121,112,105,110,103,46,99,104,101,99,107,115,36,50] 277 (hat .nil).symm (by kernel_rfl)
     rw[hv] at hrun;exact hrun
    ·exfalso
     have g1:=hat .nil;have g2:=hat (.lit (.bool true));rw[<-g1] at g2;cases g2
    ·exfalso
     have g1:=hat .nil;have g2:=hat (.lit (.bool true));rw[<-g1] at g2;cases g2
    ·have hv:=at_ 100 [105,111,114,97,109,97,47,116,121,112,105,110,103,46,99,104,101,99,107,115,36,51] 278 (hat .nil).symm (by kernel_rfl)
     rw[hv] at hrun;exact hrun
    ·have hv:=at_ 100 [105,111,114,97,109,97,47,116,121,112,105,110,103,46,99,104,101,99,107,115,36,52] 279 (hat .nil).symm (by kernel_rfl)
     rw[hv] at hrun;exact hrun
    ·have hv:=at_ 100 [105,111,114,97,109,97,47,116,121,112,105,110,103,46,99,104,101,99,107,115,36,53] 281 (hat .nil).symm (by kernel_rfl)
     rw[hv] at hrun;exact hrun
    ·have hv:=at_ 100 [105,111,114,97,109,97,47,116,121,112,105,110,103,46,99,104,101,99,107,115,36,54] 282 (hat .nil).symm (by kernel_rfl)
     rw[hv] at hrun;exact hrun
    ·have hv:=at_ 100 [105,111,114,97,109,97,47,116,121,112,105,110,103,46,99,104,101,99,107,115,36,55] 284 (hat .nil).symm (by kernel_rfl)
     rw[hv] at hrun;exact hrun
   ·cases hRv
theorem laidT_of{W:World}(h:laidMetH Tryz.prog laidL W):LaidW W/\∃b,TabC b W:=⟨Rh h,UD h⟩
noncomputable def laidWorld (os:Os):World:=World.doorLaid Tryz.prog 76 os
theorem wf_bounds{n:Int}(h:(Lit.int .i64 n).wf=true): -9223372036854775808<=n/\n<=9223372036854775807:=by
 simp[Lit.wf,IntKind.min,IntKind.max,IntKind.signed,IntKind.bits] at h;omega
theorem Ri{α:Type}{l:List α}{i:Nat}{d:α}(h:i<l.length):l.getD i d=l[i]:=by
 rw[zGd,zEg h,zOg]
theorem row_ints{w:World}{a:Option Addr}{len cap:Nat}{zs:List Int}
  (h:(a=none/\len=0/\cap=0/\zs=[])\/∃x,a=some x/\len<=cap/\cap<=maxLen/\zs.length=cap/\(∀i,i<zs.length->w.cell? (x.add i)=some (.int .i64 (zs.getD i 0)))/\∀n∈zs,(Lit.int .i64 n).wf=true):
  bO yQ w (.slice a len cap) (zs.take len)/\Fit (zs.take len):=by
 rcases h with⟨rfl,rfl,rfl,rfl⟩|⟨x,rfl,h1,h2,h3,h4,h5⟩
 ·exact⟨eX.nil _ _ _,fun x hx=>by simp at hx⟩
 ·have hl:(zs.take len).length=len:=by rw[zLt];omega
  refine⟨⟨some x,cap,by rw[hl],fun h0=>?_,by omega,h2,fun _=>trivial,fun j hj=>?_⟩,fun n hn=>?_⟩
  ·obtain⟨b,o,e,_⟩:=ints_at h4 (by omega)
   exact⟨b,o,by rw[e]⟩
  ·obtain⟨b,o,e,hc⟩:=ints_at h4 (by omega)
   subst e;refine⟨_,hc j (by omega),?_⟩;rw[List.getElem_take,Ri (by omega)]
  ·exact wf_bounds (h5 n (List.mem_of_mem_take hn))
theorem Tryz.appI:jt Tryz.prog 57 121 4 32:=gA (z:=.agg #[.int .i64 0,.int .i64 0,.int .i64 0,.int .i64 0]) (by kernel_rfl) (by kernel_rfl) rfl (by omega) (by omega)
theorem Tryz.aeI:jt Tryz.prog 48 122 4 32:=gA (z:=.agg #[.int .i64 0,.int .i64 0,.int .i64 0,.int .i64 0]) (by kernel_rfl) (by kernel_rfl) rfl (by omega) (by omega)
abbrev aff(B:Nat):=cG 4 abd (fun _=>True) B 121
abbrev adk(B:Nat):=cG 4 abd (fun _=>True) B 122
theorem adx{o a b c:Int}:∀u∈[Value.int .i64 o,.int .i64 a,.int .i64 b,.int .i64 c],u.oneCell'=true:=by
 intro u hu;simp only[zMc,zNn,or_false] at hu;rcases hu with rfl|rfl|rfl|rfl<;>rfl
theorem ad9(p:List Vm.Ins)(hp:p.length<=1000)(v:Value)(S:Nat->Prop)(w:World)(hv:nG S w v p):
  Calls Tryz.prog 21 #[v] w fun e w'=>∃u,e=.returned u/\aff w.heap.size w' u p/\BL w w':=by
 obtain⟨a,cap,rfl,hok, -, -⟩:=hv.form;have HV:=hid (fun X (hX:BL w X)=>hv.keep (aA.below hX));obtain⟨m,hm⟩:=nmE p.length;have hm1:m<=1000:=by omega
 rw[<-hm] at HV hok ⊢;have HM:=hid hm;clear hm hv hp;go_enter Tryz.func21,Tryz.ntmps21;go_upto_region 3 with fail;go_loopw [3,4] (fun l ii wr=>∃(n:Nat) (am:Option Addr) (cm:Nat),n<=m/\l=.slice am n cm/\ii=.int .i64 (n:Int)/\Hid (aff w.heap.size wr (.slice am n cm) (p.take n))/\Hid (BL w wr)) (fun _ ii _=>m-(intOf ii).toNat);case atStart=>exact⟨0,none,0,by omega,rfl,rfl,hid (cG.nil _ _ _ _ _ _),hid aj⟩
 case round=>
  obtain⟨n,am,cm,hn,rfl,rfl,HO,HB⟩:=hrel;by_cases hlt:n<m
  ·have hn0:(0:Int)<=(n:Int):=by omega
   have hn1:(n:Int)<(m:Int):=by omega
   have hnp:n<p.length:=by rw[<-HM.out];exact hlt
   have HC:Hid (∀X,BL wr X->X.cell? ⟨aY a,bC a+n*4,none⟩=some (.int .i64 p[n].op)/\X.cell? ⟨aY a,bC a+n*4+1,none⟩=some (.int .i64 p[n].a)/\X.cell? ⟨aY a,bC a+n*4+2,none⟩=some (.int .i64 p[n].b)/\X.cell? ⟨aY a,bC a+n*4+3,none⟩=some (.int .i64 p[n].c)):=hid (fun X hX=>((HV.out X (tnB HB.out hX)).at hnp).2.2);have HT:Hid (p.take (n+1)=p.take n++[p[n]]):=hid (zTs hnp);have kZ:Hid ((p.take n).length=n):=hid (by rw[zLt];omega);generalize p[n]=q at*;obtain⟨op,qa,qb,qc⟩:=q;simp only at HC HT;have Bj:=hqC wr ⟨aY a,bC a+n*4,none⟩ (.int .i64 op) fun xh=>(HC.out xh.1 xh.2).1;have hq1:=hqC wr ⟨aY a,bC a+n*4+1,none⟩ (.int .i64 qa) fun xh=>(HC.out xh.1 xh.2).2.1;have xY:=hqC wr ⟨aY a,bC a+n*4+2,none⟩ (.int .i64 qb) fun xh=>(HC.out xh.1 xh.2).2.2.1;have Px:=hqC wr ⟨aY a,bC a+n*4+3,none⟩ (.int .i64 qc) fun xh=>(HC.out xh.1 xh.2).2.2.2;go_upto_region 5 with fail;refine agf wr 23 (.quiet 0 (.quiet 1 (.quiet 2 (.quiet 3 (.quiet 4 (.quiet 5 (.quiet 6 (.quiet 7 (.quiet 8 (.quiet 9 (.quiet 10 (.quiet 11 (.quiet 12 (.quiet 13 (.quiet 14 (.quiet 15 (.quiet 16 (.quiet 17 (.quiet 18 (.quiet 19 (.quiet 20 (.quiet 21 (.one 22 .done))))))))))))))))))))))) mxT (by kernel_rfl) fun wq HBq=>?_
   iterate 22
    refine ai rfl ?_
    intro hne
    go_big_quiet_step (fail)
    refine zWq ?_
    clear hne
   refine aH rfl ?_;go_wp2_with fail;refine aC (BL wr) (fun _ h=>h) (HBq.out.alloc HBq.out.size _) ?_;refine aL ?_;try simp only[zDs,zDz]
   clear Bj hq1 xY Px;have HOq:Hid (aff w.heap.size wq (.slice am n cm) (p.take n)):=hid (HO.out.keep zF (fun b hb hl=>HBq.out.block b hl));have hbz:w.heap.size<=wq.heap.size:=Nat.le_trans HB.out.size HBq.out.size;have kW:(p.take n).length+1<=1000000000:=by rw[kZ.out];omega
   go_wp2_with (at_builtin;go_must (refine cD zF rfl _ _ rfl Tryz.appI rfl HOq.out (us:=[.int .i64 op,.int .i64 qa,.int .i64 qb,.int .i64 qc]) rfl rfl rfl ⟨op,qa,qb,qc⟩ rfl adx kW hbz ?_));intro v' w6 how ht hn;rw[<-HT.out] at how
   obtain⟨a',c',rfl⟩:∃a' c',v'=.slice a' (n+1) c':=by
    obtain⟨a1,c1,e, -⟩:=how.form;exact⟨a1,c1,by rw[e,zLt,Nat.min_eq_left (by rw[<-HM.out];omega)]⟩
   have zu:=hid how;have bB:Hid (BL w w6):=hid ((tnB HB.out HBq.out).trans (ht.below hbz (fun b hb=>(cG.lt HOq.out b hb.symm).1)));clear how ht hn kW hbz HOq;go_wp2;go_roundw;case rel=>exact⟨n+1,a',c',by omega,by go_num,by go_num,zu,bB⟩
   simp[intOf];omega
  ·obtain rfl:m=n:=by omega
   have HT:Hid (p.take m=p):=hid (zTl (by rw[<-HM.out];exact aB));go_wp2;go_ret;exact⟨_,rfl,by rw[<-HT.out];exact HO.out,HB.out⟩
end Go.Proofs.YtobgljfnfpolkaaGreatDoor
