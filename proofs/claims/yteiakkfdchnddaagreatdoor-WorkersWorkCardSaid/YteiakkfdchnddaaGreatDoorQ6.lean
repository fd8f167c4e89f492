/- Part 6 of the walks and plain laws that the proof needs (packed). -/
import Derived.Deep.WholeRow
import Derived.Laws.Tables
import Derived.Test.YteiakkfdchnddaaGreatDoorQ1
import Derived.Test.YteiakkfdchnddaaGreatDoorQ2
import Derived.Test.YteiakkfdchnddaaGreatDoorQ3
import Derived.Test.YteiakkfdchnddaaGreatDoorQ5
set_option linter.all false
set_option maxRecDepth 100000
set_option maxHeartbeats 8000000
namespace Go.Proofs.YteiakkfdchnddaaGreatDoor.ah
theorem yp(x:bF)(i:Nat):kd x i=jC x.ai i:=rfl
theorem pN{x:bF}{i j:Nat}{f:dh}(h:(fs x.ai i)[j]?=some f):fd x i j=f:=by
 show (fs x.ai i).getD j vQ=f
 rw[jA,h];rfl
theorem pO{α:Type}{l:List α}{j:Nat}{f:α}(h:l[j]?=some f):j<l.length:=(List.getElem?_eq_some_iff.1 h).1
theorem sy{x:bF}{i j:Nat}(hi:i<x.ai.length)(hj:j<(fs x.ai i).length):hasB x i j=true:=by
 have hj':j<(kd x (i:Int)).aA.length:=hj;simp[hasB,hi,hj']
theorem kS{ks:List eZ}{i j:Nat}{f:dh}(hI:O2 ks i)(hf:(fs ks i)[j]?=some f):bB (jC ks i) f.name=j:=by
 obtain⟨hj,e⟩:=List.getElem?_eq_some_iff.1 hf
 have:=ow (p:=fun g:dh=>decide (g.name=f.name)) (l:=fs ks i) (i:=0) hj (fun j' h' hlt=>by
  have hp:=List.pairwise_iff_getElem.1 hI.nodup j' j (by simpa using h') Dx hlt;simp only[List.getElem_map] at hp;rw[e] at hp;exact decide_eq_false hp) (by rw[e];simp)
 simpa [bB,fs] using this
theorem O4{i j:Nat}(hi:i<3)(hj:j<3)(h:bT i=bT j):i=j:=by
 have e:∀a b:Fin 3,bT a.1=bT b.1->a=b:=by decide
 exact congrArg Fin.val (e ⟨i,hi⟩ ⟨j,hj⟩ h)
theorem sA{x:bF}(hg:Db x.ai){u:Nat}(hu:u<x.ai.length):cU x (bT u)=u:=by
 obtain⟨g1, -,g3⟩:=hg.good
 have:=ow (p:=fun k:eZ=>decide (k.name=bT u)) (l:=x.ai) (i:=0) hu (fun j' h' hlt=>by
  rw[g3 j' h'];refine decide_eq_false fun e=>?_;have:=O4 aC aC e;omega) (by rw[g3 u hu];simp)
 simpa [cU] using this
theorem Nj{x:bF}(hg:Db x.ai){i u:Nat}{f:dh}(hu:u<i)(hi:i<x.ai.length)(h:f.of=bT u):tU x i f=u:=by
 unfold tU;rw[h,sA hg aC,if_pos aC]
theorem Nk{x:bF}(hg:Db x.ai){i j u:Nat}{f:dh}(hi:i<x.ai.length)(hf:(fs x.ai i)[j]?=some f)(hk:f.kind=1)(hu:u<i)(h:f.of=bT u):dV x i j=u:=by
 unfold dV;rw[if_pos (sy hi (pO hf))];simp only[pN hf];rw[if_neg aC,if_pos hk];exact Nj hg hu hi h
theorem KA{x:bF}(hg:Db x.ai){i j u:Nat}{f:dh}(hi:i<x.ai.length)(hf:(fs x.ai i)[j]?=some f)(hk:f.kind=7\/f.kind=8)(he:f.up=vW)(hu:Up x.ai i j u):dV x i j=u:=by
 obtain⟨h1,j',g,h2,h3,h4,h5,h6⟩:=hu;have hI:=hg.inv i hi;have e1:bB (kd x (i:Int)) vW=j':=by rw[yp,<-h4];exact kS hI h3
 unfold dV;rw[if_pos (sy hi (pO hf))];simp only[pN hf];rw[if_pos hk,he,e1,if_pos ⟨sy hi (pO h3),by omega,by rw[pN h3];exact h5⟩,pN h3];exact Nj hg h1 hi h6
theorem Nl{x:bF}(h:zo x):FM x:=by
 intro k j hk hj h1;have hf:(fs x.ai k)[j]?=some (fs x.ai k)[j]:=kK hj;have e:=pN hf;have hl:=(h.ai.inv k hk).lead j _ hf;rw[e] at h1;obtain⟨u,h2,h3⟩:=hl.ref h1;rw[Nk h.ai hk hf h1 h2 h3];omega
theorem Nn{x:bF}(hg:Db x.ai){i j u:Nat}{f t:dh}(hu:u<x.ai.length)(hup:dV x i j=u)(ht:t∈fs x.ai u)(hn:t.name=f.of):Bh x i j f=some t:=by
 obtain⟨j',hj',e⟩:=List.getElem_of_mem ht;have hf:(fs x.ai u)[j']?=some t:=by rw[kK hj',e]
 have e1:bB (kd x (u:Int)) f.of=j':=by rw[yp,<-hn];exact kS (hg.inv u hu) hf
 unfold Bh;rw[hup,if_neg aC,e1,if_pos (sy hu hj'),pN hf]
theorem filter_one{l:List Int}(hn:l.Nodup){p:Int->Bool}{a:Int}(ha:a∈l)(hp:∀b∈l,p b=true↔b=a):(l.filter p).length=1:=by
 have e:l.filter p=l.filter (fun b=>b==a):=List.filter_congr fun b hb=>by
  have:=hp b hb;by_cases e:b=a
  ·rw[this.2 e];simp[e]
  ·have h0:p b=false:=by
    cases hpb:p b
    ·rfl
    ·exact absurd (this.1 hpb) e
   rw[h0];simp[e]
 rw[e];clear e hp;induction l with
 |nil=>simp at ha
 |cons b l ih=>
  rw[List.nodup_cons] at hn
  rcases kM.1 ha with rfl|ha
  ·have:l.filter (fun b=>b==a)=[]:=List.filter_eq_nil_iff.2 fun c hc h=>by
    have:c=a:=by simpa using h
    subst this;exact hn.1 hc
   simp[this]
  ·have hb:¬(b==a)=true:=fun h=>by
    have:b=a:=by simpa using h
    subst this;exact hn.1 ha
   rw[List.filter_cons,if_neg hb];exact ih hn.2 ha
theorem O5{x:bF}(hg:Db x.ai){i o j:Nat}{g:dh}(ho:o<x.ai.length)(hf:(fs x.ai o)[j]?=some g)(hk:g.kind=7)(hu:Up x.ai o j i):(ql x i o fH).length=1:=by
 have hI:=hg.inv o ho;have hj:=pO hf;have hl:=(hI.lead j g hf).part hk;unfold ql;refine filter_one (a:=(j:Int)) ?_ ?_ ?_
 ·rw[List.Nodup,List.pairwise_map]
  exact List.Pairwise.imp (fun h=>by omega) List.nodup_range
 ·exact List.mem_map.2 ⟨j,List.mem_range.2 hj,rfl⟩
 ·intro b hb
  obtain⟨j2,hj2,rfl⟩:=List.mem_map.1 hb;have hj2:j2<(fs x.ai o).length:=List.mem_range.1 hj2;have hf2:(fs x.ai o)[j2]?=some (fs x.ai o)[j2]:=kK hj2;constructor
  ·intro hp
   rw[pN hf2] at hp;simp only[kJ,lE] at hp;have h2:=((hI.lead j2 _ hf2).part hp.1.1).1;have e1:=kS hI hf2;have e2:=kS hI hf;rw[h2] at e1;rw[hl.1] at e2;rw[<-e1,<-e2]
  ·intro e
   have e:j2=j:=by omega
   subst e;rw[pN hf,KA hg ho hf (.inl hk) hl.2.2.1 hu];simp[hk,hl.2.1]
theorem TN{x:bF}(h:zo x){i j:Nat}(hi:i<x.ai.length)(hj:j<(kd x i).aA.length):oI x i j=0:=by
 have hg:=h.ai;have hI:=hg.inv i hi;have hf:(fs x.ai i)[j]?=some (fs x.ai i)[j]:=kK hj;generalize (fs x.ai i)[j]=f at hf;have hl:=hI.lead j f hf;unfold oI;rw[pN hf,yp,kS hI hf,if_neg aC];unfold ze;simp only[pN hf];have hk:=wA hl.val.1;split
 ·rename_i e
  rw[if_neg];intro hp;obtain⟨f0,l,e1,e2,e3⟩:=hI.head;rw[e1] at hf;match j,hf,hp with
  |0,_,hp=>exact absurd hp aZ
  |j+1,hf,_=>exact e3 f (List.mem_of_getElem? (by simpa using hf)) e
 split
 ·rename_i e
  obtain⟨u,h2,h3⟩:=hl.ref e;rw[Nk hg hi hf e h2 h3,if_neg aC]
 split
 ·rename_i e
  rw[if_neg];rintro ⟨h1,h2⟩;rcases hl.time e with h3|⟨j',g,h3,h4,h5,h6⟩
  ·exact h1 h3
  ·rw[yp,<-h5,kS hI h4,pN h4] at h2
   omega
 split
 ·rename_i e
  rw[hl.life e,if_pos];obtain⟨l,h1,h2⟩:=h.aN;simp[MK,h1,h2.1]
 split
 ·rename_i e
  obtain⟨h1,o,j',g,h2,h3,h4,h5,h6,h7⟩:=hl.sum e
  have e1:gq x i f=o:=by
   unfold gq;rw[h4,sA hg h3,if_pos ⟨e,by omega⟩]
  have e4:gy x i f=ql x i o f.name:=by unfold gy;rw[e1,if_neg aC]
  rw[e1,if_neg aC,e4,h1,O5 hg h3 h5 h6 h7,if_neg aZ]
 split
 ·rename_i e
  obtain⟨h1,h2,h3,u,h4,t,h5,h6,h7,h8⟩:=hl.part e;have e1:=KA hg hi hf (.inl e) h3 h4;have e2:Bh x i j f=some t:=Nn hg (by have:=h4.1;omega) e1 h5 (by rw[h6,h2]);have e3:oZ x i j f=t:=by unfold oZ;rw[e2];rfl
  rw[e1,if_neg aC,if_neg];rintro (h9|h9|h9)
  ·rw[e2] at h9;exact absurd h9 aZ
  ·rw[e3] at h9;exact h9 h7
  ·rw[e3,h8,sA hg hi] at h9;exact h9 rfl
 split
 ·rename_i e
  obtain⟨h3,u,h4,t,h5,h6,h7⟩:=hl.same e;have e1:=KA hg hi hf (.inr e) h3 h4;have e2:Bh x i j f=some t:=Nn hg (by have:=h4.1;omega) e1 h5 h6;have e3:oZ x i j f=t:=by unfold oZ;rw[e2];rfl
  rw[e1,if_neg aC,if_neg];rintro (h9|h9)
  ·rw[e2] at h9;exact absurd h9 aZ
  ·rw[e3] at h9;exact h9 h7
 rfl
theorem Yl{x:bF}(h:zo x){i:Nat}(hi:i<x.ai.length):zh x i=0:=by
 have hg:=h.ai;have hn:=hg.good.2.2 i hi
 have e:(kd x (i:Int)).name=bT i:=by
  rw[yp,jC,jA,kK hi];exact hn
 obtain⟨f0,l,e1,e2,e3⟩:=(hg.inv i hi).head;have hf:(fs x.ai i)[0]?=some f0:=by rw[e1];rfl
 have h0:fd x i 0=f0:=pN (j:=0) hf;unfold zh;rw[e,sA hg hi,if_neg aC,h0,if_neg];rintro (h9|h9)
 ·have:=pO hf
  have h9:(fs x.ai i).length=0:=h9;omega
 ·exact h9 e2
def iy(l:List dh):Prop:=∀f∈l,((f.name=mw\/f.name=lT\/f.name=iP)->f.kind=2)/\(f.name=mw->∃g∈l,g.name=lT)
theorem yq{l:List dh}(h:∀n∈l.map dh.name,n∈fH::jN):iy l:=by
 have hd:∀a∈fH::jN,a≠mw/\a≠lT/\a≠iP:=by decide
 intro f hf;obtain⟨h1,h2,h3⟩:=hd f.name (h _ (List.mem_map_of_mem hf));exact⟨fun e=>by rcases e with e|e|e<;>contradiction,fun e=>absurd e h1⟩
theorem tH{a b:List dh}(ha:iy a)(hb:iy b):iy (a++b):=by
 intro f hf;rcases List.mem_append.1 hf with hf|hf
 ·exact⟨(ha f hf).1,fun e=>by obtain⟨g,h1,h2⟩:=(ha f hf).2 e;exact⟨g,List.mem_append_left _ h1,h2⟩⟩
 ·exact⟨(hb f hf).1,fun e=>by obtain⟨g,h1,h2⟩:=(hb f hf).2 e;exact⟨g,List.mem_append_right _ h1,h2⟩⟩
theorem ez.num{l:List dh}(h:ez l):iy l:=by
 intro f hf;cases h with
 |none=>simp at hf
 |size lo hi h=>simp at hf;subst hf;exact⟨fun _=>rfl,fun e=>absurd e (by show iP≠mw;decide)⟩
 |tag n gs h1 h2 h3 h4 h5=>simp at hf;subst hf;exact⟨fun e=>absurd e (by show ¬(Af=mw\/Af=lT\/Af=iP);decide),fun e=>absurd e (by show Af≠mw;decide)⟩
 |born lo hi lo' hi' h h'=>
  rcases (by simpa using hf:f=rQ lo hi\/f=um lo' hi') with rfl|rfl
  ·exact⟨fun e=>absurd e (by show ¬(pq=mw\/pq=lT\/pq=iP);decide),fun e=>absurd e (by show pq≠mw;decide)⟩
  ·exact⟨fun e=>absurd e (by show ¬(zj=mw\/zj=lT\/zj=iP);decide),fun e=>absurd e (by show zj≠mw;decide)⟩
 |state lo hi h1 h2 h3=>simp at hf;subst hf;exact⟨fun e=>absurd e (by show ¬(qm=mw\/qm=lT\/qm=iP);decide),fun e=>absurd e (by show qm≠mw;decide)⟩
 |low lo hi lo' hi' h h'=>
  rcases (by simpa using hf:f=DC lo hi\/f=rR lo' hi') with rfl|rfl
  ·exact⟨fun _=>rfl,fun _=>⟨rR lo' hi',by simp,rfl⟩⟩
  ·exact⟨fun _=>rfl,fun e=>absurd e (by show lT≠mw;decide)⟩
theorem qn.far{k:eZ}{l:List dh}(h:qn k l):∀n∈l.map dh.name,n∈fH::jN:=by
 rcases h with rfl|⟨c,hc,_,rfl⟩<;>simp[jN,qW]
theorem xY.far{ks:List eZ}{tgt:Nat}{nm:Nm}{ks':List eZ}{l:List dh}(h:xY ks tgt nm ks' l):∀n∈l.map dh.name,n∈fH::jN:=by
 rcases h with⟨rfl,_⟩|⟨lo',hi',q1,q2,q3,rfl,q4,q5⟩<;>simp[jN,nD]
theorem qp.far{ks:List eZ}{nm:Nm}{ks':List eZ}{l:List dh}(h:qp ks nm ks' l):∀n∈l.map dh.name,n∈fH::jN:=by
 obtain⟨a,h1,h2,⟨_,_,rfl⟩|⟨t,ht,lo,hi,s,p,h3,h4,h5,h6,hs,hp,rfl⟩⟩:=h
 ·simp[jN,xO]
 ·intro n hn
  simp only[List.map_cons,List.map_append,kM,List.mem_append] at hn;rcases hn with rfl|rfl|hn|hn
  ·simp[jN,xO]
  ·simp[jN,Da]
  ·exact hs.far n hn
  ·exact hp.far n hn
theorem Db.num{ks:List eZ}(h:Db ks):∀k∈ks,iy k.aA:=by
 induction h with
 |nil=>intro k hk;simp at hk
 |snoc ks ks' k hg hk ih=>
  intro y hy
  rcases List.mem_append.1 hy with hy|hy
  ·rcases hk.old with rfl|⟨t,ht,_,rfl⟩
   ·exact ih y hy
   ·rcases List.mem_or_eq_of_mem_set hy with hy|rfl
    ·exact ih y hy
    ·exact tH (ih _ (gY ht)) (yq (by simp[gL]))
  ·rw[nU.1 hy]
   obtain⟨_,_,_,_,_,a,y,p,q,ha,hy,hp,hq,hf⟩:=hk;rw[hf];refine tH (tH (tH (yq ha.far) (yq ?_)) hp.num) hq.plain.num;rcases hy with rfl|⟨_,rfl⟩<;>simp[jN,RX]
end Go.Proofs.YteiakkfdchnddaaGreatDoor.ah
namespace Go.Proofs.YteiakkfdchnddaaGreatDoor.ah
def ruN(c k:Nat):Nm:=[MN,MO,FE].getD c nil++(bT k).extract 0 1
theorem acQ{c k c' k':Nat}(hc:c<3)(hk:k<3)(hc':c'<3)(hk':k'<3)(h:k≠k'):ruN c k≠ruN c' k':=by
 have e:∀c k c' k':Fin 3,k≠k'->ruN c.1 k.1≠ruN c'.1 k'.1:=by decide
 exact e ⟨c,hc⟩ ⟨k,hk⟩ ⟨c',hc'⟩ ⟨k',hk'⟩ (fun h2=>h (congrArg Fin.val h2))
theorem acR{c k:Nat}(hc:c<3)(hk:k<3):aU (ruN c k)=true:=by
 have e:∀c k:Fin 3,aU (ruN c.1 k.1)=true:=by decide
 exact e ⟨c,hc⟩ ⟨k,hk⟩
structure acS(ks:List eZ)(k:Nat)(r:xX):Prop where
 lt:k<ks.length
 name:∃c,c<3/\r.name=ruN c k
 kind:r.kind=bT k
 n: -200000<=r.n/\r.n<=200000
 a:r.a=nil\/(aU r.a=true/\∃f∈fs ks k,f.name=r.a/\f.kind=2)
 b:r.b=nil\/(aU r.b=true/\∃f∈fs ks k,f.name=r.b/\f.kind=2)
 ab:r.a≠r.b
theorem Ie{l:List dh}{s:Nm}(h:0<=DE l s):∃f∈l,f.name=s:=by
 rcases iE (fun f:dh=>decide (f.name=s)) l with⟨h1,_⟩|⟨k,hk,_,h2,_⟩
 ·have h:0<=fV (fun f:dh=>decide (f.name=s)) l 0:=h
  omega
 ·exact⟨l[k],gY hk,by simpa using h2⟩
theorem rulG{ks:List eZ}(hg:Db ks){k:Nat}(hk:k<ks.length){r:xX}(h:Bl ks[k] r):acS ks k r:=by
 obtain⟨g1, -,g3⟩:=hg.good;have eL:aU mw=true:=by decide
 have eH:aU lT=true:=by decide
 have eS:aU iP=true:=by decide
 have hn:=g3 k hk;have hN:=hg.num _ (gY hk)
 have ef:fs ks k=ks[k].aA:=by
  show (jC ks k).aA=_
  rw[jC,jA,kK hk];rfl
 rw[<-ef] at hN;unfold Bl at h;rw[hn,<-ef] at h;rcases h with⟨n,n1,n2,h1,rfl⟩|⟨n,n1,n2,h1,h2⟩
 ·obtain⟨f,f1,f2⟩:=Ie h1
  obtain⟨g,g1,g2⟩:=(hN f f1).2 f2;exact⟨hk,⟨0,by omega,rfl⟩,rfl,⟨by show -200000<=n;omega,by show n<=200000;omega⟩,.inr ⟨eL,f,f1,f2,(hN f f1).1 (.inl f2)⟩,.inr ⟨eH,g,g1,g2,(hN g g1).1 (.inr (.inl g2))⟩,by show mw≠lT;decide⟩
 ·obtain⟨f,f1,f2⟩:=Ie h1
  have fk:=(hN f f1).1 (.inr (.inr f2));rcases h2 with rfl|rfl
  ·exact⟨hk,⟨1,by omega,rfl⟩,rfl,⟨n1,n2⟩,.inr ⟨eS,f,f1,f2,fk⟩,.inl rfl,by show iP≠nil;decide⟩
  ·exact⟨hk,⟨2,by omega,rfl⟩,rfl,⟨n1,n2⟩,.inl rfl,.inr ⟨eS,f,f1,f2,fk⟩,by show nil≠iP;decide⟩
theorem TQ{ks:List eZ}(hg:Db ks){n:Nat}{rs:List xX}(h:ox ks n rs):(∀r∈rs,∃k,k<n/\acS ks k r)/\rs.Pairwise (fun r s=>r.name≠s.name):=by
 have hl:=hg.good.1;induction h with
 |nil=>exact⟨fun _ h=>absurd h aZ,List.Pairwise.nil⟩
 |skip i rs h ih=>exact⟨fun r hr=>by obtain⟨k,h1,h2⟩:=ih.1 r hr;exact⟨k,by omega,h2⟩,ih.2⟩
 |take i rs r hi h hr ih=>
  have hG:=rulG hg hi hr
  refine⟨fun r' hr'=>?_,?_⟩
  ·rcases List.mem_append.1 hr' with hr'|hr'
   ·obtain⟨k,h1,h2⟩:=ih.1 r' hr';exact⟨k,by omega,h2⟩
   ·rw[nU.1 hr'];exact⟨i,by omega,hG⟩
  ·rw[List.pairwise_append]
   refine⟨ih.2,List.pairwise_singleton _ _,fun a ha b hb=>?_⟩;rw[nU.1 hb];obtain⟨k,h1,h2⟩:=ih.1 a ha;obtain⟨c,h3,h4⟩:=h2.name;obtain⟨c',h5,h6⟩:=hG.name;rw[h4,h6];have:=h2.lt;exact acQ h3 aC h5 aC aC
theorem Ig{x:bF}(hg:Db x.ai){k:Nat}(hk:k<x.ai.length){s:Nm}(h:s=nil\/∃f∈fs x.ai k,f.name=s/\f.kind=2):vV x k s=(false,false):=by
 unfold vV;by_cases e:s=nil\/(k:Int)<0
 ·rw[if_pos e]
 ·rw[if_neg e]
  rcases h with h|⟨f,h1,h2,h3⟩
  ·exact absurd (.inl h) e
  ·obtain⟨j,hj,rfl⟩:=List.getElem_of_mem h1
   have hf:(fs x.ai k)[j]?=some (fs x.ai k)[j]:=kK hj;have e1:bB (kd x (k:Int)) s=j:=by rw[yp,<-h2];exact kS (hg.inv k hk) hf
   have e2:(fd x k j).kind=2:=by rw[pN hf];exact h3
   simp[e1,sy hk hj,e2]
theorem Ym{x:bF}(h:zo x){i:Nat}(hi:i<x.aO.length):Bj x i=0:=by
 obtain⟨n, -,h2, -⟩:=h.aO;obtain⟨h3,h4⟩:=TQ h.ai h2;have e:rl x i=x.aO[i]:=by rw[rl,jA,kK hi];rfl
 obtain⟨k, -,h5⟩:=h3 _ (gY hi);have ea:=Ig h.ai h5.lt (h5.a.imp id And.right);have eb:=Ig h.ai h5.lt (h5.b.imp id And.right);have ek:cU x x.aO[i].kind=k:=by rw[h5.kind];exact sA h.ai h5.lt
 have et:¬(x.aO.take i).any (fun s=>decide (s.name=x.aO[i].name))=true:=by
  intro ht;obtain⟨s,h6,h7⟩:=List.any_eq_true.1 ht;obtain⟨j,hj,rfl⟩:=List.getElem_of_mem h6;rw[List.getElem_take] at h7;rw[OD] at hj;exact List.pairwise_iff_getElem.1 h4 j i aC hi aC (by simpa using h7)
 unfold Bj;simp only[e];rw[if_neg et,ek,ea,eb,if_neg aZ,if_neg aZ,if_neg h5.ab]
theorem tI{α:Type}{g:α->Nat}{b:Nat}:∀(l:List α),(∀x∈l,g x<=b)->bG g l<=b*l.length:=by
 have:∀(l:List α) (n:Nat),(∀x∈l,g x<=b)->l.foldl (fun n x=>n+g x) n<=n+b*l.length:=by
  intro l;induction l with
  |nil=>intro n _;simp
  |cons x l ih=>
   intro n h
   have h1:=h x aZ
   have h2:=ih (n+g x) (fun y hy=>h y (by simp[hy]))
   simp only[List.foldl_cons,List.length_cons,Nat.mul_succ]
   omega
 intro l h;have:=this l 0 h;unfold bG;omega
theorem KC{n:Nat}:∀s∈qq.take n,aU s=true:=by
 have e:qq.all aU=true:=by decide
 intro s hs;exact List.all_eq_true.1 e s (List.mem_of_mem_take hs)
theorem KD{l:Gv}(h:R3 l):vR l=true/\ku l<=400:=by
 obtain⟨h1,n,h2,h3,h4,h5,h6⟩:=h;have hl:l.dM.length=n:=by rw[h4,OD];have:qq.length=4:=rfl;omega
 have hs:∀s∈l.dM,aU s=true:=by rw[h4];exact KC
 have eN:aU qV=true:=by decide
 have e4:qV.size=4:=rfl;refine⟨?_,?_⟩
 ·have a1:tT l.dM.length 1 12=true:=su aC aC
  have a2:l.dM.all aU=true:=List.all_eq_true.2 hs
  have a3:l.jd.all (Bf l.dM.length)=true:=List.all_eq_true.2 fun m hm=>by
   obtain⟨m1,m2,m3,m4⟩:=h6 m hm;unfold Bf;rw[su m1 aC,su m3 aC];rfl
  unfold vR;rw[h1,eN,a1,a2,a3];simp;omega
 ·have b1:bG (fun s:Nm=>1+s.size) l.dM<=13*l.dM.length:=tI _ fun s hs'=>by have:=iF (hs s hs');omega
  have b2:bG (fun m:Int×Int=>4+(1+dQ m.1)+(1+dQ m.2)+1) l.jd<=21*l.jd.length:=tI _ fun m hm=>by
   obtain⟨m1,m2,m3,m4⟩:=h6 m hm;have d1:=fC (n:=m.1) aC aC;have d2:=fC (n:=m.2) aC aC;omega
  have b3:=fC (n:=(l.dM.length:Int)) aC aC;unfold ku;rw[h1,e4];omega
theorem KE{x:bF}(hg:Db x.ai){i:Nat}(hi:i<x.ai.length):qU x.ai[i]=true/\iO x.ai[i]<=1200:=by
 obtain⟨g1,g2,g3⟩:=hg.good;have hI:=hg.inv i hi;have hn:=g3 i hi;have hl:=(g2 _ (gY hi)).len
 have hv:∀f∈x.ai[i].aA,jX f:=by
  intro f hf
  have ef:fs x.ai i=x.ai[i].aA:=by
   show (jC x.ai i).aA=_
   rw[jC,jA,kK hi];rfl
  rw[<-ef] at hf;obtain⟨j,hj,e⟩:=List.getElem_of_mem hf;exact(hI.lead j f (by rw[kK hj,e])).val
 have es:jC x.ai i=x.ai[i]:=by rw[jC,jA,kK hi];rfl
 obtain⟨s1,s2,s3⟩:=hI.span;rw[es] at s1 s2 s3;have hnm:=sx (i:=i) aC;refine⟨?_,?_⟩
 ·have a1:x.ai[i].aA.all dB=true:=List.all_eq_true.2 fun f hf=>(hv f hf).1
  unfold qU;rw[hn,hnm,pJ s1 s2 aC,a1];simp[hl]
 ·have b1:bG cL x.ai[i].aA<=100*x.ai[i].aA.length:=tI _ fun f hf=>(hv f hf).2
  have b2:=fC (n:=x.ai[i].lo) aC aC;have b3:=fC (n:=x.ai[i].hi) aC aC;have b4:=iF hnm;unfold iO;rw[hn];omega
theorem KF{ks:List eZ}{k:Nat}{r:xX}(hl:ks.length<=3)(h:acS ks k r):vU r=true/\mE r<=100:=by
 obtain⟨lt,⟨c,hc,hn⟩,hk,⟨n1,n2⟩,ha,hb,hab⟩:=h;have e1:=acR (c:=c) (k:=k) hc aC;have e2:=sx (i:=k) aC;have ea:(decide (r.a=nil)||aU r.a)=true:=by rcases ha with h|h<;>simp[h]
 have eb:(decide (r.b=nil)||aU r.b)=true:=by rcases hb with h|h<;>simp[h]
 have ec:(decide (r.a=nil)&&decide (r.b=nil))=false:=by
  by_cases h1:r.a=nil
  ·have:r.b≠nil:=fun h2=>hab (h1.trans h2.symm)
   simp[this]
  ·simp[h1]
 have fa:eP r.a<=12:=by
  rcases ha with h|h
  ·rw[h];decide
  ·exact pK (iF h.1)
 have fb:eP r.b<=12:=by
  rcases hb with h|h
  ·rw[h];decide
  ·exact pK (iF h.1)
 refine⟨?_,?_⟩
 ·unfold vU
  rw[hn,hk,e1,e2,ea,eb,ec,su aC aC];rfl
 ·have d:=fC (n:=r.n) aC aC
  have s1:=iF e1;have s2:=iF e2;unfold mE;rw[hn,hk];omega
theorem AX{x:bF}(h:zo x):okB x=true:=by
 obtain⟨g1,g2,g3⟩:=h.ai.good;obtain⟨n, -,h2,h5⟩:=h.aO;obtain⟨h3,h4⟩:=TQ h.ai h2;obtain⟨l,hl,hL⟩:=h.aN;have hv:=h.aI
 have vk:∀k∈x.ai,qU k=true/\iO k<=1200:=fun k hk=>by
  obtain⟨i,hi,rfl⟩:=List.getElem_of_mem hk;exact KE h.ai hi
 have vr:∀r∈x.aO,vU r=true/\mE r<=100:=fun r hr=>by
  obtain⟨k,_,h6⟩:=h3 r hr;exact KF g1 h6
 have vl:∀y∈x.aN,vR y=true/\ku y<=400:=fun y hy=>by
  rw[hl] at hy;rw[nU.1 hy];exact KD hL
 have hll:x.aN.length=1:=by rw[hl];rfl
 have c1:rP x=true:=by
  unfold rP;rw[su hv.1 aC,List.all_eq_true.2 fun k hk=>(vk k hk).1,List.all_eq_true.2 fun k hk=>(vr k hk).1,List.all_eq_true.2 fun k hk=>(vl k hk).1];simp;omega
 have c2:¬8192<G5 x:=by
  have b1:=tI (g:=iO) x.ai fun k hk=>(vk k hk).2;have b2:=tI (g:=ku) x.aN fun k hk=>(vl k hk).2;have b3:=tI (g:=mE) x.aO fun k hk=>(vr k hk).2;have b4:=fC (n:=x.aI) aC aC;unfold G5;omega
 have c3:d9 x=0:=by unfold d9;rw[if_pos c1,if_neg c2]
 have c4:(List.range x.aN.length).all (fun i=>decide (G7 x i=0))=true:=by
  rw[hll];have:G7 x 0=0:=by unfold G7;rw[if_neg aZ]
  simp[List.range_succ,this]
 have c5:((List.range x.ai.length).all fun i:Nat=>decide (zh x i=0)&&(List.range (kd x i).aA.length).all fun j:Nat=>decide (oI x i j=0))=true:=by
  refine List.all_eq_true.2 fun i hi=>?_;have hi:=List.mem_range.1 hi;rw[Yl h hi];simp only[decide_true,Bool.true_and];refine List.all_eq_true.2 fun j hj=>?_;rw[TN h hi (List.mem_range.1 hj)];rfl
 have c6:(List.range x.aO.length).all (fun i=>decide (Bj x i=0))=true:=by
  refine List.all_eq_true.2 fun i hi=>?_;rw[Ym h (List.mem_range.1 hi)];rfl
 unfold okB;rw[c3,c4,c5,c6];rfl
end Go.Proofs.YteiakkfdchnddaaGreatDoor.ah
namespace Go.Proofs.YteiakkfdchnddaaGreatDoor
namespace Sub
abbrev S:=List (List Bool)
def keeps(s:S)(k i:Nat):Bool:=(s.getD k []).getD i false
def Fit(sh:List Nat)(s:S):Prop:=s.length=sh.length/\∀k,(s.getD k []).length=sh.getD k 0
def le(s t:S):Prop:=∀k i,keeps s k i=true->keeps t k i=true
theorem le.refl(s:S):le s s:=fun _ _ h=>h
theorem le.trans{s t u:S}(h:le s t)(g:le t u):le s u:=fun k i hk=>g k i (h k i hk)
theorem aX{α:Type}{xs:List α}{d:α}{k:Nat}(h:k<xs.length):xs.getD k d=xs[k]:=by
 rw[jA,kK h];rfl
theorem iQ{α:Type}{xs:List α}{d:α}{k:Nat}(h:xs.length<=k):xs.getD k d=d:=by
 rw[jA,List.getElem?_eq_none h];rfl
theorem Yn{a b:List Bool}(hl:a.length=b.length)(h:∀i,a.getD i false=b.getD i false):a=b:=by
 refine List.ext_getElem hl fun i h1 h2=>?_;have:=h i;rwa [aX h1,aX h2] at this
theorem ext{sh:List Nat}{s t:S}(hs:Fit sh s)(ht:Fit sh t)(h:∀k i,keeps s k i=keeps t k i):s=t:=by
 refine List.ext_getElem (by rw[hs.1,ht.1]) fun k h1 h2=>?_;have e1:=hs.2 k;have e2:=ht.2 k;have e3:=fun i=>h k i;unfold keeps at e3;rw[aX h1] at e1;rw[aX h2] at e2;rw[aX h1,aX h2] at e3;exact Yn aC e3
theorem le_antisymm{sh:List Nat}{s t:S}(hs:Fit sh s)(ht:Fit sh t)(h:le s t)(g:le t s):s=t:=
 ext hs ht fun k i=>by
  have h1:=h k i;have h2:=g k i;cases e1:keeps s k i<;>cases e2:keeps t k i<;>simp_all
def drop(s:S)(k i:Nat):S:=s.set k ((s.getD k []).set i false)
theorem wB{α:Type}(xs:List α)(k j:Nat)(x d:α):(xs.set k x).getD j d=if k=j/\j<xs.length then x else xs.getD j d:=by
 rw[jA,List.getElem?_set,jA];by_cases h:k=j
 ·subst h
  by_cases g:k<xs.length
  ·simp[g]
  ·simp[g]
 ·simp[h]
theorem iG(s:S)(k i k' i':Nat):keeps (drop s k i) k' i'=(keeps s k' i'&& !(decide (k'=k)&&decide (i'=i))):=by
 unfold keeps drop;rw[wB];by_cases h:k=k'/\k'<s.length
 ·rw[if_pos h,wB]
  obtain⟨rfl,h1⟩:=h;by_cases g:i=i'/\i'<(s.getD k []).length
  ·rw[if_pos g]
   simp[g.1]
  ·rw[if_neg g]
   by_cases e:i'=i
   ·subst e
    rw[iQ aC];simp
   ·simp[e]
 ·rw[if_neg h]
  by_cases e:k'=k
  ·subst e
   rw[iQ (xs:=s) aC];simp
  ·simp[e]
theorem pP{sh:List Nat}{s:S}(h:Fit sh s)(k i:Nat):Fit sh (drop s k i):=by
 refine⟨by unfold drop;rw[List.length_set];exact h.1,fun j=>?_⟩;unfold drop;rw[wB];split
 ·rename_i g
  rw[List.length_set,g.1];exact h.2 j
 ·exact h.2 j
theorem FP(s:S)(k i:Nat):le (drop s k i) s:=fun k' i' h=>by
 rw[iG,kJ] at h;exact h.1
theorem sB{s:S}{k i:Nat}(h:keeps s k i=true):k<s.length/\i<(s.getD k []).length:=by
 unfold keeps at h;constructor
 ·apply Classical.byContradiction;intro g
  rw[iQ (xs:=s) aC] at h;simp at h
 ·apply Classical.byContradiction;intro g
  rw[iQ aC] at h;cases h
def wC(k:Nat)(l:List Bool):List (Nat×Nat):=(List.range l.length).filterMap fun i=>if l.getD i false then some (k,i) else none
def kept(s:S):List (Nat×Nat):=(List.range s.length).flatMap fun k=>wC k (s.getD k [])
theorem dX{s:S}{k i:Nat}:(k,i)∈kept s↔keeps s k i=true:=by
 unfold kept wC;simp only[List.mem_flatMap,List.mem_range,List.mem_filterMap];constructor
 ·rintro ⟨k',_,i',_,h⟩
  split at h
  ·rename_i g
   cases h;exact g
  ·cases h
 ·intro h
  have:=sB h;exact⟨k,this.1,i,this.2,by unfold keeps at h;rw[if_pos h]⟩
theorem KG(k:Nat)(l:List Bool):(wC k l).Nodup:=by
 unfold wC;refine List.Pairwise.filterMap _ (fun a a' h b hb b' hb'=>?_) (List.nodup_range (n:=l.length));split at hb
 ·split at hb'
  ·cases hb;cases hb'
   intro e;injection e with _ e2;exact h e2
  ·cases hb'
 ·cases hb
theorem uX(s:S):(kept s).Nodup:=by
 unfold kept;refine List.pairwise_flatMap.2 ⟨fun k _=>KG k _,List.nodup_range.imp (fun {k k'} h x hx y hy e=>?_)⟩;subst e;unfold wC at hx hy;simp only[List.mem_filterMap] at hx hy;obtain⟨i,_,e1⟩:=hx;obtain⟨j,_,e2⟩:=hy;split at e1
 ·split at e2
  ·have e3:=qf e1
   have e4:=qf e2;rw[<-e4] at e3;injection e3 with e5 _;exact h e5
  ·cases e2
 ·cases e1
def size(s:S):Nat:=(kept s).length
theorem length_le_of_subset{α:Type}[DecidableEq α]{l m:List α}(h:l.Nodup)(hs:∀x∈l,x∈m):l.length<=m.length:=by
 induction l generalizing m with
 |nil=>simp
 |cons x l ih=>
  have hx:x∈m:=hs x aZ
  have hn:=List.nodup_cons.1 h
  have:=ih (m:=m.erase x) hn.2 (fun y hy=>(List.mem_erase_of_ne (by intro e;subst e;exact hn.1 hy)).2 (hs y (by simp[hy])))
  rw[List.length_erase_of_mem hx] at this
  have:0<m.length:=List.length_pos_of_mem hx
  simp only[List.length_cons]
  omega
theorem size_le{s t:S}(h:le s t):size s<=size t:=
 length_le_of_subset (uX s) fun x hx=>by obtain⟨k,i⟩:=x;exact dX.2 (h k i (dX.1 hx))
theorem FQ{s t:S}(h:le s t){k i:Nat}(h1:keeps t k i=true)(h2:keeps s k i=false):size s<size t:=by
 have:((k,i)::kept s).length<=(kept t).length:=length_le_of_subset
  (List.nodup_cons.2 ⟨fun hm=>absurd (dX.1 hm) (by rw[h2];simp),uX s⟩) fun x hx=>by
   rcases kM.1 hx with e|hx
   ·rw[e];exact dX.2 h1
   ·obtain⟨a,b⟩:=x;exact dX.2 (h a b (dX.1 hx))
 simp only[List.length_cons] at this;unfold size;omega
theorem wD{sh:List Nat}{s t:S}(hs:Fit sh s)(ht:Fit sh t)(h:le s t)(hne:s≠t):∃k i,keeps t k i=true/\keeps s k i=false:=by
 apply Classical.byContradiction;intro g;refine hne (le_antisymm hs ht h fun k i hk=>?_);cases e:keeps s k i
 ·exact absurd ⟨k,i,hk,e⟩ g
 ·rfl
def TR(W:S->Nat->Nat->Bool):Prop:=∀s t,le s t->∀k i,W t k i=true->W s k i=true
def valid(W:S->Nat->Nat->Bool)(s:S):Bool:=(kept s).all fun x=> !W s x.1 x.2
theorem kT{W:S->Nat->Nat->Bool}{s:S}:valid W s=true↔∀k i,keeps s k i=true->W s k i=false:=by
 unfold valid;rw[List.all_eq_true];constructor
 ·intro h k i hk
  simpa using h (k,i) (dX.2 hk)
 ·rintro h ⟨k,i⟩ hx
  simpa using h k i (dX.1 hx)
def pass(W:S->Nat->Nat->Bool):List (Nat×Nat)->S->S
 |[],s=>s
 |x::l,s=>pass W l (if W s x.1 x.2 then drop s x.1 x.2 else s)
theorem lW{W:S->Nat->Nat->Bool}{sh:List Nat}:∀(l:List (Nat×Nat)) {s:S},Fit sh s->Fit sh (pass W l s)
 |[],_,h=>h
 |x::l,s,h=>lW l (by split;exact pP h _ _;exact h)
theorem mM{W:S->Nat->Nat->Bool}:∀(l:List (Nat×Nat)) (s:S),le (pass W l s) s
 |[],s=>le.refl s
 |x::l,s=>by
  unfold pass;split
  ·exact(mM l _).trans (FP _ _ _)
  ·exact mM l s
theorem FR{W:S->Nat->Nat->Bool}(hW:TR W){t:S}(ht:valid W t=true):∀(l:List (Nat×Nat)) {s:S},le t s->le t (pass W l s)
 |[],_,h=>h
 |x::l,s,h=>by
  unfold pass;split
  ·rename_i g
   refine FR hW ht l fun k i hk=>?_;rw[iG,h k i hk];by_cases e:k=x.1/\i=x.2
   ·have h1:=hW t s h x.1 x.2 g
    rw[kT.1 ht x.1 x.2 (by rw[<-e.1,<-e.2];exact hk)] at h1;cases h1
   ·simp only[Bool.true_and,Bool.not_eq_true',Bool.and_eq_false_iff,decide_eq_false_iff_not]
    omega
  ·exact FR hW ht l h
theorem Eu{W:S->Nat->Nat->Bool}{sh:List Nat}:∀(l:List (Nat×Nat)) {s:S},Fit sh s->(∀x∈l,keeps s x.1 x.2=true)->pass W l s=s->∀x∈l,W s x.1 x.2=false
 |[],_,_,_,_=>fun x hx=>by simp at hx
 |x::l,s,hs,hk,h=>by
  unfold pass at h;split at h
  ·have h1:=mM (W:=W) l (drop s x.1 x.2)
   rw[h] at h1;have:=h1 x.1 x.2 (hk x aZ);rw[iG] at this;simp at this
  ·rename_i g
   intro y hy;rcases kM.1 hy with rfl|hy
   ·simpa using g
   ·exact Eu l hs (fun z hz=>hk z (by simp[hz])) h y hy
def iN(W:S->Nat->Nat->Bool):Nat->S->S
 |0,s=>s
 |n+1,s=>if pass W (kept s) s=s then s else iN W n (pass W (kept s) s)
def great(W:S->Nat->Nat->Bool)(s:S):S:=iN W (size s) s
theorem Bw{W:S->Nat->Nat->Bool}{sh:List Nat}:∀(n:Nat) {s:S},Fit sh s->Fit sh (iN W n s)
 |0,_,h=>h
 |n+1,s,h=>by
  unfold iN;split
  ·exact h
  ·exact Bw n (lW _ h)
theorem Ev{W:S->Nat->Nat->Bool}:∀(n:Nat) (s:S),le (iN W n s) s
 |0,s=>le.refl s
 |n+1,s=>by
  unfold iN;split
  ·exact le.refl s
  ·exact(Ev n _).trans (mM _ _)
theorem Ew{W:S->Nat->Nat->Bool}(hW:TR W){t:S}(ht:valid W t=true):∀(n:Nat) {s:S},le t s->le t (iN W n s)
 |0,_,h=>h
 |n+1,s,h=>by
  unfold iN;split
  ·exact h
  ·exact Ew hW ht n (FR hW ht _ h)
theorem tJ{W:S->Nat->Nat->Bool}{sh:List Nat}{l:List (Nat×Nat)}{s:S}(hs:Fit sh s)(h:pass W l s≠s):size (pass W l s)<size s:=by
 obtain⟨k,i,h1,h2⟩:=wD (lW l hs) hs (mM l s) h;exact FQ (mM l s) h1 h2
theorem Ey{s:S}(h:size s=0)(k i:Nat):keeps s k i=false:=by
 cases e:keeps s k i
 ·rfl
 ·have:=dX.2 e
  rw[List.eq_nil_of_length_eq_zero h] at this;simp at this
theorem wE{W:S->Nat->Nat->Bool}{sh:List Nat}:∀(n:Nat) {s:S},Fit sh s->size s<=n->valid W (iN W n s)=true
 |0,s,_,hn=>kT.2 fun k i hk=>by
  unfold iN at hk;rw[Ey aC] at hk;cases hk
 |n+1,s,hs,hn=>by
  unfold iN;split
  ·rename_i h
   exact kT.2 fun k i hk=>Eu _ hs (fun x hx=>by obtain⟨a,b⟩:=x;exact dX.1 hx) h (k,i) (dX.2 hk)
  ·rename_i h
   exact wE n (lW _ hs) (by have:=tJ (l:=kept s) (W:=W) hs h;omega)
theorem yt{W:S->Nat->Nat->Bool}{sh:List Nat}{s:S}(h:Fit sh s):Fit sh (great W s):=Bw _ h
theorem Ih(W:S->Nat->Nat->Bool)(s:S):le (great W s) s:=Ev _ s
theorem sC{W:S->Nat->Nat->Bool}{sh:List Nat}{s:S}(h:Fit sh s):valid W (great W s)=true:=wE _ h aH
theorem Ez{W:S->Nat->Nat->Bool}(hW:TR W){s t:S}(ht:valid W t=true)(h:le t s):le t (great W s):=Ew hW ht _ h
theorem zD{W:S->Nat->Nat->Bool}{sh:List Nat}:∀(n m:Nat) {s:S},Fit sh s->size s<=n->size s<=m->iN W n s=iN W m s
 |0,0,_,_,_,_=>rfl
 |0,m+1,s,hs,hn,_=>by
  have h:kept s=[]:=List.eq_nil_of_length_eq_zero (by unfold size at hn;omega);unfold iN;rw[h];simp[pass]
 |n+1,0,s,hs,_,hm=>by
  have h:kept s=[]:=List.eq_nil_of_length_eq_zero (by unfold size at hm;omega);unfold iN;rw[h];simp[pass]
 |n+1,m+1,s,hs,hn,hm=>by
  unfold iN;split
  ·rfl
  ·rename_i h
   have:=tJ (l:=kept s) (W:=W) hs h;exact zD n m (lW _ hs) aC aC
theorem KH{W:S->Nat->Nat->Bool}{sh:List Nat}{s:S}(hs:Fit sh s):great W s=if pass W (kept s) s=s then s else great W (pass W (kept s) s):=by
 unfold great;by_cases h:pass W (kept s) s=s
 ·rw[if_pos h]
  cases e:size s with
  |zero=>rfl
  |succ n=>unfold iN;rw[if_pos h]
 ·rw[if_neg h]
  have:=tJ (l:=kept s) (W:=W) hs h;cases e:size s with
  |zero=>omega
  |succ n=>
   rw[iN,if_neg h]
   exact zD _ _ (lW _ hs) aC aH
end Sub
namespace Sub
def without(W:S->Nat->Nat->Bool)(s:S)(k i:Nat):S:=great W (drop s k i)
def iR(W:S->Nat->Nat->Bool)(s:S):List (Nat×Nat)->List S->List S
 |[],out=>out
 |x::l,out=>iR W s l (if without W s x.1 x.2∈out then out else out++[without W s x.1 x.2])
def FT(W:S->Nat->Nat->Bool)(most:Nat):Nat->Nat->List S->List S
 |0,_,out=>out
 |n+1,i,out=>if h:i<out.length/\out.length<=most then FT W most n (i+1) (iR W (out[i]'h.1) (kept (out[i]'h.1)) out) else out
structure Good(W:S->Nat->Nat->Bool)(sh:List Nat)(g:S)(out:List S):Prop where
 fit:∀s∈out,Fit sh s
 valid:∀s∈out,valid W s=true
 nodup:out.Nodup
 has:g∈out
theorem Good.snoc{W:S->Nat->Nat->Bool}{sh:List Nat}{g t:S}{out:List S}(h:Good W sh g out)(h1:Fit sh t)(h2:Sub.valid W t=true)(h3:t∉out):Good W sh g (out++[t]) where
 fit s hs:=by
  rcases List.mem_append.1 hs with hs|hs
  ·exact h.fit s hs
  ·rw[nU.1 hs];exact h1
 valid s hs:=by
  rcases List.mem_append.1 hs with hs|hs
  ·exact h.valid s hs
  ·rw[nU.1 hs];exact h2
 nodup:=List.nodup_append.2 ⟨h.nodup,by simp,fun a ha b hb e=>h3 (by rw[<-nU.1 hb,<-e];exact ha)⟩
 has:=List.mem_append.2 (.inl h.has)
theorem qw{W:S->Nat->Nat->Bool}{sh:List Nat}{g s:S}(hs:Fit sh s):∀(l:List (Nat×Nat)) {out:List S},Good W sh g out->Good W sh g (iR W s l out)
 |[],_,h=>h
 |x::l,out,h=>by
  unfold iR;split
  ·exact qw hs l h
  ·rename_i hn
   exact qw hs l (h.snoc (yt (pP hs _ _)) (sC (pP hs _ _)) hn)
theorem kU{W:S->Nat->Nat->Bool}{s:S}:∀(l:List (Nat×Nat)) (out:List S),∃m,iR W s l out=out++m
 |[],out=>⟨[],by simp[iR]⟩
 |x::l,out=>by
  unfold iR;split
  ·exact kU l out
  ·obtain⟨m,hm⟩:=kU (W:=W) (s:=s) l (out++[without W s x.1 x.2])
   exact⟨without W s x.1 x.2::m,by rw[hm];simp⟩
theorem EA{W:S->Nat->Nat->Bool}{s:S}:∀(l:List (Nat×Nat)) (out:List S),∀x∈l,without W s x.1 x.2∈iR W s l out
 |[],_=>fun x hx=>by simp at hx
 |y::l,out=>fun x hx=>by
  unfold iR;rcases kM.1 hx with rfl|hx
  ·obtain⟨m,hm⟩:=kU (W:=W) (s:=s) l (if without W s x.1 x.2∈out then out else out++[without W s x.1 x.2])
   rw[hm];refine List.mem_append.2 (.inl ?_);split
   ·assumption
   ·simp
  ·exact EA l _ x hx
def Done(W:S->Nat->Nat->Bool)(out:List S)(i:Nat):Prop:=∀j (h:j<out.length),j<i->∀x∈kept out[j],without W out[j] x.1 x.2∈out
theorem EB{W:S->Nat->Nat->Bool}{out:List S}{i:Nat}(h:Done W out i)(hi:i<out.length):Done W (iR W out[i] (kept out[i]) out) (i+1):=by
 obtain⟨m,hm⟩:=kU (W:=W) (s:=out[i]) (kept out[i]) out;intro j hj hji x hx;have hjo:j<out.length:=by omega
 have e:(iR W out[i] (kept out[i]) out)[j]=out[j]:=by
  simp only[hm];rw[RW hjo]
 rw[e] at hx ⊢;by_cases g:j=i
 ·subst g
  exact EA _ _ x hx
 ·rw[hm]
  exact List.mem_append.2 (.inl (h j hjo aC x hx))
theorem Ii{W:S->Nat->Nat->Bool}(hW:TR W){sh:List Nat}{g:S}{out:List S}(h:Good W sh g out)(hg:∀t,Fit sh t->Sub.valid W t=true->le t g)(hd:Done W out out.length):
  ∀t,Fit sh t->Sub.valid W t=true->t∈out:=by
 intro t ht hv
 have key:∀n,∀s∈out,le t s->size s<=n->t∈out:=by
  intro n;induction n with
  |zero=>
   intro s hs hl hn
   have:t=s:=le_antisymm ht (h.fit s hs) hl (fun k i hk=>by rw[Ey aC] at hk;cases hk)
   rw[this];exact hs
  |succ n ih=>
   intro s hs hl hn
   by_cases e:t=s
   ·rw[e];exact hs
   ·obtain⟨k,i,h1,h2⟩:=wD ht (h.fit s hs) hl e
    obtain⟨j,hj,hjs⟩:=zMg.1 hs;have hm:=hd j hj hj (k,i) (by rw[hjs];exact dX.2 h1);rw[hjs] at hm;refine ih _ hm (Ez hW hv fun k' i' hk=>?_) ?_
    ·rw[iG,hl k' i' hk]
     by_cases e2:k'=k/\i'=i
     ·rw[e2.1,e2.2,h2] at hk;cases hk
     ·simp only[Bool.true_and,Bool.not_eq_true',Bool.and_eq_false_iff,decide_eq_false_iff_not]
      omega
    ·have h3:size (without W s k i)<size s:=FQ ((Ih _ _).trans (FP _ _ _)) h1 (by
      cases e3:keeps (great W (drop s k i)) k i
      ·exact e3
      ·have:=Ih W (drop s k i) k i e3
       rw[iG] at this;simp at this)
     show size (without W s k i)<=n
     omega
 exact key (size g) g h.has (hg t ht hv) aH
theorem EC{W:S->Nat->Nat->Bool}{sh:List Nat}{g:S}{most:Nat}:∀(n i:Nat) {out:List S},Good W sh g out->Good W sh g (FT W most n i out)
 |0,_,_,h=>h
 |n+1,i,out,h=>by
  unfold FT;split
  ·rename_i hh
   exact EC n (i+1) (qw (h.fit _ (gY hh.1)) _ h)
  ·exact h
theorem ED{W:S->Nat->Nat->Bool}{sh:List Nat}{g:S}{most N:Nat}(hN:∀out,Good W sh g out->out.length<=N):∀(n i:Nat) {out:List S},Good W sh g out->Done W out i->i<=out.length->N<=n+i->
  most<(FT W most n i out).length\/Done W (FT W most n i out) (FT W most n i out).length
 |0,i,out,h,hd,hi,hn=>by
  unfold FT;have:=hN out h;have:i=out.length:=by omega
  subst this;exact .inr hd
 |n+1,i,out,h,hd,hi,hn=>by
  unfold FT;split
  ·rename_i hh
   obtain⟨m,hm⟩:=kU (W:=W) (s:=out[i]) (kept out[i]) out;exact ED hN n (i+1) (qw (h.fit _ (gY hh.1)) _ h) (EB hd hh.1) (by rw[hm,rG];omega) aC
  ·rename_i hh
   by_cases g1:i<out.length
   ·exact .inl aC
   ·have:i=out.length:=by omega
    subst this;exact .inr hd
def places(sh:List Nat):List (Nat×Nat):=(List.range sh.length).flatMap fun k=>(List.range (sh.getD k 0)).map fun i=>(k,i)
theorem KI{sh:List Nat}{k i:Nat}:(k,i)∈places sh↔k<sh.length/\i<sh.getD k 0:=by
 unfold places;simp only[List.mem_flatMap,List.mem_range,List.mem_map];constructor
 ·rintro ⟨k',h1,i',h2,h3⟩
  injection h3 with e1 e2;subst e1;subst e2;exact⟨h1,h2⟩
 ·rintro ⟨h1,h2⟩
  exact⟨k,h1,i,h2,rfl⟩
def jg(s t:S):List (Nat×Nat)->Bool
 |[]=>false
 |x::l=>if keeps s x.1 x.2=keeps t x.1 x.2 then jg s t l else keeps s x.1 x.2
theorem uH(s:S):∀l,jg s s l=false
 |[]=>rfl
 |x::l=>by unfold jg;rw[if_pos rfl];exact uH s l
theorem wF{s t u:S}:∀l,jg s t l=true->jg t u l=true->jg s u l=true
 |[],h,_=>by cases h
 |x::l,h,g=>by
  unfold jg at h g ⊢;cases a:keeps s x.1 x.2<;>cases b:keeps t x.1 x.2<;>cases c:keeps u x.1 x.2<;>simp[a,b,c] at h g ⊢;all_goals exact wF l h g
theorem wG(s t:S):∀l,(∀x∈l,keeps s x.1 x.2=keeps t x.1 x.2)\/jg s t l=true\/jg t s l=true
 |[]=>.inl aZ
 |x::l=>by
  unfold jg;by_cases h:keeps s x.1 x.2=keeps t x.1 x.2
  ·rw[if_pos h,if_pos h.symm]
   rcases wG s t l with g|g|g
   ·exact .inl fun y hy=>by
     rcases kM.1 hy with rfl|hy
     ·exact h
     ·exact g y hy
   ·exact .inr (.inl g)
   ·exact .inr (.inr g)
  ·rw[if_neg h,if_neg (fun e=>h e.symm)]
   cases a:keeps s x.1 x.2<;>cases b:keeps t x.1 x.2<;>simp_all
def less(sh:List Nat)(s t:S):Bool:=decide (size s<size t)||(decide (size s=size t)&&jg s t (places sh))
theorem wH{sh:List Nat}{s t:S}:less sh s t=true↔size s<size t\/(size s=size t/\jg s t (places sh)=true):=by simp[less]
theorem lX(sh:List Nat)(s:S):less sh s s=false:=by
 cases h:less sh s s
 ·rfl
 ·rw[wH,uH] at h
  rcases h with h|h
  ·omega
  ·cases h.2
theorem qx{sh:List Nat}{s t u:S}(h:less sh s t=true)(g:less sh t u=true):less sh s u=true:=by
 rw[wH] at h g ⊢;rcases h with h|⟨h,h2⟩<;>rcases g with g|⟨g,g2⟩
 ·exact .inl aC
 ·exact .inl aC
 ·exact .inl aC
 ·exact .inr ⟨by omega,wF _ h2 g2⟩
theorem Bx{sh:List Nat}{s t:S}(h:less sh s t=true):less sh t s=false:=by
 cases g:less sh t s
 ·rfl
 ·have:=qx h g
  rw[lX] at this;cases this
theorem qy{sh:List Nat}{s t:S}(hs:Fit sh s)(ht:Fit sh t):s=t\/less sh s t=true\/less sh t s=true:=by
 rw[wH,wH];rcases wG s t (places sh) with h|h|h
 ·refine .inl (ext hs ht fun k i=>?_)
  by_cases g:k<sh.length/\i<sh.getD k 0
  ·exact h (k,i) (KI.2 g)
  ·have e1:∀u:S,Fit sh u->keeps u k i=false:=fun u hu=>by
    cases e:keeps u k i
    ·rfl
    ·have:=sB e
     rw[hu.2,hu.1] at this;exact absurd this g
   rw[e1 s hs,e1 t ht]
 ·rcases Nat.lt_trichotomy (size s) (size t) with g|g|g
  ·exact .inr (.inl (.inl g))
  ·exact .inr (.inl (.inr ⟨g,h⟩))
  ·exact .inr (.inr (.inl g))
 ·rcases Nat.lt_trichotomy (size s) (size t) with g|g|g
  ·exact .inr (.inl (.inl g))
  ·exact .inr (.inr (.inr ⟨g.symm,h⟩))
  ·exact .inr (.inr (.inl g))
def Sorted(sh:List Nat)(l:List S):Prop:=l.Pairwise fun s t=>less sh s t=true
theorem FU{sh:List Nat}{l:List S}(h:Sorted sh l):l.Nodup:=h.imp (fun {a b} hab e=>by rw[e,lX] at hab;cases hab)
theorem EF{sh:List Nat}:∀(l m:List S),Sorted sh l->Sorted sh m->(∀s,s∈l↔s∈m)->l=m
 |[],[],_,_,_=>rfl
 |[],y::m,_,_,h=>by have:=(h y).2 aZ;simp at this
 |x::l,[],_,_,h=>by have:=(h x).1 aZ;simp at this
 |x::l,y::m,hl,hm,h=>by
  have hl':=List.pairwise_cons.1 hl;have hm':=List.pairwise_cons.1 hm
  have e:x=y:=by
   rcases kM.1 ((h x).1 aZ) with e|e
   ·exact e
   ·rcases kM.1 ((h y).2 aZ) with e'|e'
    ·exact e'.symm
    ·have h1:=hm'.1 x e
     have h2:=hl'.1 y e';rw[Bx h1] at h2;cases h2
  subst e;congr 1;refine EF l m hl'.2 hm'.2 fun s=>⟨fun hs=>?_,fun hs=>?_⟩
  ·rcases kM.1 ((h s).1 (by simp[hs])) with e|e
   ·subst e
    have:=hl'.1 s hs;rw[lX] at this;cases this
   ·exact e
  ·rcases kM.1 ((h s).2 (by simp[hs])) with e|e
   ·subst e
    have:=hm'.1 s hs;rw[lX] at this;cases this
   ·exact e
end Sub
end Go.Proofs.YteiakkfdchnddaaGreatDoor
namespace Go.Proofs.YteiakkfdchnddaaGreatDoor
open Go.RowKit
theorem Tryz.afE:jW Tryz.prog 143 146 2 16:=gE (z:=.agg #[.int .i64 0,.int .i64 0]) (by kernel_rfl) (by kernel_rfl) rfl aC aC
def afF(k:Nat)(n:Nat):List (Int×Int):=(List.range n).map fun i:Nat=>((k:Int),(i:Int))
def aaM(W:ah.cG):Nat->List (Int×Int)
 |0=>[]
 |k+1=>aaM W k++afF k (W.getD k []).length
def qv(W:ah.cG):List (Int×Int):=aaM W W.length
theorem Bz(W:ah.cG)(k:Nat):ah.total (W.take k)<=ah.total W:=by
 have:ah.total (W.take k++W.drop k)=ah.total (W.take k)+ah.total (W.drop k):=by simp only[ah.total,List.map_append,List.sum_append]
 rw[List.take_append_drop] at this;omega
abbrev Yo(B:Nat):=bC 2 OE (fun _=>True) B 146
abbrev nG(S:Nat->Prop):=gQ (fun _ u (x:Bool)=>u=.bool x) S
abbrev cQ(S:Nat->Prop):=gQ (nG S) S
theorem nG.keep{S w w' v xs}(h:nG S w v xs)(hk:aB S w w'):nG S w' v xs:=gQ.keep h hk fun _ _ h=>h
theorem nG.mono{S S' w v xs}(h:nG S w v xs)(hS:∀b,b<w.heap.size->S b->S' b):nG S' w v xs:=gQ.mono h hS fun _ _ h=>h
theorem cQ.keep{S w w' v xs}(h:cQ S w v xs)(hk:aB S w w'):cQ S w' v xs:=gQ.keep h hk fun _ _ h=>nG.keep h hk
theorem cQ.mono{S S' w v xs}(h:cQ S w v xs)(hS:∀b,b<w.heap.size->S b->S' b):cQ S' w v xs:=gQ.mono h hS fun _ _ h=>nG.mono h hS
theorem Yp{α:Type}{l:List α}{k:Nat}{d:α}(h:k<l.length):l.getD k d=l[k]:=by
 rw[jA,kK h,zOg]
theorem BA{α:Type}{l:List α}{k:Nat}{d:α}(h:¬k<l.length):l.getD k d=d:=by
 rw[jA,List.getElem?_eq_none aC,Option.getD_none]
theorem sB{s:Sub.S}{k i:Nat}(h:Sub.keeps s k i=true):∃hk:k<s.length,i<s[k].length:=by
 unfold Sub.keeps at h;by_cases hk:k<s.length
 ·rw[Yp hk] at h
  refine⟨hk,?_⟩;by_cases hi:i<s[k].length
  ·exact hi
  ·rw[BA hi] at h
   exact absurd h aZ
 ·rw[BA (l:=s) hk,BA aZ] at h
  exact absurd h aZ
def jx(S:Nat->Prop)(w:World)(v:Value)(xs:List Bool):Prop:=
 w.ownsRow 0 4 1 v xs.length (xs.map (Value.bool))/\∀b,v.ownBlock=some b->S b
theorem fN:fG (α:=List Bool) jx:=
 ⟨fun h k=>⟨dm h.1 h.2 k,h.2⟩,fun h k=>⟨h.1,fun b hb=>k b (h.1.lt b hb).2 (h.2 b hb)⟩⟩
theorem jx.sl{S:Nat->Prop}{w:World}{v:Value}{xs:List Bool}(h:jx S w v xs):nG S w v xs:=
 kQ h.1 h.2 aZ (fun j h1 h2=>by simp)
theorem jx.nil(S:Nat->Prop)(w:World):jx S w (.slice none 0 0) []:=⟨World.ownsRow_nil _ _ _ _,fun b hb=>by simp[Value.ownBlock] at hb⟩
abbrev mz:=iM jx 129
theorem dP:fG (α:=List (List Bool)) mz:=rN fN _
theorem mz.sl{S:Nat->Prop}{w:World}{v:Value}{xs:List (List Bool)}(h:mz S w v xs):cQ S w v xs:=iM.sl (R:=fun S=>nG S) fN (fun h=>jx.sl h) h
theorem Tryz.appB:jW Tryz.prog 129 4 1 1:=gE (z:=.bool false) (by kernel_rfl) (by kernel_rfl) rfl aC aC
section
variable {P:Program} {t e:TypeId} {bytes:Nat} {α:Type} {RR:(Nat->Prop)->World->Value->α->Prop} {w:World} {ops:Array Oper} {rest:List Oper} {o:Oper} {a:Act} {Q:Exit->Act->World->Prop}
theorem Ij(hgd:o.guard=none)(s x:Operand)
  (ho:o.op=.call {callee:=.builtin .append,args:=#[s,x],argTypes:=#[t,t]})(hT:jW P t 4 1 bytes)
  {S:Nat->Prop}{w1:World}{v:Value}{xs:List Bool}(hs:a.eval s=v)(hown:jx S w1 v xs)(hb:BL w1 w)
  {ao:Option Addr}{m c:Nat}(hx:a.eval x=.slice ao m c){T:Nat->Prop}{ys:List Bool}(hy:nG T w (.slice ao m c) ys)
  (hsmall:xs.length+m<=1000000000)
  (h:∀v' w',jx (Grow S w1.heap.size) w' v' (xs++ys)->Turns (fun b=>some b=v.ownBlock) w w'->wpList P ops Q rest (a.put o.dst v') w'):
  wpList P ops Q (o::rest) a w:=by
 obtain⟨rfl,hok,us,l1,l2,l3⟩:=gQ.news hy
 have vJ:us=ys.map (Value.bool):=by
  exact RU
 have hsz:=hb.size;have f2':w.ownsRow 0 4 1 v xs.length (xs.map (Value.bool)):=dm (S:=fun _=>True) hown.1 (fun _ _=>trivial) (aB.below hb);refine iZ hgd s x ho hT hs f2' ao ys.length c hx hok us (by simpa using l1) l2 ?_ hsmall (Nat.zero_le _) (fun v' w' g1 g2 g3=>h v' w' ⟨?_,fun b hb'=>?_⟩ (Turns.iq g2 fun b hb'=>hb'.symm))
 ·rw[vJ];intro u hu;obtain⟨y,_,rfl⟩:=List.mem_map.1 hu;rfl
 ·rw[rG,List.map_append,<-vJ];exact g1
 ·rcases g3 with g3|g3
  ·rw[g3] at hb';exact .inl ⟨hown.2 b hb',(hown.1.lt b hb').2⟩
  ·rw[g3] at hb';exact .inr (by have:=qf hb';omega)
end
def kV(W:ah.cG):Sub.S:=W.map fun rows=>List.replicate rows.length true
theorem Am(n:Nat):madeCells (Value.bool false).cells (n*1)=(List.replicate n (Value.bool false)).toArray:=by
 apply Array.ext
 ·simp[madeCells,Value.cells]
 ·intro i h1 h2
  simp[madeCells,Value.cells,Nat.mod_one]
theorem KJ{P:Program}{t e:TypeId}{b:Nat}(ht:P.underlying t=some (.slice e))(hi:(P.info? e).map (fun i=>(i.zero,i.size,i.bytes))=some (some (.bool false),1,b))(hb:b<=1000)
  (n:Nat)(hn:n<=1000000)(w:World):
  (Instr.makeSlice t (.int .i64 (n:Int)) (.int .i64 (n:Int))).run P w=.ok (.slice (some ⟨w.heap.size,0,none⟩) n n) (w.alloc (.cells (List.replicate n (Value.bool false)).toArray e)):=by
 obtain⟨i,h1,h2,h3,h4⟩:=info_parts hi
 have hy:(i.bytes:Int)*(n:Int)<=281474976710656:=by
  exact TA
 have hr:=run_make (P:=P) w t e i (.bool false) ht h1 h2 .i64 .i64 (n:Int) (n:Int) aC aC hy aC;rw[h3,Int.toNat_natCast,Am] at hr;exact hr
theorem jx.set{S:Nat->Prop}{w:World}{g n cap:Nat}{xs:List Bool}(h:jx S w (.slice (some ⟨g,0,none⟩) n cap) xs)(hn:n=xs.length)(j:Nat)(x:Bool):
  jx S (w.setCell ⟨g,j,none⟩ (.bool x)) (.slice (some ⟨g,0,none⟩) n cap) (xs.set j x):=by
 subst hn;refine⟨?_,h.2⟩;rw[List.length_set,List.map_set];exact uh h.1 j _
end Go.Proofs.YteiakkfdchnddaaGreatDoor
namespace Go.Proofs.YteiakkfdchnddaaGreatDoor.Vm
open ah (cG bF)
open Go.RowKit (wrap64)
structure Ins where
 op:Int
 a:Int
 b:Int
 c:Int
def Ik:Ins:=⟨0,0,0,0⟩
def TS:List (List Int):=[[1,0,0],[2,3,0],[2,2,2],[2,2,2],[2,4,0],[2,4,5],[6,0,0],[2,2,6],[2,2,6]]
def cA(op:Int)(k:Nat):Int:=(TS.getD op.toNat []).getD k 0
def iz(s:Int):Int:=if s=3 then -1048576 else 0
def jD(s n:Int):Int:=if s=1 then 250 else if s=2 then 7 else if s=3 then 1048576 else if s=4 then 5 else if s=5 then 9 else if s=6 then n else 0
def eM(s v n:Int):Bool:=decide (iz s<=v)&&decide (v<=jD s n)
def TU(i:Ins)(k:Nat):Int:=if k=0 then i.a else if k=1 then i.b else i.c
def opB(i:Ins):Bool:=decide (0<=i.op)&&decide (i.op<9)
def jE(n:Int)(i:Ins):Bool:=opB i&&eM (cA i.op 0) i.a n&&eM (cA i.op 1) i.b n&&eM (cA i.op 2) i.c n
def d9(p:List Ins):Int:=if 128<p.length then 4 else if p.all (jE p.length)=true then 0 else 1
def dH(x:bF)(i:Ins):Bool:=
 if i.op=4 then decide (i.b<x.ai.length)
 else if i.op=5 then decide (i.b<x.ai.length)&&decide (i.c<(ah.kd x i.b).aA.length)
 else true
def oM(x:bF)(p:List Ins):Bool:=p.all (dH x)
def mA(W:cG)(k:Int):Nat:=(W.getD k.toNat []).length
def Il(W:cG)(k i f:Int):Int:=((W.getD k.toNat []).getD i.toNat []).getD f.toNat 0
def jO(r:List Int)(k:Int):Int:=r.getD k.toNat 0
def j4(r:List Int)(k v:Int):List Int:=r.set k.toNat v
def step(W:cG)(i:Ins)(r:List Int)(n:Nat):Option Int×List Int×Nat:=
 if i.op=0 then (some i.a,r,n)
 else if i.op=1 then (none,j4 r i.a i.b,n)
 else if i.op=2 then (none,j4 r i.a (wrap64 (jO r i.b+jO r i.c)),n)
 else if i.op=3 then (none,j4 r i.a (wrap64 (jO r i.b-jO r i.c)),n)
 else if i.op=4 then (none,j4 r i.a (mA W i.b),n)
 else if i.op=5 then (if jO r i.a<0\/(mA W i.b:Int)<=jO r i.a then (some 251,r,n) else (none,j4 r i.a (Il W i.b (jO r i.a) i.c),n))
 else if i.op=6 then (none,r,i.a.toNat)
 else if i.op=7 then (none,r,if jO r i.a<jO r i.b then i.c.toNat else n)
 else (none,r,if jO r i.a=jO r i.b then i.c.toNat else n)
def oN(W:cG)(p:List Ins):Nat->Nat->List Int->Nat->Int×Int×Int
 |0,at',_,n=>if at'=p.length then (0,(n:Int),0) else (0,0,23)
 |f+1,at',r,n=>
  if at'=p.length then (0,(n:Int),0) else
  match step W (p.getD at' Ik) r (at'+1) with
  |(some c,_,_)=>(c,((n+1:Nat):Int),0)
  |(none,r',O6)=>oN W p f O6 r' (n+1)
def BD:List Int:=List.replicate 8 0
def lZ(x:bF)(W:cG)(p:List Ins)(most:Int):Int×Int×Int:=
 if d9 p≠0 then (0,0,d9 p) else if most<0\/1000000<most then (0,0,4) else if oM x p=false then (0,0,12) else oN W p most.toNat 0 BD 0
theorem Im{p:List Ins}(h:d9 p=0):p.length<=128/\∀i∈p,jE p.length i=true:=by
 unfold d9 at h;split at h
 ·omega
 ·split at h
  ·rename_i h1 h2
   exact⟨by omega,List.all_eq_true.1 h2⟩
  ·omega
structure afG(n:Nat)(i:Ins):Prop where
 op0:0<=i.op
 op9:i.op<9
 a:∀s,s=cA i.op 0->iz s<=i.a/\i.a<=jD s n
 b:∀s,s=cA i.op 1->iz s<=i.b/\i.b<=jD s n
 c:∀s,s=cA i.op 2->iz s<=i.c/\i.c<=jD s n
theorem afH{n:Nat}{i:Ins}(h:jE n i=true):afG n i:=by
 simp only[jE,opB,eM,kJ,lE] at h;obtain⟨⟨⟨⟨h1,h2⟩,h3⟩,h4⟩,h5⟩:=h;exact⟨h1,h2,fun s e=>by subst e;exact h3,fun s e=>by subst e;exact h4,fun s e=>by subst e;exact h5⟩
theorem EG{n:Nat}{i:Ins}(h:jE n i=true):
  (i.op=0/\0<=i.a/\i.a<=250)\/(i.op=1/\0<=i.a/\i.a<=7/\ -1048576<=i.b/\i.b<=1048576)\/
  (i.op=2/\0<=i.a/\i.a<=7/\0<=i.b/\i.b<=7/\0<=i.c/\i.c<=7)\/(i.op=3/\0<=i.a/\i.a<=7/\0<=i.b/\i.b<=7/\0<=i.c/\i.c<=7)\/
  (i.op=4/\0<=i.a/\i.a<=7/\0<=i.b/\i.b<=5)\/(i.op=5/\0<=i.a/\i.a<=7/\0<=i.b/\i.b<=5/\0<=i.c/\i.c<=9)\/
  (i.op=6/\0<=i.a/\i.a<=n)\/(i.op=7/\0<=i.a/\i.a<=7/\0<=i.b/\i.b<=7/\0<=i.c/\i.c<=n)\/
  (i.op=8/\0<=i.a/\i.a<=7/\0<=i.b/\i.b<=7/\0<=i.c/\i.c<=n):=by
 have H:=afH h;obtain⟨o0,o9,ha,hb,hc⟩:=H;have:i.op=0\/i.op=1\/i.op=2\/i.op=3\/i.op=4\/i.op=5\/i.op=6\/i.op=7\/i.op=8:=by omega
 rcases this with e|e|e|e|e|e|e|e|e<;>(
  have h1:=ha _ rfl
  have h2:=hb _ rfl
  have h3:=hc _ rfl
  rw[e] at h1 h2 h3
  simp[cA,TS,iz,jD] at h1 h2 h3
  omega)
end Go.Proofs.YteiakkfdchnddaaGreatDoor.Vm
namespace Go.Proofs.YteiakkfdchnddaaGreatDoor.aR
open ah (cG bF)
structure Ref where
 kind:Nat
 field:Nat
 up:Int
 least:Int
def sD(x:bF)(k j:Nat):List Ref:=if (ah.fd x k j).kind=1 then [⟨k,j,ah.dV x k j,(ah.fd x k j).lo⟩] else []
def kN(x:bF)(k n:Nat):List Ref:=(List.range n).flatMap (sD x k)
def q9(x:bF)(n:Nat):List Ref:=(List.range n).flatMap fun k=>kN x k (ah.kd x k).aA.length
def cN(x:bF):List Ref:=q9 x x.ai.length
theorem KL(x:bF)(k:Nat):kN x k 0=[]:=rfl
theorem uY(x:bF)(k n:Nat):kN x k (n+1)=kN x k n++sD x k n:=by simp[kN,List.range_succ]
theorem BF(x:bF)(n:Nat):q9 x (n+1)=q9 x n++kN x n (ah.kd x n).aA.length:=by simp[q9,List.range_succ]
theorem EH{x:bF}{k j:Nat}(h:(ah.fd x k j).kind=1):sD x k j=[⟨k,j,ah.dV x k j,(ah.fd x k j).lo⟩]:=if_pos h
theorem TV{x:bF}{k j:Nat}(h:¬(ah.fd x k j).kind=1):sD x k j=[]:=if_neg h
def nV(W:cG)(k i j:Nat):Int:=((W.getD k []).getD i []).getD j 0
def sE(W:cG)(s:Sub.S)(r:Ref)(i:Int)(n:Nat):Nat:=((List.range n).filter fun a=>Sub.keeps s r.kind a&&decide (nV W r.kind a r.field=i)).length
def EI(W:cG)(s:Sub.S)(r:Ref)(i:Int):Nat:=sE W s r i (W.getD r.kind []).length
def yu(W:cG)(s:Sub.S)(k i:Nat)(r:Ref):Bool:=
 (decide (r.kind=k)&& !Sub.keeps s r.up.toNat (nV W k i r.field).toNat)||(decide (r.up=k)&&decide ((EI W s r i:Int)<r.least))
def wrong(rs:List Ref)(W:cG)(s:Sub.S)(k i:Nat):Bool:=rs.any (yu W s k i)
theorem uI{α:Type}{p q:α->Bool}(h:∀a,p a=true->q a=true):∀l:List α,(l.filter p).length<=(l.filter q).length
 |[]=>aH
 |a::l=>by
  have ih:=uI h l;by_cases hp:p a=true
  ·rw[List.filter_cons_of_pos hp,List.filter_cons_of_pos (h a hp)]
   simpa using ih
  ·rw[List.filter_cons_of_neg hp]
   by_cases hq:q a=true
   ·rw[List.filter_cons_of_pos hq];simp;omega
   ·rw[List.filter_cons_of_neg hq];exact ih
theorem TW{W:cG}{s t:Sub.S}(h:Sub.le s t)(r:Ref)(i:Int):EI W s r i<=EI W t r i:=by
 refine uI (fun a ha=>?_) _;rw[kJ] at ha ⊢;exact⟨h _ _ ha.1,ha.2⟩
theorem BG(rs:List Ref)(W:cG):Sub.TR (wrong rs W):=by
 intro s t h k i hw;unfold wrong at hw ⊢;rw[List.any_eq_true] at hw ⊢;obtain⟨r,hr,hb⟩:=hw;refine⟨r,hr,?_⟩;unfold yu at hb ⊢;rw[Bool.or_eq_true,kJ,kJ,lE,lE,lE] at hb ⊢;rcases hb with⟨h1,h2⟩|⟨h1,h2⟩
 ·refine .inl ⟨h1,?_⟩
  cases e:Sub.keeps s r.up.toNat (nV W k i r.field).toNat
  ·rfl
  ·rw[h _ _ e] at h2;cases h2
 ·refine .inr ⟨h1,?_⟩
  have:=TW (W:=W) h r i;omega
def eM(x:bF)(W:cG):Bool:=
 decide (W.length=x.ai.length)&&(List.range W.length).all (fun k=>(W.getD k []).all fun r=>decide (r.length=(ah.kd x k).aA.length))&&
 (cN x).all (fun r=>(W.getD r.kind []).all fun l=>decide (0<=l.getD r.field 0)&&decide (l.getD r.field 0<ah.fW W r.up))&&decide (ah.total W<=512)
def tK(W:cG)(s:Sub.S):Bool:=decide (W.map List.length=s.map List.length)
def shape(W:cG):List Nat:=W.map List.length
theorem KM{W:cG}{s:Sub.S}(h:tK W s=true):Sub.Fit (shape W) s:=by
 have h:=of_decide_eq_true h;refine⟨by simpa [shape] using (congrArg List.length h).symm,fun k=>?_⟩;have hk:=congrArg (fun l=>l.getD k 0) h;simp only[jA,List.getElem?_map,shape] at hk ⊢;rw[hk];cases s[k]?<;>rfl
theorem BH{W:cG}{s:Sub.S}(h:Sub.Fit (shape W) s):tK W s=true:=by
 refine decide_eq_true (List.ext_getElem (by simpa [shape] using h.1.symm) fun k h1 h2=>?_);have hk:=h.2 k;simp only[FD] at h1 h2;simp only[jA,List.getElem?_map,shape,kK h1,kK h2,zOg,Option.map_some] at hk;rw[List.getElem_map,List.getElem_map];exact hk.symm
def kC(x:bF)(W:cG)(s:Sub.S):Int:=if ah.okB x=true then (if eM x W=true then (if tK W s=true then 0 else 1) else 2) else 1
structure sF(x:bF)(W:cG):Prop where
 ai:x.ai.length<=6
 aA:∀k:Nat,(ah.kd x k).aA.length<=10
 refs:∀r∈cN x,r.kind<x.ai.length/\r.field<(ah.kd x r.kind).aA.length/\0<=r.up/\r.up<r.kind/\0<=r.least/\r.least<=65536/\(ah.fd x r.kind r.field).kind=1/\r.up=ah.dV x r.kind r.field
 len:W.length=x.ai.length
 qv:∀k (h:k<W.length),∀r∈W[k],r.length=(ah.kd x k).aA.length
 lead:∀r∈cN x,∀i (h:r.kind<W.length) (_hi:i<W[r.kind].length),0<=nV W r.kind i r.field/\nV W r.kind i r.field<ah.fW W r.up
 tot:ah.total W<=512
theorem yw{x:bF}{r:Ref}(h:r∈cN x):r.kind<x.ai.length/\r.field<(ah.kd x r.kind).aA.length/\(ah.fd x r.kind r.field).kind=1/\r.up=ah.dV x r.kind r.field/\r.least=(ah.fd x r.kind r.field).lo:=by
 unfold cN q9 at h;rw[List.mem_flatMap] at h;obtain⟨k,hk,h⟩:=h;unfold kN at h;rw[List.mem_flatMap] at h;obtain⟨j,hj,h⟩:=h;rw[List.mem_range] at hk hj;unfold sD at h;split at h
 ·rename_i h1
  rw[nU] at h;subst h;exact⟨hk,hj,h1,rfl,rfl⟩
 ·simp at h
theorem BI{x:bF}{k j:Nat}(hk:k<x.ai.length)(hj:j<(ah.kd x k).aA.length)(h1:(ah.fd x k j).kind=1):(⟨k,j,ah.dV x k j,(ah.fd x k j).lo⟩:Ref)∈cN x:=by
 unfold cN q9;refine List.mem_flatMap.2 ⟨k,List.mem_range.2 hk,?_⟩;unfold kN;refine List.mem_flatMap.2 ⟨j,List.mem_range.2 hj,?_⟩;rw[EH h1];simp
theorem kW{x:bF}(h:ah.okB x=true):ah.d9 x=0/\(∀i,i<x.ai.length->ah.zh x i=0/\∀j,j<(ah.kd x i).aA.length->ah.oI x i j=0):=by
 unfold ah.okB at h;simp only[kJ,lE,List.all_eq_true,List.mem_range] at h;exact⟨h.1.1.1,fun i hi=>⟨(h.1.2 i hi).1,fun j hj=>(h.1.2 i hi).2 j hj⟩⟩
theorem jT{x:bF}(h:ah.d9 x=0):x.ai.length<=6/\x.aN.length<=6/\x.aO.length<=16/\∀k∈x.ai,ah.qU k=true:=by
 unfold ah.d9 at h;split at h
 ·rename_i hv
  unfold ah.rP at hv;simp only[kJ,lE,List.all_eq_true] at hv;exact⟨hv.1.1.1.1.1.2,hv.1.1.1.1.2,hv.1.1.1.2,hv.1.1.2⟩
 ·omega
theorem TX{x:bF}{k:Nat}(h:k<x.ai.length):ah.kd x k∈x.ai:=by
 unfold ah.kd;rw[Int.toNat_natCast,jA,kK h];exact gY h
theorem acT{x:bF}{k:Nat}(h:¬k<x.ai.length):ah.kd x k=ah.G6:=by
 unfold ah.kd;rw[Int.toNat_natCast,jA,List.getElem?_eq_none aC];rfl
theorem acU{x:bF}{k j:Nat}(h:j<(ah.kd x k).aA.length):ah.fd x k j∈(ah.kd x k).aA:=by
 unfold ah.fd;rw[Int.toNat_natCast,jA,kK h];exact gY h
theorem kX{k:ah.eZ}(h:ah.qU k=true):k.aA.length<=10/\∀f∈k.aA,ah.dB f=true:=by
 unfold ah.qU at h;simp only[kJ,lE,List.all_eq_true] at h;exact⟨h.1.2,h.2⟩
theorem TY{f:ah.dh}(h:ah.dB f=true)(hk:f.kind=1):0<=f.lo/\f.lo<=65536:=by
 unfold ah.dB ah.nC at h;rw[hk] at h;simp[ah.gI] at h;omega
theorem T9{x:bF}{W:cG}(h:ah.okB x=true)(hf:eM x W=true):sF x W:=by
 obtain⟨hv,hE⟩:=kW h;obtain⟨h6, -, -,hK⟩:=jT hv;unfold eM at hf;simp only[kJ,lE,List.all_eq_true,List.mem_range] at hf;obtain⟨⟨⟨f1,f2⟩,f3⟩,f4⟩:=hf;have O7:∀{k:Nat} (hk:k<W.length),W.getD k []=W[k]:=fun {k} hk=>by rw[jA,kK hk];rfl
 refine⟨h6,fun k=>?_,fun r hr=>?_,f1,fun k hk r hr=>f2 k hk r (by rw[O7 hk];exact hr),fun r hr i hk hi=>?_,f4⟩
 ·by_cases hk:k<x.ai.length
  ·exact(kX (hK _ (TX hk))).1
  ·rw[acT hk];exact Nat.zero_le _
 ·obtain⟨r1,r2,r3,r4,r5⟩:=yw hr
  have Ua:=(hE _ r1).2 _ r2
  have hup:0<=ah.dV x r.kind r.field:=by
   unfold ah.oI at Ua;split at Ua
   ·omega
   ·unfold ah.ze at Ua
    simp only[r3] at Ua;by_cases hu:ah.dV x r.kind r.field<0
    ·simp[hu] at Ua
    ·omega
  have hsp:=TY ((kX (hK _ (TX r1))).2 _ (acU r2)) r3;have hlt:=ah.uW x r.kind r.field aC;exact⟨r1,r2,by omega,by omega,by omega,by omega,r3,r4⟩
 ·have:=f3 r hr W[r.kind][i] (by rw[O7 hk];exact gY hi)
  have e:nV W r.kind i r.field=W[r.kind][i].getD r.field 0:=by
   unfold nV;rw[O7 hk,jA (l:=W[r.kind]),kK hi];rfl
  rw[e];exact this
theorem qz{x:bF}{W:cG}(h:ah.tF x W):eM x W=true:=by
 unfold eM;simp only[kJ,lE,List.all_eq_true,List.mem_range];have O7:∀{k:Nat} (hk:k<W.length),W.getD k []=W[k]:=fun {k} hk=>by rw[jA,kK hk];rfl
 refine⟨⟨⟨h.len,fun k hk r hr=>?_⟩,fun r hr l hl=>?_⟩,by have:=h.tot;omega⟩
 ·rw[O7 hk] at hr
  exact(h.qv k hk r hr).1
 ·obtain⟨r1,r2,r3,r4,r5⟩:=yw hr
  have hk:r.kind<W.length:=by rw[h.len];exact r1
  rw[O7 hk] at hl;obtain⟨l1,l2⟩:=h.qv r.kind hk l hl;have hj:r.field<l.length:=by rw[l1];exact r2
  have:=(l2 r.field hj).1 r3;rw[jA,kK hj,r4];exact this
theorem EJ{x:bF}(h6:x.ai.length<=6)(hf:∀k:Nat,(ah.kd x k).aA.length<=10):∀n,n<=x.ai.length->(q9 x n).length<=10*n
 |0,_=>aH
 |n+1,hn=>by
  have ih:=EJ h6 hf n aC
  have h2:∀(k m:Nat),(kN x k m).length<=m:=fun k m=>by
   induction m with
   |zero=>exact aH
   |succ m ihm=>
    rw[uY,rG]
    have:(sD x k m).length<=1:=by unfold sD;split<;>simp
    omega
  rw[BF,rG];have:=h2 n (ah.kd x n).aA.length;have:=hf n;omega
theorem sF.many{x:bF}{W:cG}(h:sF x W):(cN x).length<=60:=by
 have:=EJ h.ai h.aA x.ai.length aH;unfold cN;have:=h.ai;omega
end Go.Proofs.YteiakkfdchnddaaGreatDoor.aR
namespace Go.Proofs.YteiakkfdchnddaaGreatDoor
open Go.RowKit
theorem aaN{us:List Value}(h:us.length=2):∃a b,us=[a,b]:=by
 match us,h with
 |[a,b],_=>exact⟨a,b,rfl⟩
theorem aaO{us:List Value}(h:us.length=3):∃a b c,us=[a,b,c]:=by
 match us,h with
 |[a,b,c],_=>exact⟨a,b,c,rfl⟩
theorem aaP{us:List Value}(h:us.length=4):∃a b c d,us=[a,b,c,d]:=by
 match us,h with
 |[a,b,c,d],_=>exact⟨a,b,c,d,rfl⟩
theorem aaQ{us:List Value}(h:us.length=5):∃a b c d e,us=[a,b,c,d,e]:=by
 match us,h with
 |[a,b,c,d,e],_=>exact⟨a,b,c,d,e,rfl⟩
theorem aaR{us:List Value}(h:us.length=8):∃a b c d e f g i,us=[a,b,c,d,e,f,g,i]:=by
 match us,h with
 |[a,b,c,d,e,f,g,i],_=>exact⟨a,b,c,d,e,f,g,i,rfl⟩
theorem kD{α:Type}(p:α->Bool)(F:List α):decide (0<=ah.fV p F 0)=F.any p:=by
 rcases ah.iE p F with⟨h1,h2⟩|⟨k,hk,h1,h2,h3⟩
 ·rw[h1]
  have:F.any p=false:=by
   rw[List.any_eq_false];intro x hx;obtain⟨j,hj,rfl⟩:=List.getElem_of_mem hx;rw[h2 j hj];simp
  rw[this];decide
 ·rw[h1,List.any_eq_true.2 ⟨_,gY hk,h2⟩]
  exact decide_eq_true aC
theorem kE{α:Type}(p:α->Bool)(F:List α):ah.fV p F 0<F.length\/ah.fV p F 0= -1:=by
 rcases ah.iE p F with⟨h1,h2⟩|⟨k,hk,h1,h2,h3⟩
 ·exact .inr h1
 ·exact .inl (by rw[h1];omega)
theorem KN{p:Prop}(h:p:=by
  have HE1:Hid (p F[k]=true->ah.fV p F 0=k):=hid (fun h=>by simpa using ah.ow (i:=0) hlt (fun j hj hjk=>hpre.out j hj hjk) h)
  have HE2:Hid (p F[k]=false->∀j (h:j<F.length),j<k+1->p F[j]=false):=hid (fun h j hj hjk=>by
   by_cases e:j=k
   ·subst e;exact h
   ·exact hpre.out j hj aC)
  obtain⟨pb,hpb⟩:=aV (p F[k])
  rw[<-hpb] at HC HE1 HE2
  clear hpb
  cases pb with
  |true=>
   have HE3:=hid (HE1.out rfl)
   clear HE1 HE2
   go_wp2_with fail
   refine HC.out.mono ?_
   rintro e w' ⟨rfl,hb2⟩
   have bK:=aJ hb hb2
   clear hb2
   go_wp2
   go_ret
   exact⟨by rw[HE3.out];rfl,bK.out⟩
  |false=>
   have HE3:=hid (HE2.out rfl)
   clear HE1 HE2
   go_wp2_with fail
   refine HC.out.mono ?_
   rintro e w' ⟨rfl,hb2⟩
   have bK:=aJ hb hb2
   clear hb2
   go_wp2
   go_roundw
   case rel=>exact⟨k+1,by omega,by go_num,HE3,bK⟩
   simp[intOf];omega):p:=h
theorem KO{p:Prop}(h:p:=by
  have HE:Hid (ah.fV p F 0= -1):=hid (ah.mX fun j hj=>hpre.out j hj aC)
  obtain rfl:k=F.length:=by omega
  go_wp2
  go_ret
  exact⟨by rw[HE.out];rfl,hb.out⟩):p:=h
theorem Ub{α:Type}{RR:(Nat->Prop)->World->List Value->α->Prop}(hR:cD RR)(F:List α)(p:α->Bool)(v:Value)(S:Nat->Prop)(w:World)(hv:dO 8 (RR S) S w v F)(fo:Nat)(lb:Array Value)(nH:∀args w,(callFunc fo args).run Tryz.prog w=.ok (.enter fo args) w)
  (hp:∀X,BL w X->∀j (h:j<F.length) us,us.length=8->RR S X us F[j]->CP fo (#[.agg us.toArray]++lb) X fun e w'=>e=.returned (.bool (p F[j]))/\BL X w'):
  Calls Tryz.prog 127 #[v,.func (.func fo) #[] lb] w fun e w'=>e=.returned (.int .i64 (ah.fV p F 0))/\BL w w':=by
 have HV:=hid hv;obtain⟨a,cap,rfl,hok,hcap,hmax⟩:=hv.form;clear hv;have HP:=hid hp;clear hp;go_enter Tryz.func127,Tryz.ntmps127;go_wp2;go_loopw [8] (fun i wr=>∃k:Nat,k<=F.length/\i=.int .i64 k/\Hid (∀j (h:j<F.length),j<k->p F[j]=false)/\Hid (BL w wr)) (fun i _=>F.length-(intOf i).toNat);case atStart=>exact⟨0,Nat.zero_le _,rfl,hid fun j _ h=>absurd h aC,hid ay⟩
 case round=>
  obtain⟨k,hk,rfl,hpre,hb⟩:=hrel;by_cases hlt:k<F.length
  ·have hk0:(0:Int)<=(k:Int):=by omega
   have hk1:(k:Int)<(F.length:Int):=by omega
   obtain⟨-,us,hl,hx,hx2⟩:=(dO.keep hR HV.out (aB.below hb.out)).at hlt;have HC:=hid (HP.out wr hb.out k hlt us hl hx2);obtain⟨u0,u1,u2,u3,u4,u5,u6,u7,rfl⟩:=aaR hl;have y0:wr.cell? ⟨bD a,bJ a+k*8,none⟩=some u0:=hx 0 u0 rfl;have y1:wr.cell? ⟨bD a,bJ a+k*8+1,none⟩=some u1:=hx 1 u1 rfl;have y2:wr.cell? ⟨bD a,bJ a+k*8+2,none⟩=some u2:=hx 2 u2 rfl;have y3:wr.cell? ⟨bD a,bJ a+k*8+3,none⟩=some u3:=hx 3 u3 rfl;have y4:wr.cell? ⟨bD a,bJ a+k*8+4,none⟩=some u4:=hx 4 u4 rfl;have y5:wr.cell? ⟨bD a,bJ a+k*8+5,none⟩=some u5:=hx 5 u5 rfl;have y6:wr.cell? ⟨bD a,bJ a+k*8+6,none⟩=some u6:=hx 6 u6 rfl;have y7:wr.cell? ⟨bD a,bJ a+k*8+7,none⟩=some u7:=hx 7 u7 rfl;clear hx hx2 hl;exact KN
  ·exact KO
theorem FV{p:Prop}(h:p:=by
  go_wp2_with fail
  refine H.out.mono ?_
  rintro e w' ⟨rfl,hb⟩
  have HB:=hid hb
  clear hb
  go_wp2
  go_ret
  exact⟨GX HZ.out,HB.out⟩):p:=h
theorem Yq{α:Type}{RR:(Nat->Prop)->World->List Value->α->Prop}(hR:cD RR)(F:List α)(p:α->Bool)(v:Value)(S:Nat->Prop)(w:World)(hv:dO 8 (RR S) S w v F)(fo:Nat)(lb:Array Value)(nH:∀args w,(callFunc fo args).run Tryz.prog w=.ok (.enter fo args) w)
  (hp:∀X,BL w X->∀j (h:j<F.length) us,us.length=8->RR S X us F[j]->CP fo (#[.agg us.toArray]++lb) X fun e w'=>e=.returned (.bool (p F[j]))/\BL X w'):
  Calls Tryz.prog 164 #[v,.func (.func fo) #[] lb] w fun e w'=>e=.returned (.bool (F.any p))/\BL w w':=by
 have H:=hid (Ub hR F p v S w hv fo lb nH hp);obtain⟨a,cap,rfl, -, -, -⟩:=hv.form;have HZ:=hid (kD p F);have HL:=hid (kE p F);have hg:=ah.jq p F 0;have hm:(F.length:Int)<=9223372036854775807:=by have:=hv.form;obtain⟨_,_,_,_,h1,h2⟩:=this;omega
 clear hv hp;generalize ah.fV p F 0=z at*;generalize F.any p=b at*;have hz2:z<9223372036854775807:=by have:=HL.out;omega
 go_enter Tryz.func164,Tryz.ntmps164;exact FV
theorem aaS{p:Prop}(h:p:=by
  go_wp2
  go_loopw [8] (fun i wr=>∃k:Nat,k<=F.length/\i=.int .i64 k/\Hid (∀j (h:j<F.length),j<k->p F[j]=false)/\Hid (BL w wr)) (fun i _=>F.length-(intOf i).toNat)
  case atStart=>exact⟨0,Nat.zero_le _,rfl,hid fun j _ h=>absurd h aC,hid ay⟩
  case round=>
   obtain⟨k,hk,rfl,hpre,hb⟩:=hrel;by_cases hlt:k<F.length
   ·have hk0:(0:Int)<=(k:Int):=by omega
    have hk1:(k:Int)<(F.length:Int):=by omega
    obtain⟨-,us,hl,hx,hx2⟩:=(dO.keep hR HV.out (aB.below hb.out)).at hlt;have HC:=hid (HP.out wr hb.out k hlt us hl hx2);obtain⟨u0,u1,u2,u3,rfl⟩:=aaP hl;have y0:wr.cell? ⟨bD a,bJ a+k*4,none⟩=some u0:=hx 0 u0 rfl;have y1:wr.cell? ⟨bD a,bJ a+k*4+1,none⟩=some u1:=hx 1 u1 rfl;have y2:wr.cell? ⟨bD a,bJ a+k*4+2,none⟩=some u2:=hx 2 u2 rfl;have y3:wr.cell? ⟨bD a,bJ a+k*4+3,none⟩=some u3:=hx 3 u3 rfl;clear hx hx2 hl;exact KN
   ·exact KO):p:=h
theorem Uc{α:Type}{RR:(Nat->Prop)->World->List Value->α->Prop}(hR:cD RR)(F:List α)(p:α->Bool)(v:Value)(S:Nat->Prop)(w:World)(hv:dO 4 (RR S) S w v F)(fo:Nat)(lb:Array Value)(nH:∀args w,(callFunc fo args).run Tryz.prog w=.ok (.enter fo args) w)
  (hp:∀X,BL w X->∀j (h:j<F.length) us,us.length=4->RR S X us F[j]->CP fo (#[.agg us.toArray]++lb) X fun e w'=>e=.returned (.bool (p F[j]))/\BL X w'):
  Calls Tryz.prog 155 #[v,.func (.func fo) #[] lb] w fun e w'=>e=.returned (.int .i64 (ah.fV p F 0))/\BL w w':=by
 have HV:=hid hv;obtain⟨a,cap,rfl,hok,hcap,hmax⟩:=hv.form;clear hv;have HP:=hid hp;clear hp;go_enter Tryz.func155,Tryz.ntmps155;exact aaS
theorem Yr{α:Type}{RR:(Nat->Prop)->World->List Value->α->Prop}(hR:cD RR)(F:List α)(p:α->Bool)(v:Value)(S:Nat->Prop)(w:World)(hv:dO 4 (RR S) S w v F)(fo:Nat)(lb:Array Value)(nH:∀args w,(callFunc fo args).run Tryz.prog w=.ok (.enter fo args) w)
  (hp:∀X,BL w X->∀j (h:j<F.length) us,us.length=4->RR S X us F[j]->CP fo (#[.agg us.toArray]++lb) X fun e w'=>e=.returned (.bool (p F[j]))/\BL X w'):
  Calls Tryz.prog 139 #[v,.func (.func fo) #[] lb] w fun e w'=>e=.returned (.bool (F.any p))/\BL w w':=by
 have H:=hid (Uc hR F p v S w hv fo lb nH hp);obtain⟨a,cap,rfl, -, -, -⟩:=hv.form;have HZ:=hid (kD p F);have HL:=hid (kE p F);have hg:=ah.jq p F 0;have hm:(F.length:Int)<=9223372036854775807:=by have:=hv.form;obtain⟨_,_,_,_,h1,h2⟩:=this;omega
 clear hv hp;generalize ah.fV p F 0=z at*;generalize F.any p=b at*;have hz2:z<9223372036854775807:=by have:=HL.out;omega
 go_enter Tryz.func139,Tryz.ntmps139;exact FV
theorem acV{α:Type}{RR:(Nat->Prop)->World->List Value->α->Prop}(hR:cD RR)(F:List α)(p:α->Bool)(v:Value)(S:Nat->Prop)(w:World)(hv:dO 3 (RR S) S w v F)(fo:Nat)(lb:Array Value)(nH:∀args w,(callFunc fo args).run Tryz.prog w=.ok (.enter fo args) w)
  (hp:∀X,BL w X->∀j (h:j<F.length) us,us.length=3->RR S X us F[j]->CP fo (#[.agg us.toArray]++lb) X fun e w'=>e=.returned (.bool (p F[j]))/\BL X w'):
  Calls Tryz.prog 125 #[v,.func (.func fo) #[] lb] w fun e w'=>e=.returned (.int .i64 (ah.fV p F 0))/\BL w w':=by
 have HV:=hid hv;obtain⟨a,cap,rfl,hok,hcap,hmax⟩:=hv.form;clear hv;have HP:=hid hp;clear hp;go_enter Tryz.func125,Tryz.ntmps125;go_wp2;go_loopw [8] (fun i wr=>∃k:Nat,k<=F.length/\i=.int .i64 k/\Hid (∀j (h:j<F.length),j<k->p F[j]=false)/\Hid (BL w wr)) (fun i _=>F.length-(intOf i).toNat);case atStart=>exact⟨0,Nat.zero_le _,rfl,hid fun j _ h=>absurd h aC,hid ay⟩
 case round=>
  obtain⟨k,hk,rfl,hpre,hb⟩:=hrel;by_cases hlt:k<F.length
  ·have hk0:(0:Int)<=(k:Int):=by omega
   have hk1:(k:Int)<(F.length:Int):=by omega
   obtain⟨-,us,hl,hx,hx2⟩:=(dO.keep hR HV.out (aB.below hb.out)).at hlt;have HC:=hid (HP.out wr hb.out k hlt us hl hx2);obtain⟨u0,u1,u2,rfl⟩:=aaO hl;have y0:wr.cell? ⟨bD a,bJ a+k*3,none⟩=some u0:=hx 0 u0 rfl;have y1:wr.cell? ⟨bD a,bJ a+k*3+1,none⟩=some u1:=hx 1 u1 rfl;have y2:wr.cell? ⟨bD a,bJ a+k*3+2,none⟩=some u2:=hx 2 u2 rfl;clear hx hx2 hl;exact KN
  ·exact KO
theorem FW{α:Type}{RR:(Nat->Prop)->World->List Value->α->Prop}(hR:cD RR)(F:List α)(p:α->Bool)(v:Value)(S:Nat->Prop)(w:World)(hv:dO 3 (RR S) S w v F)(fo:Nat)(lb:Array Value)(nH:∀args w,(callFunc fo args).run Tryz.prog w=.ok (.enter fo args) w)
  (hp:∀X,BL w X->∀j (h:j<F.length) us,us.length=3->RR S X us F[j]->CP fo (#[.agg us.toArray]++lb) X fun e w'=>e=.returned (.bool (p F[j]))/\BL X w'):
  Calls Tryz.prog 90 #[v,.func (.func fo) #[] lb] w fun e w'=>e=.returned (.bool (F.any p))/\BL w w':=by
 have H:=hid (acV hR F p v S w hv fo lb nH hp);obtain⟨a,cap,rfl, -, -, -⟩:=hv.form;have HZ:=hid (kD p F);have HL:=hid (kE p F);have hg:=ah.jq p F 0;have hm:(F.length:Int)<=9223372036854775807:=by have:=hv.form;obtain⟨_,_,_,_,h1,h2⟩:=this;omega
 clear hv hp;generalize ah.fV p F 0=z at*;generalize F.any p=b at*;have hz2:z<9223372036854775807:=by have:=HL.out;omega
 go_enter Tryz.func90,Tryz.ntmps90;exact FV
theorem acW{α:Type}{RR:(Nat->Prop)->World->List Value->α->Prop}(hR:cD RR)(F:List α)(p:α->Bool)(v:Value)(S:Nat->Prop)(w:World)(hv:dO 5 (RR S) S w v F)(fo:Nat)(lb:Array Value)(nH:∀args w,(callFunc fo args).run Tryz.prog w=.ok (.enter fo args) w)
  (hp:∀X,BL w X->∀j (h:j<F.length) us,us.length=5->RR S X us F[j]->CP fo (#[.agg us.toArray]++lb) X fun e w'=>e=.returned (.bool (p F[j]))/\BL X w'):
  Calls Tryz.prog 157 #[v,.func (.func fo) #[] lb] w fun e w'=>e=.returned (.int .i64 (ah.fV p F 0))/\BL w w':=by
 have HV:=hid hv;obtain⟨a,cap,rfl,hok,hcap,hmax⟩:=hv.form;clear hv;have HP:=hid hp;clear hp;go_enter Tryz.func157,Tryz.ntmps157;go_wp2;go_loopw [8] (fun i wr=>∃k:Nat,k<=F.length/\i=.int .i64 k/\Hid (∀j (h:j<F.length),j<k->p F[j]=false)/\Hid (BL w wr)) (fun i _=>F.length-(intOf i).toNat);case atStart=>exact⟨0,Nat.zero_le _,rfl,hid fun j _ h=>absurd h aC,hid ay⟩
 case round=>
  obtain⟨k,hk,rfl,hpre,hb⟩:=hrel;by_cases hlt:k<F.length
  ·have hk0:(0:Int)<=(k:Int):=by omega
   have hk1:(k:Int)<(F.length:Int):=by omega
   obtain⟨-,us,hl,hx,hx2⟩:=(dO.keep hR HV.out (aB.below hb.out)).at hlt;have HC:=hid (HP.out wr hb.out k hlt us hl hx2);obtain⟨u0,u1,u2,u3,u4,rfl⟩:=aaQ hl;have y0:wr.cell? ⟨bD a,bJ a+k*5,none⟩=some u0:=hx 0 u0 rfl;have y1:wr.cell? ⟨bD a,bJ a+k*5+1,none⟩=some u1:=hx 1 u1 rfl;have y2:wr.cell? ⟨bD a,bJ a+k*5+2,none⟩=some u2:=hx 2 u2 rfl;have y3:wr.cell? ⟨bD a,bJ a+k*5+3,none⟩=some u3:=hx 3 u3 rfl;have y4:wr.cell? ⟨bD a,bJ a+k*5+4,none⟩=some u4:=hx 4 u4 rfl;clear hx hx2 hl;exact KN
  ·exact KO
theorem Np{α:Type}{RR:(Nat->Prop)->World->List Value->α->Prop}(hR:cD RR)(F:List α)(p:α->Bool)(v:Value)(S:Nat->Prop)(w:World)(hv:dO 5 (RR S) S w v F)(fo:Nat)(lb:Array Value)(nH:∀args w,(callFunc fo args).run Tryz.prog w=.ok (.enter fo args) w)
  (hp:∀X,BL w X->∀j (h:j<F.length) us,us.length=5->RR S X us F[j]->CP fo (#[.agg us.toArray]++lb) X fun e w'=>e=.returned (.bool (p F[j]))/\BL X w'):
  Calls Tryz.prog 129 #[v,.func (.func fo) #[] lb] w fun e w'=>e=.returned (.bool (F.any p))/\BL w w':=by
 have H:=hid (acW hR F p v S w hv fo lb nH hp);obtain⟨a,cap,rfl, -, -, -⟩:=hv.form;have HZ:=hid (kD p F);have HL:=hid (kE p F);have hg:=ah.jq p F 0;have hm:(F.length:Int)<=9223372036854775807:=by have:=hv.form;obtain⟨_,_,_,_,h1,h2⟩:=this;omega
 clear hv hp;generalize ah.fV p F 0=z at*;generalize F.any p=b at*;have hz2:z<9223372036854775807:=by have:=HL.out;omega
 go_enter Tryz.func129,Tryz.ntmps129;exact FV
theorem acX{α:Type}{RR:(Nat->Prop)->World->List Value->α->Prop}(hR:cD RR)(F:List α)(p:α->Bool)(v:Value)(S:Nat->Prop)(w:World)(hv:dO 4 (RR S) S w v F)(fo:Nat)(lb:Array Value)(nH:∀args w,(callFunc fo args).run Tryz.prog w=.ok (.enter fo args) w)
  (hp:∀X,BL w X->∀j (h:j<F.length) us,us.length=4->RR S X us F[j]->CP fo (#[.agg us.toArray]++lb) X fun e w'=>e=.returned (.bool (p F[j]))/\BL X w'):
  Calls Tryz.prog 103 #[v,.func (.func fo) #[] lb] w fun e w'=>e=.returned (.int .i64 (ah.fV p F 0))/\BL w w':=by
 have HV:=hid hv;obtain⟨a,cap,rfl,hok,hcap,hmax⟩:=hv.form;clear hv;have HP:=hid hp;clear hp;go_enter Tryz.func103,Tryz.ntmps103;exact aaS
theorem Ys{α:Type}{RR:(Nat->Prop)->World->List Value->α->Prop}(hR:cD RR)(F:List α)(p:α->Bool)(v:Value)(S:Nat->Prop)(w:World)(hv:dO 4 (RR S) S w v F)(fo:Nat)(lb:Array Value)(nH:∀args w,(callFunc fo args).run Tryz.prog w=.ok (.enter fo args) w)
  (hp:∀X,BL w X->∀j (h:j<F.length) us,us.length=4->RR S X us F[j]->CP fo (#[.agg us.toArray]++lb) X fun e w'=>e=.returned (.bool (p F[j]))/\BL X w'):
  Calls Tryz.prog 78 #[v,.func (.func fo) #[] lb] w fun e w'=>e=.returned (.bool (F.any p))/\BL w w':=by
 have H:=hid (acX hR F p v S w hv fo lb nH hp);obtain⟨a,cap,rfl, -, -, -⟩:=hv.form;have HZ:=hid (kD p F);have HL:=hid (kE p F);have hg:=ah.jq p F 0;have hm:(F.length:Int)<=9223372036854775807:=by have:=hv.form;obtain⟨_,_,_,_,h1,h2⟩:=this;omega
 clear hv hp;generalize ah.fV p F 0=z at*;generalize F.any p=b at*;have hz2:z<9223372036854775807:=by have:=HL.out;omega
 go_enter Tryz.func78,Tryz.ntmps78;exact FV
theorem acY{α:Type}{RR:(Nat->Prop)->World->List Value->α->Prop}(hR:cD RR)(F:List α)(p:α->Bool)(v:Value)(S:Nat->Prop)(w:World)(hv:dO 2 (RR S) S w v F)(fo:Nat)(lb:Array Value)(nH:∀args w,(callFunc fo args).run Tryz.prog w=.ok (.enter fo args) w)
  (hp:∀X,BL w X->∀j (h:j<F.length) us,us.length=2->RR S X us F[j]->CP fo (#[.agg us.toArray]++lb) X fun e w'=>e=.returned (.bool (p F[j]))/\BL X w'):
  Calls Tryz.prog 181 #[v,.func (.func fo) #[] lb] w fun e w'=>e=.returned (.int .i64 (ah.fV p F 0))/\BL w w':=by
 have HV:=hid hv;obtain⟨a,cap,rfl,hok,hcap,hmax⟩:=hv.form;clear hv;have HP:=hid hp;clear hp;go_enter Tryz.func181,Tryz.ntmps181;go_wp2;go_loopw [8] (fun i wr=>∃k:Nat,k<=F.length/\i=.int .i64 k/\Hid (∀j (h:j<F.length),j<k->p F[j]=false)/\Hid (BL w wr)) (fun i _=>F.length-(intOf i).toNat);case atStart=>exact⟨0,Nat.zero_le _,rfl,hid fun j _ h=>absurd h aC,hid ay⟩
 case round=>
  obtain⟨k,hk,rfl,hpre,hb⟩:=hrel;by_cases hlt:k<F.length
  ·have hk0:(0:Int)<=(k:Int):=by omega
   have hk1:(k:Int)<(F.length:Int):=by omega
   obtain⟨-,us,hl,hx,hx2⟩:=(dO.keep hR HV.out (aB.below hb.out)).at hlt;have HC:=hid (HP.out wr hb.out k hlt us hl hx2);obtain⟨u0,u1,rfl⟩:=aaN hl;have y0:wr.cell? ⟨bD a,bJ a+k*2,none⟩=some u0:=hx 0 u0 rfl;have y1:wr.cell? ⟨bD a,bJ a+k*2+1,none⟩=some u1:=hx 1 u1 rfl;clear hx hx2 hl;exact KN
  ·exact KO
theorem Yt{α:Type}{RR:(Nat->Prop)->World->List Value->α->Prop}(hR:cD RR)(F:List α)(p:α->Bool)(v:Value)(S:Nat->Prop)(w:World)(hv:dO 2 (RR S) S w v F)(fo:Nat)(lb:Array Value)(nH:∀args w,(callFunc fo args).run Tryz.prog w=.ok (.enter fo args) w)
  (hp:∀X,BL w X->∀j (h:j<F.length) us,us.length=2->RR S X us F[j]->CP fo (#[.agg us.toArray]++lb) X fun e w'=>e=.returned (.bool (p F[j]))/\BL X w'):
  Calls Tryz.prog 171 #[v,.func (.func fo) #[] lb] w fun e w'=>e=.returned (.bool (F.any p))/\BL w w':=by
 have H:=hid (acY hR F p v S w hv fo lb nH hp);obtain⟨a,cap,rfl, -, -, -⟩:=hv.form;have HZ:=hid (kD p F);have HL:=hid (kE p F);have hg:=ah.jq p F 0;have hm:(F.length:Int)<=9223372036854775807:=by have:=hv.form;obtain⟨_,_,_,_,h1,h2⟩:=this;omega
 clear hv hp;generalize ah.fV p F 0=z at*;generalize F.any p=b at*;have hz2:z<9223372036854775807:=by have:=HL.out;omega
 go_enter Tryz.func171,Tryz.ntmps171;exact FV
theorem aaT{p:Prop}(h:p:=by
  go_wp2
  go_loopw [8] (fun i wr=>∃k:Nat,k<=F.length/\i=.int .i64 k/\Hid (∀j (h:j<F.length),j<k->p F[j]=false)/\Hid (BL w wr)) (fun i _=>F.length-(intOf i).toNat)
  case atStart=>exact⟨0,Nat.zero_le _,rfl,hid fun j _ h=>absurd h aC,hid ay⟩
  case round=>
   obtain⟨k,hk,rfl,hpre,hb⟩:=hrel;by_cases hlt:k<F.length
   ·have hk0:(0:Int)<=(k:Int):=by omega
    have hk1:(k:Int)<(F.length:Int):=by omega
    obtain⟨u0,y0, -,hx2⟩:=(gQ.keep (R:=RR S) HV.out (aB.below hb.out) (fun _ _ h=>hR.keep h (aB.below hb.out))).at hlt;have HC:=hid (HP.out wr hb.out k hlt u0 hx2);obtain⟨c0,rfl⟩:=hform _ _ _ hx2;clear hx2;exact KN
   ·exact KO):p:=h
theorem Yu{α:Type}{RR:(Nat->Prop)->World->Value->α->Prop}(hR:fG RR)(F:List α)(p:α->Bool)(v:Value)(S:Nat->Prop)(w:World)(hv:gQ (RR S) S w v F)(hform:∀X u x,RR S X u x->∃c,u=.int .u8 c)(fo:Nat)(lb:Array Value)(nH:∀args w,(callFunc fo args).run Tryz.prog w=.ok (.enter fo args) w)
  (hp:∀X,BL w X->∀j (h:j<F.length) u,RR S X u F[j]->CP fo (#[u]++lb) X fun e w'=>e=.returned (.bool (p F[j]))/\BL X w'):
  Calls Tryz.prog 177 #[v,.func (.func fo) #[] lb] w fun e w'=>e=.returned (.int .i64 (ah.fV p F 0))/\BL w w':=by
 have HV:=hid hv;obtain⟨a,cap,rfl,hok,hcap,hmax⟩:=hv.form;clear hv;have HP:=hid hp;clear hp;go_enter Tryz.func177,Tryz.ntmps177;exact aaT
theorem Ud{α:Type}{RR:(Nat->Prop)->World->Value->α->Prop}(hR:fG RR)(F:List α)(p:α->Bool)(v:Value)(S:Nat->Prop)(w:World)(hv:gQ (RR S) S w v F)(hform:∀X u x,RR S X u x->∃c,u=.int .u8 c)(fo:Nat)(lb:Array Value)(nH:∀args w,(callFunc fo args).run Tryz.prog w=.ok (.enter fo args) w)
  (hp:∀X,BL w X->∀j (h:j<F.length) u,RR S X u F[j]->CP fo (#[u]++lb) X fun e w'=>e=.returned (.bool (p F[j]))/\BL X w'):
  Calls Tryz.prog 161 #[v,.func (.func fo) #[] lb] w fun e w'=>e=.returned (.bool (F.any p))/\BL w w':=by
 have H:=hid (Yu hR F p v S w hv hform fo lb nH hp);obtain⟨a,cap,rfl, -, -, -⟩:=hv.form;have HZ:=hid (kD p F);have HL:=hid (kE p F);have hg:=ah.jq p F 0;have hm:(F.length:Int)<=9223372036854775807:=by have:=hv.form;obtain⟨_,_,_,_,h1,h2⟩:=this;omega
 clear hv hp;generalize ah.fV p F 0=z at*;generalize F.any p=b at*;have hz2:z<9223372036854775807:=by have:=HL.out;omega
 go_enter Tryz.func161,Tryz.ntmps161;exact FV
theorem acZ{α:Type}{RR:(Nat->Prop)->World->Value->α->Prop}(hR:fG RR)(F:List α)(p:α->Bool)(v:Value)(S:Nat->Prop)(w:World)(hv:gQ (RR S) S w v F)(hform:∀X u x,RR S X u x->∃c,u=.string c)(fo:Nat)(lb:Array Value)(nH:∀args w,(callFunc fo args).run Tryz.prog w=.ok (.enter fo args) w)
  (hp:∀X,BL w X->∀j (h:j<F.length) u,RR S X u F[j]->CP fo (#[u]++lb) X fun e w'=>e=.returned (.bool (p F[j]))/\BL X w'):
  Calls Tryz.prog 180 #[v,.func (.func fo) #[] lb] w fun e w'=>e=.returned (.int .i64 (ah.fV p F 0))/\BL w w':=by
 have HV:=hid hv;obtain⟨a,cap,rfl,hok,hcap,hmax⟩:=hv.form;clear hv;have HP:=hid hp;clear hp;go_enter Tryz.func180,Tryz.ntmps180;exact aaT
theorem Yv{α:Type}{RR:(Nat->Prop)->World->Value->α->Prop}(hR:fG RR)(F:List α)(p:α->Bool)(v:Value)(S:Nat->Prop)(w:World)(hv:gQ (RR S) S w v F)(hform:∀X u x,RR S X u x->∃c,u=.string c)(fo:Nat)(lb:Array Value)(nH:∀args w,(callFunc fo args).run Tryz.prog w=.ok (.enter fo args) w)
  (hp:∀X,BL w X->∀j (h:j<F.length) u,RR S X u F[j]->CP fo (#[u]++lb) X fun e w'=>e=.returned (.bool (p F[j]))/\BL X w'):
  Calls Tryz.prog 169 #[v,.func (.func fo) #[] lb] w fun e w'=>e=.returned (.bool (F.any p))/\BL w w':=by
 have H:=hid (acZ hR F p v S w hv hform fo lb nH hp);obtain⟨a,cap,rfl, -, -, -⟩:=hv.form;have HZ:=hid (kD p F);have HL:=hid (kE p F);have hg:=ah.jq p F 0;have hm:(F.length:Int)<=9223372036854775807:=by have:=hv.form;obtain⟨_,_,_,_,h1,h2⟩:=this;omega
 clear hv hp;generalize ah.fV p F 0=z at*;generalize F.any p=b at*;have hz2:z<9223372036854775807:=by have:=HL.out;omega
 go_enter Tryz.func169,Tryz.ntmps169;exact FV
theorem ac0{α:Type}{RR:(Nat->Prop)->World->Value->α->Prop}(hR:fG RR)(F:List α)(p:α->Bool)(v:Value)(S:Nat->Prop)(w:World)(hv:gQ (RR S) S w v F)(hform:∀X u x,RR S X u x->∃a n c,u=.slice a n c)(fo:Nat)(lb:Array Value)(nH:∀args w,(callFunc fo args).run Tryz.prog w=.ok (.enter fo args) w)
  (hp:∀X,BL w X->∀j (h:j<F.length) u,RR S X u F[j]->CP fo (#[u]++lb) X fun e w'=>e=.returned (.bool (p F[j]))/\BL X w'):
  Calls Tryz.prog 132 #[v,.func (.func fo) #[] lb] w fun e w'=>e=.returned (.int .i64 (ah.fV p F 0))/\BL w w':=by
 have HV:=hid hv;obtain⟨a,cap,rfl,hok,hcap,hmax⟩:=hv.form;clear hv;have HP:=hid hp;clear hp;go_enter Tryz.func132,Tryz.ntmps132;go_wp2;go_loopw [8] (fun i wr=>∃k:Nat,k<=F.length/\i=.int .i64 k/\Hid (∀j (h:j<F.length),j<k->p F[j]=false)/\Hid (BL w wr)) (fun i _=>F.length-(intOf i).toNat);case atStart=>exact⟨0,Nat.zero_le _,rfl,hid fun j _ h=>absurd h aC,hid ay⟩
 case round=>
  obtain⟨k,hk,rfl,hpre,hb⟩:=hrel;by_cases hlt:k<F.length
  ·have hk0:(0:Int)<=(k:Int):=by omega
   have hk1:(k:Int)<(F.length:Int):=by omega
   obtain⟨u0,y0, -,hx2⟩:=(gQ.keep (R:=RR S) HV.out (aB.below hb.out) (fun _ _ h=>hR.keep h (aB.below hb.out))).at hlt;have HC:=hid (HP.out wr hb.out k hlt u0 hx2);obtain⟨a0,n0,c0,rfl⟩:=hform _ _ _ hx2;clear hx2;exact KN
  ·exact KO
theorem Nq{α:Type}{RR:(Nat->Prop)->World->Value->α->Prop}(hR:fG RR)(F:List α)(p:α->Bool)(v:Value)(S:Nat->Prop)(w:World)(hv:gQ (RR S) S w v F)(hform:∀X u x,RR S X u x->∃a n c,u=.slice a n c)(fo:Nat)(lb:Array Value)(nH:∀args w,(callFunc fo args).run Tryz.prog w=.ok (.enter fo args) w)
  (hp:∀X,BL w X->∀j (h:j<F.length) u,RR S X u F[j]->CP fo (#[u]++lb) X fun e w'=>e=.returned (.bool (p F[j]))/\BL X w'):
  Calls Tryz.prog 96 #[v,.func (.func fo) #[] lb] w fun e w'=>e=.returned (.bool (F.any p))/\BL w w':=by
 have H:=hid (ac0 hR F p v S w hv hform fo lb nH hp);obtain⟨a,cap,rfl, -, -, -⟩:=hv.form;have HZ:=hid (kD p F);have HL:=hid (kE p F);have hg:=ah.jq p F 0;have hm:(F.length:Int)<=9223372036854775807:=by have:=hv.form;obtain⟨_,_,_,_,h1,h2⟩:=this;omega
 clear hv hp;generalize ah.fV p F 0=z at*;generalize F.any p=b at*;have hz2:z<9223372036854775807:=by have:=HL.out;omega
 go_enter Tryz.func96,Tryz.ntmps96;exact FV
def qA(i:Vm.Ins):List Value:=[.int .i64 i.op,.int .i64 i.a,.int .i64 i.b,.int .i64 i.c]
def sG(_:Nat->Prop)(_:World)(us:List Value)(i:Vm.Ins):Prop:=us=qA i
theorem cB:cD sG:=⟨fun h _=>h,fun h _=>h⟩
abbrev kF(S:Nat->Prop):=dO 4 (sG S) S
theorem kF.keep{S w w' v xs}(h:kF S w v xs)(hk:aB S w w'):kF S w' v xs:=dO.keep cB h hk
theorem kF.at{S:Nat->Prop}{w:World}{a:Option Addr}{n cap:Nat}{p:List Vm.Ins}(h:kF S w (.slice a n cap) p){j:Nat}(hj:j<p.length):
  S (bD a)/\bD a<w.heap.size/\w.cell? ⟨bD a,bJ a+j*4,none⟩=some (.int .i64 p[j].op)/\w.cell? ⟨bD a,bJ a+j*4+1,none⟩=some (.int .i64 p[j].a)/\w.cell? ⟨bD a,bJ a+j*4+2,none⟩=some (.int .i64 p[j].b)/\w.cell? ⟨bD a,bJ a+j*4+3,none⟩=some (.int .i64 p[j].c):=by
 obtain⟨h1,us,h2,h3,rfl⟩:=dO.at h hj;exact⟨h1,xN w ⟨bD a,bJ a+j*4+0,none⟩ (h3 0 _ rfl),h3 0 _ rfl,h3 1 _ rfl,h3 2 _ rfl,h3 3 _ rfl⟩
theorem Io(i:Vm.Ins)(w:World):
  Calls Tryz.prog 75 #[.agg (qA i).toArray] w fun e w'=>e=.returned (.agg #[.int .i64 i.a,.int .i64 i.b,.int .i64 i.c])/\BL w w':=by
 obtain⟨o,a,b,c⟩:=i;simp only[qA];go_enter Tryz.func75,Tryz.ntmps75;go_wp2;refine bodyPost_ret (results_cell_row rfl _ _ (w.heap.size+1) 177 #[.int .i64 a,.int .i64 b,.int .i64 c] (0,0) (.array 3 3) aZ (aP _ _ aZ) (by kernel_rfl) rfl (by kernel_rfl)) rfl ⟨rfl,(ay.alloc aH _).alloc aZ _⟩
def BJ:Array Value:=#[.string {data:=#[115,116,111,112]},.int .i64 1,.int .i64 0,.int .i64 0,.string {data:=#[108,111,97,100]},.int .i64 2,.int .i64 3,.int .i64 0,
 .string {data:=#[97,100,100]},.int .i64 2,.int .i64 2,.int .i64 2,.string {data:=#[115,117,98]},.int .i64 2,.int .i64 2,.int .i64 2,
 .string {data:=#[115,105,122,101]},.int .i64 2,.int .i64 4,.int .i64 0,.string {data:=#[103,101,116]},.int .i64 2,.int .i64 4,.int .i64 5,
 .string {data:=#[106,117,109,112]},.int .i64 6,.int .i64 0,.int .i64 0,.string {data:=#[108,101,115,115]},.int .i64 2,.int .i64 2,.int .i64 6,
 .string {data:=#[115,97,109,101]},.int .i64 2,.int .i64 2,.int .i64 6]
def ac2:TypeId:=180
theorem ac3:∀w,(Instr.build 177 #[(0,.int .i64 1)]).run Tryz.prog w=.ok (.agg #[.int .i64 1,.int .i64 0,.int .i64 0]) w:=fun w=>by kernel_rfl
theorem ac4:∀w,(Instr.build 180 #[(0,.string {data:=#[115,116,111,112]}),(1,.agg #[.int .i64 1,.int .i64 0,.int .i64 0])]).run Tryz.prog w=.ok (.agg #[.string {data:=#[115,116,111,112]},.int .i64 1,.int .i64 0,.int .i64 0]) w:=fun w=>by kernel_rfl
theorem Yw:∀w,(Instr.build 177 #[(0,.int .i64 2),(1,.int .i64 3)]).run Tryz.prog w=.ok (.agg #[.int .i64 2,.int .i64 3,.int .i64 0]) w:=fun w=>by kernel_rfl
theorem ac5:∀w,(Instr.build 180 #[(0,.string {data:=#[108,111,97,100]}),(1,.agg #[.int .i64 2,.int .i64 3,.int .i64 0])]).run Tryz.prog w=.ok (.agg #[.string {data:=#[108,111,97,100]},.int .i64 2,.int .i64 3,.int .i64 0]) w:=fun w=>by kernel_rfl
theorem Ue:∀w,(Instr.build 177 #[(0,.int .i64 2),(1,.int .i64 2),(2,.int .i64 2)]).run Tryz.prog w=.ok (.agg #[.int .i64 2,.int .i64 2,.int .i64 2]) w:=fun w=>by kernel_rfl
theorem ac6:∀w,(Instr.build 180 #[(0,.string {data:=#[97,100,100]}),(1,.agg #[.int .i64 2,.int .i64 2,.int .i64 2])]).run Tryz.prog w=.ok (.agg #[.string {data:=#[97,100,100]},.int .i64 2,.int .i64 2,.int .i64 2]) w:=fun w=>by kernel_rfl
theorem ac7:∀w,(Instr.build 180 #[(0,.string {data:=#[115,117,98]}),(1,.agg #[.int .i64 2,.int .i64 2,.int .i64 2])]).run Tryz.prog w=.ok (.agg #[.string {data:=#[115,117,98]},.int .i64 2,.int .i64 2,.int .i64 2]) w:=fun w=>by kernel_rfl
theorem Yx:∀w,(Instr.build 177 #[(0,.int .i64 2),(1,.int .i64 4)]).run Tryz.prog w=.ok (.agg #[.int .i64 2,.int .i64 4,.int .i64 0]) w:=fun w=>by kernel_rfl
theorem ac8:∀w,(Instr.build 180 #[(0,.string {data:=#[115,105,122,101]}),(1,.agg #[.int .i64 2,.int .i64 4,.int .i64 0])]).run Tryz.prog w=.ok (.agg #[.string {data:=#[115,105,122,101]},.int .i64 2,.int .i64 4,.int .i64 0]) w:=fun w=>by kernel_rfl
theorem Uf:∀w,(Instr.build 177 #[(0,.int .i64 2),(1,.int .i64 4),(2,.int .i64 5)]).run Tryz.prog w=.ok (.agg #[.int .i64 2,.int .i64 4,.int .i64 5]) w:=fun w=>by kernel_rfl
theorem ac9:∀w,(Instr.build 180 #[(0,.string {data:=#[103,101,116]}),(1,.agg #[.int .i64 2,.int .i64 4,.int .i64 5])]).run Tryz.prog w=.ok (.agg #[.string {data:=#[103,101,116]},.int .i64 2,.int .i64 4,.int .i64 5]) w:=fun w=>by kernel_rfl
theorem ada:∀w,(Instr.build 177 #[(0,.int .i64 6)]).run Tryz.prog w=.ok (.agg #[.int .i64 6,.int .i64 0,.int .i64 0]) w:=fun w=>by kernel_rfl
theorem adb:∀w,(Instr.build 180 #[(0,.string {data:=#[106,117,109,112]}),(1,.agg #[.int .i64 6,.int .i64 0,.int .i64 0])]).run Tryz.prog w=.ok (.agg #[.string {data:=#[106,117,109,112]},.int .i64 6,.int .i64 0,.int .i64 0]) w:=fun w=>by kernel_rfl
theorem Ug:∀w,(Instr.build 177 #[(0,.int .i64 2),(1,.int .i64 2),(2,.int .i64 6)]).run Tryz.prog w=.ok (.agg #[.int .i64 2,.int .i64 2,.int .i64 6]) w:=fun w=>by kernel_rfl
theorem ade:∀w,(Instr.build 180 #[(0,.string {data:=#[108,101,115,115]}),(1,.agg #[.int .i64 2,.int .i64 2,.int .i64 6])]).run Tryz.prog w=.ok (.agg #[.string {data:=#[108,101,115,115]},.int .i64 2,.int .i64 2,.int .i64 6]) w:=fun w=>by kernel_rfl
theorem adf:∀w,(Instr.build 180 #[(0,.string {data:=#[115,97,109,101]}),(1,.agg #[.int .i64 2,.int .i64 2,.int .i64 6])]).run Tryz.prog w=.ok (.agg #[.string {data:=#[115,97,109,101]},.int .i64 2,.int .i64 2,.int .i64 6]) w:=fun w=>by kernel_rfl
theorem bld9:∀w,(Instr.build 181 #[(0,.agg #[.string {data:=#[115,116,111,112]},.int .i64 1,.int .i64 0,.int .i64 0]),(1,.agg #[.string {data:=#[108,111,97,100]},.int .i64 2,.int .i64 3,.int .i64 0]),(2,.agg #[.string {data:=#[97,100,100]},.int .i64 2,.int .i64 2,.int .i64 2]),(3,.agg #[.string {data:=#[115,117,98]},.int .i64 2,.int .i64 2,.int .i64 2]),(4,.agg #[.string {data:=#[115,105,122,101]},.int .i64 2,.int .i64 4,.int .i64 0]),(5,.agg #[.string {data:=#[103,101,116]},.int .i64 2,.int .i64 4,.int .i64 5]),(6,.agg #[.string {data:=#[106,117,109,112]},.int .i64 6,.int .i64 0,.int .i64 0]),(7,.agg #[.string {data:=#[108,101,115,115]},.int .i64 2,.int .i64 2,.int .i64 6]),(8,.agg #[.string {data:=#[115,97,109,101]},.int .i64 2,.int .i64 2,.int .i64 6])]).run Tryz.prog w=.ok (.agg BJ) w:=fun w=>by kernel_rfl
theorem O8(w:World):Calls Tryz.prog 77 #[] w fun e w'=>e=.returned (.agg BJ)/\BL w w':=by
 have h0:=ac3;have h1:=ac4;have h2:=Yw;have h3:=ac5;have h4:=Ue;have h5:=ac6;have h6:=ac7;have h7:=Yx;have h8:=ac8;have h9:=Uf;have h10:=ac9;have h11:=ada;have h12:=adb;have h13:=Ug;have h14:=ade;have h15:=adf;have h16:=bld9;go_enter Tryz.func77,Tryz.ntmps77;go_wp2_with (refine wpList_store_row rfl _ _ _ rfl w.heap.size BJ rfl rfl 181 _ (aP w _ rfl) (by kernel_rfl) rfl (by kernel_rfl) ?_);rw[World.setRow_alloc_new];go_wp2;refine bodyPost_ret (results_cell_row rfl _ _ w.heap.size 181 BJ (0,0) (.array 9 ac2) rfl (aP _ _ rfl) (by kernel_rfl) rfl (by kernel_rfl)) rfl ⟨rfl,ay.alloc aH _⟩
theorem Ip(o:Int)(h0:0<=o)(h9:o<9):
  ∃s,∀w,(Instr.index 181 (.agg BJ) (.int .i64 o)).run Tryz.prog w=.ok (.agg #[.string s,.int .i64 (Vm.cA o 0),.int .i64 (Vm.cA o 1),.int .i64 (Vm.cA o 2)]) w:=by
 have:o=0\/o=1\/o=2\/o=3\/o=4\/o=5\/o=6\/o=7\/o=8:=by omega
 rcases this with rfl|rfl|rfl|rfl|rfl|rfl|rfl|rfl|rfl
 ·exact⟨{data:=#[115,116,111,112]},fun w=>by kernel_rfl⟩
 ·exact⟨{data:=#[108,111,97,100]},fun w=>by kernel_rfl⟩
 ·exact⟨{data:=#[97,100,100]},fun w=>by kernel_rfl⟩
 ·exact⟨{data:=#[115,117,98]},fun w=>by kernel_rfl⟩
 ·exact⟨{data:=#[115,105,122,101]},fun w=>by kernel_rfl⟩
 ·exact⟨{data:=#[103,101,116]},fun w=>by kernel_rfl⟩
 ·exact⟨{data:=#[106,117,109,112]},fun w=>by kernel_rfl⟩
 ·exact⟨{data:=#[108,101,115,115]},fun w=>by kernel_rfl⟩
 ·exact⟨{data:=#[115,97,109,101]},fun w=>by kernel_rfl⟩
theorem zF(a b c:Int)(k:Nat)(h:k<3):
  ∀w,(Instr.index 177 (.agg #[.int .i64 a,.int .i64 b,.int .i64 c]) (.int .i64 (k:Int))).run Tryz.prog w=.ok (.int .i64 (if k=0 then a else if k=1 then b else c)) w:=by
 have:k=0\/k=1\/k=2:=by omega
 rcases this with rfl|rfl|rfl
 ·exact fun w=>by kernel_rfl
 ·exact fun w=>by kernel_rfl
 ·exact fun w=>by kernel_rfl
theorem O9(s:ByteArray)(a b c:Int):∀w,(Instr.field 180 (.agg #[.string s,.int .i64 a,.int .i64 b,.int .i64 c]) 1).run Tryz.prog w=.ok (.agg #[.int .i64 a,.int .i64 b,.int .i64 c]) w:=fun w=>by kernel_rfl
theorem Uh(o:Int)(k:Nat)(h:k<3):(if k=0 then Vm.cA o 0 else if k=1 then Vm.cA o 1 else Vm.cA o 2)=Vm.cA o k:=by
 have:k=0\/k=1\/k=2:=by omega
 rcases this with rfl|rfl|rfl<;>rfl
theorem Ui(s v n:Int)(w:World):
  Calls Tryz.prog 76 #[.int .i64 s,.int .i64 v,.int .i64 n] w fun e w'=>e=.returned (.bool (Vm.eM s v n))/\w=w':=by
 have H:∀l m,Vm.iz s=l->Vm.jD s n=m->Vm.eM s v n=(decide (l<=v)&&decide (v<=m)):=fun l m h1 h2=>by unfold Vm.eM;rw[h1,h2]
 by_cases h1:s=1
 ·subst h1
  have H2:=hid (H 0 250 rfl rfl)
  by_cases g1:0<=v<;>by_cases g2:v<=250<;>(
   clear H
   go_enter Tryz.func76,Tryz.ntmps76
   go_wp2
   go_ret
   exact⟨by rw[H2.out];simp[g1,g2],rfl⟩)
 by_cases h2:s=2
 ·subst h2
  have H2:=hid (H 0 7 rfl rfl)
  by_cases g1:0<=v<;>by_cases g2:v<=7<;>(
   clear H
   go_enter Tryz.func76,Tryz.ntmps76
   go_wp2
   go_ret
   exact⟨by rw[H2.out];simp[g1,g2],rfl⟩)
 by_cases h3:s=3
 ·subst h3
  have H2:=hid (H (-1048576) 1048576 rfl rfl)
  by_cases g1: -1048576<=v<;>by_cases g2:v<=1048576<;>(
   clear H
   go_enter Tryz.func76,Tryz.ntmps76
   go_wp2
   go_ret
   exact⟨by rw[H2.out];simp[g1,g2],rfl⟩)
 by_cases h4:s=4
 ·subst h4
  have H2:=hid (H 0 5 rfl rfl)
  by_cases g1:0<=v<;>by_cases g2:v<=5<;>(
   clear H
   go_enter Tryz.func76,Tryz.ntmps76
   go_wp2
   go_ret
   exact⟨by rw[H2.out];simp[g1,g2],rfl⟩)
 by_cases h5:s=5
 ·subst h5
  have H2:=hid (H 0 9 rfl rfl)
  by_cases g1:0<=v<;>by_cases g2:v<=9<;>(
   clear H
   go_enter Tryz.func76,Tryz.ntmps76
   go_wp2
   go_ret
   exact⟨by rw[H2.out];simp[g1,g2],rfl⟩)
 by_cases h6:s=6
 ·subst h6
  have H2:=hid (H 0 n rfl rfl)
  by_cases g1:0<=v<;>by_cases g2:v<=n<;>(
   clear H
   go_enter Tryz.func76,Tryz.ntmps76
   go_wp2
   go_ret
   exact⟨by rw[H2.out];simp[g1,g2],rfl⟩)
 have H2:=hid (H 0 0 (if_neg h3) (by unfold Vm.jD;rw[if_neg h1,if_neg h2,if_neg h3,if_neg h4,if_neg h5,if_neg h6]));by_cases g1:v<0
 ·clear H
  go_enter Tryz.func76,Tryz.ntmps76;go_wp2;go_ret;exact⟨by rw[H2.out];simp[show ¬0<=v by omega],rfl⟩
 by_cases g2:0<v
 ·have g3:0<=v:=by omega
  clear H;go_enter Tryz.func76,Tryz.ntmps76;go_wp2;go_ret;exact⟨by rw[H2.out];simp[g3,show ¬v<=0 by omega],rfl⟩
 obtain rfl:v=0:=by omega
 clear H;go_enter Tryz.func76,Tryz.ntmps76;go_wp2;go_ret;exact⟨by rw[H2.out];rfl,rfl⟩
theorem Uj{n:Int}{i:Vm.Ins}(ho:Vm.opB i=true)(h:∀j,j<3->Vm.eM (Vm.cA i.op j) (Vm.TU i j) n=true):Vm.jE n i=true:=by
 have h0:Vm.eM (Vm.cA i.op 0) i.a n=true:=h 0 aC;have h1:Vm.eM (Vm.cA i.op 1) i.b n=true:=h 1 aC;have h2:Vm.eM (Vm.cA i.op 2) i.c n=true:=h 2 aC;unfold Vm.jE;rw[ho,h0,h1,h2];rfl
theorem Uk{n:Int}{i:Vm.Ins}(h:∃j,j<3/\Vm.eM (Vm.cA i.op j) (Vm.TU i j) n=false):Vm.jE n i=false:=by
 obtain⟨j,hj,h⟩:=h;have:j=0\/j=1\/j=2:=by omega
 unfold Vm.jE;rcases this with rfl|rfl|rfl
 ·have h0:Vm.eM (Vm.cA i.op 0) i.a n=false:=h
  rw[h0];simp
 ·have h0:Vm.eM (Vm.cA i.op 1) i.b n=false:=h
  rw[h0];simp
 ·have h0:Vm.eM (Vm.cA i.op 2) i.c n=false:=h
  rw[h0];simp
theorem Yy{n:Int}{i:Vm.Ins}(h:Vm.opB i=false):Vm.jE n i=false:=by
 unfold Vm.jE;rw[h];rfl
theorem KP{p:List Vm.Ins}(hl:p.length<=128){k:Nat}(hk:k<p.length)(h:Vm.jE p.length p[k]=false):Vm.d9 p=1:=by
 unfold Vm.d9;rw[if_neg aC,if_neg];intro g;have:=List.all_eq_true.1 g p[k] (gY hk);rw[h] at this;cases this
theorem Pa(p:List Vm.Ins)(v:Value)(S:Nat->Prop)(w:World)(hv:kF S w v p):
  Calls Tryz.prog 48 #[v] w fun e w'=>e=.returned (.int .i64 (Vm.d9 p))/\BL w w':=by
 obtain⟨a,cap,rfl,hok,hcap,hmax⟩:=hv.form;have HV:=hid hv;clear hv;by_cases hl:128<p.length
 ·have HE:Hid (Vm.d9 p=4):=hid (if_pos hl)
  generalize p.length=n at*;have hl2:(128:Int)<n:=by omega
  go_enter Tryz.func48,Tryz.ntmps48;go_wp2;go_ret;exact⟨by rw[HE.out];rfl,ay⟩
 ·have HL:=hid hl
  obtain⟨n,hn⟩:=aV p.length;rw[<-hn] at HV hok hcap HL ⊢;have HN:=hid hn;have hl2:¬(128:Int)<n:=by omega
  clear hn;go_enter Tryz.func48,Tryz.ntmps48;go_upto_region 4 with fail;go_loopw [12] (fun x wr=>∃k:Nat,k<=n/\x=.int .i64 (k:Int)/\Hid (∀j (h:j<p.length),j<k->Vm.jE n p[j]=true)/\Hid (BL w wr)) (fun x _=>n-(intOf x).toNat);case atStart=>exact⟨0,Nat.zero_le _,rfl,hid fun j _ h=>absurd h aC,hid ay⟩
  case round=>
   obtain⟨k,hk,rfl,HP,HB⟩:=hrel;obtain⟨wo,rfl⟩:=aV (wr:World);by_cases hlt:k<n
   ·have hk0:(0:Int)<=k:=by omega
    have hk1:(k:Int)<n:=by omega
    have hkp:k<p.length:=by rw[<-HN.out];exact hlt
    obtain⟨-,hz,y0,y1,y2,y3⟩:=(kF.keep HV.out (aB.below HB.out)).at hkp
    have HI:Hid (Vm.jE n p[k]=true->∀j (h:j<p.length),j<k+1->Vm.jE n p[j]=true):=hid (fun h j hj hjk=>by
     by_cases e:j=k
     ·subst e;exact h
     ·exact HP.out j hj aC)
    have HJ:Hid (Vm.jE n p[k]=false->Vm.d9 p=1):=hid (fun h=>KP (by have:=HL.out;have:=HN.out;omega) hkp (by rw[<-HN.out];exact h));generalize p[k]=i at*;obtain⟨o,ia,ib,ic⟩:=i;simp only at y0 y1 y2 y3;by_cases ho:0<=o/\o<9
    ·obtain⟨Ul,ho9⟩:=ho
     have HOP:Hid (Vm.opB ⟨o,ia,ib,ic⟩=true):=hid (by unfold Vm.opB;simp[Ul,ho9]);obtain⟨sw,hsw⟩:=Ip o Ul ho9;have HNu:=hid (fun W=>Io ⟨o,ia,ib,ic⟩ W);simp only[qA] at HNu;have HSW:=hid hsw;clear hsw;have hno:¬(o:Int)<0:=by omega
     have hno9:¬(9:Int)<=o:=by omega
     obtain⟨w1,hw1⟩:=aV (wo.alloc (.cells #[.int .i64 o,.int .i64 ia,.int .i64 ib,.int .i64 ic] 89));have bf:Hid (Below wo.heap.size wo w1):=hid ud;have HK:Hid (w1.heap[wo.heap.size]?=some (.cells #[.int .i64 o,.int .i64 ia,.int .i64 ib,.int .i64 ic] 89 (0,0))):=hid (by rw[hw1];exact aP wo _ rfl);obtain⟨⟨k0,k1,k2,k3⟩, -⟩:=aW HK.out;go_upto_region 6 with fail;rw[<-hw1];clear hw1;go_wp2_with fail;refine(HNu.out _).mono ?_;rintro e w2 ⟨rfl,hb2⟩;have bK:=hid hb2;have vF:Hid (w2.heap[wo.heap.size]?=some (.cells #[.int .i64 o,.int .i64 ia,.int .i64 ib,.int .i64 ic] 89 (0,0))):=hid ((hb2.block _ (aj HK.out)).trans HK.out);have HBO:Hid (BL w w2):=hid (cO HB.out (cO bf.out hb2));clear hb2 k0 k1 k2 k3 y0 y1 y2 y3;go_upto_region 9 with fail;go_loopw [26] (fun x wr=>∃j:Nat,j<=3/\x=.int .i64 (j:Int)/\Hid (∀j',j'<j->Vm.eM (Vm.cA o j') (Vm.TU ⟨o,ia,ib,ic⟩ j') n=true)/\Hid (BL w2 wr)) (fun x _=>3-(intOf x).toNat);case atStart=>exact⟨0,by omega,rfl,hid fun j' h=>absurd h aC,hid ay⟩
     case round=>
      obtain⟨j,hj,rfl,HF,bZ⟩:=hrel;obtain⟨wi,rfl⟩:=aV (wr:World);by_cases hj3:j<3
      ·have hj4:(j:Int)<3:=by omega
       have hi1:=zF ia ib ic j hj3;have hi2:=zF (Vm.cA o 0) (Vm.cA o 1) (Vm.cA o 2) j hj3;rw[Uh o j hj3] at hi2;obtain⟨vj,hvj⟩:=aV ((if j=0 then ia else if j=1 then ib else ic));rw[<-hvj] at hi1;have HVJ:Hid (Vm.TU ⟨o,ia,ib,ic⟩ j=vj):=hid (by rw[hvj];rfl);have hf2:=O9 sw (Vm.cA o 0) (Vm.cA o 1) (Vm.cA o 2);have uD:Hid (wi.heap[wo.heap.size]?=some (.cells #[.int .i64 o,.int .i64 ia,.int .i64 ib,.int .i64 ic] 89 (0,0))):=hid ((bZ.out.block _ (aj vF.out)).trans vF.out);obtain⟨⟨k0,k1,k2,k3⟩, -⟩:=aW uD.out;have hzi:wo.heap.size<wi.heap.size:=aj uD.out;have HFt:=hid (fun(x:nX wi)=>Calls.qi (x:=x) ((Ui (Vm.cA o j) vj n x.1).mono fun e w' ⟨h1,h2⟩=>⟨h1,by rw[h2];exact ay⟩));have HSo:=hid (fun(x:nX wi)=>Calls.qi (x:=x) (O8 x.1))
       have HG:Hid (Vm.eM (Vm.cA o j) vj n=true->∀j',j'<j+1->Vm.eM (Vm.cA o j') (Vm.TU ⟨o,ia,ib,ic⟩ j') n=true):=hid (fun h j' hj'=>by
        by_cases e:j'=j
        ·subst e;rw[HVJ.out];exact h
        ·exact HF.out j' aC)
       have HG2:Hid (Vm.eM (Vm.cA o j) vj n=false->Vm.jE n ⟨o,ia,ib,ic⟩=false):=hid (fun h=>Uk ⟨j,hj3,by rw[HVJ.out];exact h⟩);have hsw:=HSW.out;clear hvj;generalize Vm.cA o j=sj at*;generalize Vm.cA o 0=s0 at*;generalize Vm.cA o 1=s1 at*;generalize Vm.cA o 2=s2 at*;go_wp2;have hg:=nX.cell (w:=wi);refine fQ (by kernel_rfl) (by kernel_rfl) ?_;go_big_quiet_step ((exact HSo.out _));repeat (go_big_quiet_step ((exact HFt.out _)))
       refine fS ?_;intro w4 hx;have f9:=hid (ny hx);clear hx hg;generalize AQ:Vm.eM sj vj n=fb at*;cases fb with
       |true=>
        have rH:=hid (HG.out rfl)
        have fF:=aJ bZ f9.out
        clear AQ HG HG2 k0 k1 k2 k3 hi1 hi2 hsw
        go_wp2
        go_roundw
        case rel=>exact⟨j+1,by omega,by go_num,rH,fF⟩
        simp[intOf];omega
       |false=>
        have rH:=hid (HJ.out (HG2.out rfl))
        have fF:=hid (cO HBO.out (cO bZ.out f9.out))
        clear AQ HG HG2 k0 k1 k2 k3 hi1 hi2 hsw
        go_wp2
        go_ret
        exact⟨by rw[rH.out];rfl,fF.out⟩
      ·have hj3':¬(j:Int)<3:=by omega
       have rH:=hid (HI.out (Uj HOP.out fun j' hj'=>HF.out j' aC));have fF:=aJ HBO bZ.out;go_wp2;go_roundw;case rel=>exact⟨k+1,by omega,by go_num,rH,fF⟩
       simp[intOf];omega
    ·have rH:=hid (HJ.out (Yy (by unfold Vm.opB;simp only[Bool.and_eq_false_iff,decide_eq_false_iff_not];omega)))
     have HBF:Hid (∀o,BL w (wo.alloc o)):=hid fun o=>HB.out.alloc HB.out.size _;by_cases Ul:o<0
     ·go_wp2
      go_ret;exact⟨by rw[rH.out];rfl,HBF.out _⟩
     ·have ho9:(9:Int)<=o:=by omega
      go_wp2;go_ret;exact⟨by rw[rH.out];rfl,HBF.out _⟩
   ·have HE:Hid (Vm.d9 p=0):=hid (by
     unfold Vm.d9
     rw[if_neg (by have:=HL.out;have:=HN.out;omega),if_pos]
     rw[List.all_eq_true]
     intro i hi
     obtain⟨j,hj,rfl⟩:=List.getElem_of_mem hi
     have:=HP.out j hj GQ
     rwa [HN.out] at this)
    go_wp2;go_ret;exact⟨by rw[HE.out];rfl,HB.out⟩
theorem bE{P:Program}{f:FuncId}{fn:Func}{c:Code}(hf:P.funcs[f]?=some fn)(hn:(fn.name== "runtime.NumGoroutine")=false)(hb:fn.body=some c)(args:Array Value)(w:World):(callFunc f args).run P w=.ok (.enter f args) w:=by
 have hne:¬fn.name= "runtime.NumGoroutine" :=by simpa using hn
 simp[callFunc,hf,hne,hb,mark]
def DP(S:Nat->Prop)(w:World)(b:Nat)(x:ah.bF):Prop:=
 ∃ak ck al cl ar cr,w.heap[b]?=some (.cells #[.int .i64 x.aI,.slice ak x.ai.length ck,.slice al x.aN.length cl,.slice ar x.aO.length cr] 27 (0,0))/\gJ S w (.slice ak x.ai.length ck) x.ai/\ux S w (.slice al x.aN.length cl) x.aN/\vY S w (.slice ar x.aO.length cr) x.aO/\
  dI ak x.ai.length/\dI al x.aN.length/\dI ar x.aO.length
theorem DP.keep{S:Nat->Prop}{w w':World}{b:Nat}{x:ah.bF}(h:DP S w b x)(hk:aB S w w')(hb:w'.heap[b]?=w.heap[b]?):DP S w' b x:=by
 obtain⟨ak,ck,al,cl,ar,cr,h1,h2,h3,h4,h5⟩:=h;exact⟨ak,ck,al,cl,ar,cr,hb.trans h1,h2.keep hk,dO.keep dn h3 hk,dO.keep eT h4 hk,h5⟩
theorem DP.lt{S:Nat->Prop}{w:World}{b:Nat}{x:ah.bF}(h:DP S w b x):b<w.heap.size:=by
 obtain⟨ak,ck,al,cl,ar,cr,h1, -⟩:=h;exact aj h1
theorem DP.below{S:Nat->Prop}{w w':World}{b:Nat}{x:ah.bF}(h:DP S w b x)(hb:BL w w'):DP S w' b x:=h.keep (aB.below hb) (hb.block _ h.lt)
theorem EK{x:ah.bF}{i:Vm.Ins}(h:i.op=4):Vm.dH x i=decide (i.b<x.ai.length):=by unfold Vm.dH;rw[if_pos h]
theorem yx{x:ah.bF}{i:Vm.Ins}(h:i.op=5):Vm.dH x i=(decide (i.b<x.ai.length)&&decide (i.c<(ah.kd x i.b).aA.length)):=by unfold Vm.dH;rw[if_neg aC,if_pos h]
theorem Um{x:ah.bF}{i:Vm.Ins}(h4:¬i.op=4)(h5:¬i.op=5):Vm.dH x i=true:=by unfold Vm.dH;rw[if_neg h4,if_neg h5]
theorem Un{p:Prop}(h:p:=by
  go_enter Tryz.func79,Tryz.ntmps79
  go_upto_region 1 with fail
  rw[<-HW.out]
  go_wp2
  go_quiet (fail)
  go_wp2
  go_ret
  exact⟨by rw[Dl.out];rfl,aG bf.out _⟩):p:=h
theorem KQ(x:ah.bF)(i:Vm.Ins)(hi:i.op=5->0<=i.b)(b:Nat)(S:Nat->Prop)(w:World)(hx:DP S w b x):
  Calls Tryz.prog 79 #[.agg (qA i).toArray,.pointer (some ⟨b,0,none⟩)] w fun e w'=>e=.returned (.bool (!Vm.dH x i))/\BL w w':=by
 have HX:=hid hx;obtain⟨ak,ck,al,cl,ar,cr,Rb,hk, -, -,hsk, -, -⟩:=hx;obtain⟨o,ia,ib,ic⟩:=i;simp only at hi;simp only[qA];obtain⟨w1,hw1⟩:=aV (w.alloc (.cells #[.int .i64 o,.int .i64 ia,.int .i64 ib,.int .i64 ic] 89));have bf:Hid (Below w.heap.size w w1):=hid ud;have HK:Hid (w1.heap[w.heap.size]?=some (.cells #[.int .i64 o,.int .i64 ia,.int .i64 ib,.int .i64 ic] 89 (0,0))):=hid Oh;have zG:Hid (w1.heap[b]?=some (.cells #[.int .i64 x.aI,.slice ak x.ai.length ck,.slice al x.aN.length cl,.slice ar x.aO.length cr] 27 (0,0))):=hid ((bf.out.block _ (aj Rb)).trans Rb);have Yz:=hid (hk.keep (aB.below bf.out));obtain⟨⟨k0,k1,k2,k3⟩, -⟩:=aW HK.out;obtain⟨⟨-,x1, -, -⟩, -⟩:=aW zG.out;have HW:=hid hw1;clear Rb hk hw1;by_cases h4:o=4
 ·subst h4
  have HN:Hid (Vm.dH x ⟨4,ia,ib,ic⟩=decide (ib<x.ai.length)):=hid (EK rfl);generalize x.ai.length=n at*;by_cases h:(n:Int)<=ib
  ·have Dl:Hid (Vm.dH x ⟨4,ia,ib,ic⟩=false):=hid (by rw[HN.out];exact decide_eq_false aC)
   have hd:decide ((n:Int)<=ib)=true:=decide_eq_true h;exact Un
  ·have Dl:Hid (Vm.dH x ⟨4,ia,ib,ic⟩=true):=hid (by rw[HN.out];exact decide_eq_true aC)
   have hd:decide ((n:Int)<=ib)=false:=decide_eq_false h;exact Un
 ·by_cases h5:o=5
  ·subst h5
   have HN:Hid (Vm.dH x ⟨5,ia,ib,ic⟩=(decide (ib<x.ai.length)&&decide (ic<(ah.kd x ib).aA.length))):=hid (yx rfl);have hi:=hi rfl;obtain⟨n,hn⟩:=aV x.ai.length;rw[<-hn] at HN x1 Yz hsk;by_cases h:(n:Int)<=ib
   ·have Dl:Hid (Vm.dH x ⟨5,ia,ib,ic⟩=false):=hid (by rw[HN.out,decide_eq_false (show ¬ib<(n:Int) by omega)];rfl)
    have hd:decide ((n:Int)<=ib)=true:=decide_eq_true h;clear hn;exact Un
   ·have hd:decide ((n:Int)<=ib)=false:=decide_eq_false h
    obtain⟨j,rfl⟩:∃j:Nat,ib=(j:Int):=⟨ib.toNat,by omega⟩;have hj0:(0:Int)<=j:=by omega
    have hj1:(j:Int)<n:=by omega
    have hjx:j<x.ai.length:=by rw[<-hn];omega
    have hd2:decide (n<=j)=false:=decide_eq_false aC;obtain⟨-, -, -, -, -,uf,y3,hf⟩:=Yz.out.at hjx;obtain⟨af,cf,rfl, -⟩:=hf.form;have HM:Hid ((ah.kd x (j:Int)).aA.length=x.ai[j].aA.length):=hid (by rw[gm hjx]);rw[HM.out] at HN;clear hn hf;generalize x.ai[j].aA.length=m at*;by_cases g:(m:Int)<=ic
    ·have Dl:Hid (Vm.dH x ⟨5,ia,(j:Int),ic⟩=false):=hid (by rw[HN.out,decide_eq_false (show ¬ic<(m:Int) by omega),Bool.and_false])
     go_enter Tryz.func79,Tryz.ntmps79;go_upto_region 1 with fail;rw[<-HW.out];go_wp2;go_quiet (fail);go_wp2;go_ret;exact⟨by rw[Dl.out];simp,aG bf.out _⟩
    ·have Dl:Hid (Vm.dH x ⟨5,ia,(j:Int),ic⟩=true):=hid (by rw[HN.out,decide_eq_true (show ic<(m:Int) by omega),decide_eq_true hj1];rfl)
     go_enter Tryz.func79,Tryz.ntmps79;go_upto_region 1 with fail;rw[<-HW.out];go_wp2;go_quiet (fail);go_wp2;go_ret;exact⟨by rw[Dl.out];simp[g],aG bf.out _⟩
  ·have HN:Hid (Vm.dH x ⟨o,ia,ib,ic⟩=true):=hid (Um h4 h5)
   have e4:(o !=4)=true:=by simpa using h4
   have e5:(o !=5)=true:=by simpa using h5
   go_enter Tryz.func79,Tryz.ntmps79;go_upto_region 1 with fail;rw[<-HW.out];go_wp2;go_ret;exact⟨by rw[HN.out];rfl,bf.out⟩
theorem Pb(x:ah.bF)(p:List Vm.Ins)(hp:∀i∈p,i.op=5->0<=i.b)(v u:Value)(S T:Nat->Prop)(w:World)(hv:fA S w v x)(hu:kF T w u p):
  Calls Tryz.prog 49 #[v,u] w fun e w'=>e=.returned (.bool (Vm.oM x p))/\BL w w':=by
 obtain⟨ak,ck,al,cl,ar,cr,rfl,hk,hl,hr,hsk,hsl,hsr⟩:=hv.form;obtain⟨w1,hw1⟩:=aV (di w x.aI (.slice ak x.ai.length ck) (.slice al x.aN.length cl) (.slice ar x.aO.length cr));have bf:=r9 hw1
 have HX:Hid (DP S w1 w.heap.size x):=hid (by
  rw[hw1]
  exact⟨ak,ck,al,cl,ar,cr,fE ..,hk.keep (aB.below (dZ ..)),dO.keep dn hl (aB.below (dZ ..)),dO.keep eT hr (aB.below (dZ ..)),hsk,hsl,hsr⟩)
 unfold di at hw1;have HU:=hid (hu.keep (aB.below bf.out));obtain⟨au,cu,rfl, -⟩:=hu.form
 have HC:=hid (Ys cB p (fun i=> !Vm.dH x i) _ T w1 HU.out 79 #[.pointer (some ⟨w.heap.size,0,none⟩)] (bE Tryz.func79 (by kernel_rfl) rfl)
  (fun X hX j hj us _ vJ=>by
   have e:us=qA p[j]:=vJ;subst e;exact KQ x p[j] (hp _ (gY hj)) w.heap.size S X (HX.out.below hX)))
 have HN:Hid (p.any (fun i=> !Vm.dH x i)= !Vm.oM x p):=hid (by
  unfold Vm.oM
  rw[List.not_all_eq_any_not])
 rw[HN.out] at HC;clear hv hk hl hr hu;have HW:=hid hw1;clear hw1;go_enter Tryz.func49,Tryz.ntmps49;go_upto_region 1 with fail;rw[<-HW.out];go_wp2_with fail;refine HC.out.mono ?_;rintro e w' ⟨rfl,hb⟩;have HB:=aJ bf hb;clear hb;go_wp2;go_ret;exact⟨by simp,HB.out⟩
end Go.Proofs.YteiakkfdchnddaaGreatDoor
