/- Part 8 of the walks and plain laws that the proof needs (packed). -/
import Derived.Test.YtobgljfnfpolkaaGreatDoorQ4
import Derived.Test.YtobgljfnfpolkaaGreatDoorQ7
set_option linter.all false
set_option maxRecDepth 100000
set_option maxHeartbeats 8000000
namespace Go.Proofs.YtobgljfnfpolkaaGreatDoor
open Go.RowKit
theorem Fe:∀(f n:Nat),ah.yT f n<=f+1
 |0,n=>by unfold ah.yT;omega
 |f+1,n=>by
  unfold ah.yT;split
  ·omega
  ·have:=Fe f (n / 10);omega
theorem cL(n:Int):ah.cZ n<=42:=by
 unfold ah.cZ;have:=Fe 40 n.natAbs;split<;>omega
theorem dV{s:ByteArray}(h:ah.aN s=true):s.size<=12:=ah.gF h
theorem lT{s:ByteArray}(h:s.size<=12):ah.dR s<=12:=ah.mZ h
def Ff(n:Nat)(w:World)(e:Ending)(w':World):Prop:=∃s:ByteArray,e=.returned (.string s)/\s.size=n/\BL w w'
theorem fB(word:ByteArray)(l:List Arg)(hok:∀a∈l,fN a)(hlen:word.size+ah.bn argN l<=1000000000)(h9:l.length<=1000)(W:World)(T:TypeId)(hw:LaidW W)(w:World)(hb:BL w W)(n:Nat)(hn:word.size+ah.bn argN l+1=n):
  Calls Tryz.prog 207 #[.string word,.slice (some ⟨W.heap.size,0,none⟩) l.length l.length] (W.alloc (.cells (l.map jL).toArray T)) (Ff n w):=by
 refine(zL word l hok hlen _ (fun _=>True) _ (adA W l h9 T) (hw.next (aj.alloc aB _))).mono ?_;rintro e w' ⟨s,rfl,hs,hb'⟩;exact⟨s,rfl,by rw[<-hn];exact hs,(hb.alloc hb.size _).trans (hb'.mono (by have:=hb.size;simp;omega))⟩
theorem eD{α:Type}(g:α->Nat):ah.bn g []=0:=rfl
theorem XV(nm o up _od:ByteArray)(lo hi:Int)(ws:List ByteArray)(gs:List Int)(hz:nm.size<=12)(h1: -1048576<=lo)(h2:lo<=1048576):(∀a∈([.str nm,.num lo]:List Arg),fN a)/\({data:=#[107,101,121]}:ByteArray).size+ah.bn argN [.str nm,.num lo]<=1000000000/\({data:=#[107,101,121]}:ByteArray).size+ah.bn argN [.str nm,.num lo]+1=ah.bQ ⟨nm,o,up,0,lo,hi,ws,gs⟩:=by
 have hs:ah.bn argN [.str nm,.num lo]=(1+nm.size)+((1+ah.cZ lo)):=by simp only[cB,eD,argN,Nat.add_zero,Nat.add_assoc]
 have hw:({data:=#[107,101,121]}:ByteArray).size=3:=rfl;have hd1:=cL lo;have hd2:=cL hi;have hF:ah.bQ ⟨nm,o,up,0,lo,hi,ws,gs⟩=3+1+nm.size+1+(1+ah.cZ lo):=rfl;rw[hs,hw,hF];refine⟨fun a ha=>?_,by omega,by omega⟩;simp only[zMc,zNn,or_false] at ha;rcases ha with rfl|rfl<;>first|trivial|(simp only[fN];omega)
theorem XW(nm o up _od:ByteArray)(lo hi:Int)(ws:List ByteArray)(gs:List Int)(hz:nm.size<=12)(h1: -1048576<=lo)(h2:lo<=hi)(h3:hi<=1048576):(∀a∈([.str nm,.num lo,.num hi]:List Arg),fN a)/\({data:=#[110,117,109]}:ByteArray).size+ah.bn argN [.str nm,.num lo,.num hi]<=1000000000/\({data:=#[110,117,109]}:ByteArray).size+ah.bn argN [.str nm,.num lo,.num hi]+1=ah.bQ ⟨nm,o,up,2,lo,hi,ws,gs⟩:=by
 have hs:ah.bn argN [.str nm,.num lo,.num hi]=(1+nm.size)+((1+ah.cZ lo)+((1+ah.cZ hi))):=by simp only[cB,eD,argN,Nat.add_zero,Nat.add_assoc]
 have hw:({data:=#[110,117,109]}:ByteArray).size=3:=rfl;have hd1:=cL lo;have hd2:=cL hi;have hF:ah.bQ ⟨nm,o,up,2,lo,hi,ws,gs⟩=3+1+nm.size+1+(1+ah.cZ lo+(1+ah.cZ hi)):=rfl;rw[hs,hw,hF];refine⟨fun a ha=>?_,by omega,by omega⟩;simp only[zMc,zNn,or_false] at ha;rcases ha with rfl|rfl|rfl<;>first|trivial|(simp only[fN];omega)
theorem XY(nm o up _od:ByteArray)(lo hi:Int)(ws:List ByteArray)(gs:List Int)(hz:nm.size<=12)(ho:o.size<=12):(∀a∈([.str nm,.str o]:List Arg),fN a)/\({data:=#[115,117,109]}:ByteArray).size+ah.bn argN [.str nm,.str o]<=1000000000/\({data:=#[115,117,109]}:ByteArray).size+ah.bn argN [.str nm,.str o]+1=ah.bQ ⟨nm,o,up,6,lo,hi,ws,gs⟩:=by
 have hs:ah.bn argN [.str nm,.str o]=(1+nm.size)+((1+o.size)):=by simp only[cB,eD,argN,Nat.add_zero,Nat.add_assoc]
 have hw:({data:=#[115,117,109]}:ByteArray).size=3:=rfl;have hd1:=cL lo;have hd2:=cL hi;have hF:ah.bQ ⟨nm,o,up,6,lo,hi,ws,gs⟩=3+1+nm.size+1+(1+o.size):=rfl;rw[hs,hw,hF];refine⟨fun a ha=>?_,by omega,by omega⟩;simp only[zMc,zNn,or_false] at ha;rcases ha with rfl|rfl<;>first|trivial|(simp only[fN];omega)
theorem XZ(nm o up _od:ByteArray)(lo hi:Int)(ws:List ByteArray)(gs:List Int)(hz:nm.size<=12)(ho:o.size<=12)(hu:up.size<=12)(h1:0<=lo)(h2:lo<=hi)(h3:hi<=1048576):(∀a∈([.str nm,.str up,.str o,.num lo,.num hi]:List Arg),fN a)/\({data:=#[115,104,97,114,101]}:ByteArray).size+ah.bn argN [.str nm,.str up,.str o,.num lo,.num hi]<=1000000000/\({data:=#[115,104,97,114,101]}:ByteArray).size+ah.bn argN [.str nm,.str up,.str o,.num lo,.num hi]+1=ah.bQ ⟨nm,o,up,7,lo,hi,ws,gs⟩:=by
 have hs:ah.bn argN [.str nm,.str up,.str o,.num lo,.num hi]=(1+nm.size)+((1+up.size)+((1+o.size)+((1+ah.cZ lo)+((1+ah.cZ hi))))):=by simp only[cB,eD,argN,Nat.add_zero,Nat.add_assoc]
 have hw:({data:=#[115,104,97,114,101]}:ByteArray).size=5:=rfl;have hd1:=cL lo;have hd2:=cL hi;have hF:ah.bQ ⟨nm,o,up,7,lo,hi,ws,gs⟩=5+1+nm.size+1+(1+up.size+(1+o.size)+(1+ah.cZ lo)+(1+ah.cZ hi)):=rfl;rw[hs,hw,hF];refine⟨fun a ha=>?_,by omega,by omega⟩;simp only[zMc,zNn,or_false] at ha;rcases ha with rfl|rfl|rfl|rfl|rfl<;>first|trivial|(simp only[fN];omega)
theorem X0(nm o up _od:ByteArray)(lo hi:Int)(ws:List ByteArray)(gs:List Int)(hz:nm.size<=12)(ho:o.size<=12)(hu:up.size<=12):(∀a∈([.str nm,.str up,.str o]:List Arg),fN a)/\({data:=#[99,111,112,121]}:ByteArray).size+ah.bn argN [.str nm,.str up,.str o]<=1000000000/\({data:=#[99,111,112,121]}:ByteArray).size+ah.bn argN [.str nm,.str up,.str o]+1=ah.bQ ⟨nm,o,up,8,lo,hi,ws,gs⟩:=by
 have hs:ah.bn argN [.str nm,.str up,.str o]=(1+nm.size)+((1+up.size)+((1+o.size))):=by simp only[cB,eD,argN,Nat.add_zero,Nat.add_assoc]
 have hw:({data:=#[99,111,112,121]}:ByteArray).size=4:=rfl;have hd1:=cL lo;have hd2:=cL hi;have hF:ah.bQ ⟨nm,o,up,8,lo,hi,ws,gs⟩=4+1+nm.size+1+(1+up.size+(1+o.size)):=rfl;rw[hs,hw,hF];refine⟨fun a ha=>?_,by omega,by omega⟩;simp only[zMc,zNn,or_false] at ha;rcases ha with rfl|rfl|rfl<;>first|trivial|(simp only[fN];omega)
theorem X4(nm o up od:ByteArray)(lo hi:Int)(ws:List ByteArray)(gs:List Int)(hz:nm.size<=12)(ho:ah.dR o<=12)(hod:od.size=ah.dR o)(h1: -1048576<=lo)(h2:lo<=hi)(h3:hi<=1048576):(∀a∈([.str nm,.str od,.num lo,.num hi]:List Arg),fN a)/\({data:=#[114,101,102]}:ByteArray).size+ah.bn argN [.str nm,.str od,.num lo,.num hi]<=1000000000/\({data:=#[114,101,102]}:ByteArray).size+ah.bn argN [.str nm,.str od,.num lo,.num hi]+1=ah.bQ ⟨nm,o,up,1,lo,hi,ws,gs⟩:=by
 have hs:ah.bn argN [.str nm,.str od,.num lo,.num hi]=(1+nm.size)+((1+od.size)+((1+ah.cZ lo)+((1+ah.cZ hi)))):=by simp only[cB,eD,argN,Nat.add_zero,Nat.add_assoc]
 have hw:({data:=#[114,101,102]}:ByteArray).size=3:=rfl;have hd1:=cL lo;have hd2:=cL hi;have hF:ah.bQ ⟨nm,o,up,1,lo,hi,ws,gs⟩=3+1+nm.size+1+(1+ah.dR o+(1+ah.cZ lo)+(1+ah.cZ hi)):=rfl;rw[hs,hw,hF];refine⟨fun a ha=>?_,by omega,by omega⟩;simp only[zMc,zNn,or_false] at ha;rcases ha with rfl|rfl|rfl|rfl<;>first|trivial|(simp only[fN];omega)
theorem X5(nm o up od:ByteArray)(lo hi:Int)(ws:List ByteArray)(gs:List Int)(hz:nm.size<=12)(ho:ah.dR o<=12)(hod:od.size=ah.dR o)(h1: -1048576<=lo)(h2:lo<=hi)(h3:hi<=1048576):(∀a∈([.str nm,.str od,.num lo,.num hi]:List Arg),fN a)/\({data:=#[100,97,121]}:ByteArray).size+ah.bn argN [.str nm,.str od,.num lo,.num hi]<=1000000000/\({data:=#[100,97,121]}:ByteArray).size+ah.bn argN [.str nm,.str od,.num lo,.num hi]+1=ah.bQ ⟨nm,o,up,4,lo,hi,ws,gs⟩:=by
 have hs:ah.bn argN [.str nm,.str od,.num lo,.num hi]=(1+nm.size)+((1+od.size)+((1+ah.cZ lo)+((1+ah.cZ hi)))):=by simp only[cB,eD,argN,Nat.add_zero,Nat.add_assoc]
 have hw:({data:=#[100,97,121]}:ByteArray).size=3:=rfl;have hd1:=cL lo;have hd2:=cL hi;have hF:ah.bQ ⟨nm,o,up,4,lo,hi,ws,gs⟩=3+1+nm.size+1+(1+ah.dR o+(1+ah.cZ lo)+(1+ah.cZ hi)):=rfl;rw[hs,hw,hF];refine⟨fun a ha=>?_,by omega,by omega⟩;simp only[zMc,zNn,or_false] at ha;rcases ha with rfl|rfl|rfl|rfl<;>first|trivial|(simp only[fN];omega)
theorem X6(nm o up od:ByteArray)(lo hi:Int)(ws:List ByteArray)(gs:List Int)(hz:nm.size<=12)(ho:ah.dR o<=12)(hod:od.size=ah.dR o)(h1: -1048576<=lo)(h2:lo<=hi)(h3:hi<=1048576):(∀a∈([.str nm,.str od,.num lo,.num hi]:List Arg),fN a)/\({data:=#[115,116,101,112]}:ByteArray).size+ah.bn argN [.str nm,.str od,.num lo,.num hi]<=1000000000/\({data:=#[115,116,101,112]}:ByteArray).size+ah.bn argN [.str nm,.str od,.num lo,.num hi]+1=ah.bQ ⟨nm,o,up,5,lo,hi,ws,gs⟩:=by
 have hs:ah.bn argN [.str nm,.str od,.num lo,.num hi]=(1+nm.size)+((1+od.size)+((1+ah.cZ lo)+((1+ah.cZ hi)))):=by simp only[cB,eD,argN,Nat.add_zero,Nat.add_assoc]
 have hw:({data:=#[115,116,101,112]}:ByteArray).size=4:=rfl;have hd1:=cL lo;have hd2:=cL hi;have hF:ah.bQ ⟨nm,o,up,5,lo,hi,ws,gs⟩=4+1+nm.size+1+(1+ah.dR o+(1+ah.cZ lo)+(1+ah.cZ hi)):=rfl;rw[hs,hw,hF];refine⟨fun a ha=>?_,by omega,by omega⟩;simp only[zMc,zNn,or_false] at ha;rcases ha with rfl|rfl|rfl|rfl<;>first|trivial|(simp only[fN];omega)
def kR(S:Nat->Prop)(w:World)(v:Value)(xs:List Arg):Prop:=
 w.ownsRow 0 20 1 v xs.length (xs.map jL)/\∀b,v.ownBlock=some b->S b
theorem tU:dH (α:=List Arg) kR:=
 ⟨fun h k=>⟨cC h.1 h.2 k,h.2⟩,fun h k=>⟨h.1,fun b hb=>k b (h.1.lt b hb).2 (h.2 b hb)⟩⟩
theorem kR.sl{S:Nat->Prop}{w:World}{v:Value}{xs:List Arg}(h:kR S w v xs):xq S w v xs:=
 jP h.1 h.2 (by simp) (fun j h1 h2=>by simp)
theorem Tryz.abu:jt Tryz.prog 309 20 1 16:=gA (z:=.nilIface) (by kernel_rfl) (by kernel_rfl) rfl (by omega) (by omega)
theorem PJ(a:Arg):(jL a).oneCell'=true:=by cases a<;>rfl
theorem CQ(w:World)(x y:Arg):kR (w.heap.size<=·) (w.alloc (.cells #[jL x,jL y] 20)) (.slice (some ⟨w.heap.size,0,none⟩) 2 2) [x,y]:=by
 refine⟨⟨by simp,.inr ⟨w.heap.size,2,#[jL x,jL y],rfl,Nat.zero_le _,heap_alloc_new w _,aB,by unfold maxLen;omega,by simp,?_⟩⟩,fun b hb=>by simp[Value.ownBlock] at hb;omega⟩;simp
section
variable {P:Program} {t e:TypeId} {bytes:Nat} {α:Type} {RR:(Nat->Prop)->World->Value->α->Prop} {w:World} {ops:Array Oper} {rest:List Oper} {o:Oper} {a:Act} {Q:Exit->Act->World->Prop}
theorem xu(hgd:o.guard=none)(s x:Operand)
  (ho:o.op=.call {callee:=.builtin .append,args:=#[s,x],argTypes:=#[t,t]})(hT:jt P t 20 1 bytes)
  {S:Nat->Prop}{w1:World}{v:Value}{xs:List Arg}(hs:a.eval s=v)(hown:kR S w1 v xs)(hb:BL w1 w)
  {ao:Option Addr}{m c:Nat}(hx:a.eval x=.slice ao m c){T:Nat->Prop}{ys:List Arg}(hy:xq T w (.slice ao m c) ys)
  (hsmall:xs.length+m<=1000000000)
  (h:∀v' w',kR (Grow S w1.heap.size) w' v' (xs++ys)->Turns (fun b=>some b=v.ownBlock) w w'->wpList P ops Q rest (a.put o.dst v') w'):
  wpList P ops Q (o::rest) a w:=by
 obtain⟨rfl,hok,us,l1,l2,l3⟩:=eX.news hy
 have pE:us=ys.map jL:=by
  refine List.ext_getElem (by simp[l1]) (fun i g1 g2=>?_);simpa using l3 i g1 (by simpa using g2)
 have hsz:=hb.size;have f2':w.ownsRow 0 20 1 v xs.length (xs.map jL):=cC (S:=fun _=>True) hown.1 (fun _ _=>trivial) (aA.below hb);refine gB hgd s x ho hT hs f2' ao ys.length c hx hok us (by simpa using l1) l2 ?_ hsmall (Nat.zero_le _) (fun v' w' g1 g2 g3=>h v' w' ⟨?_,fun b hb'=>?_⟩ (Turns.eT g2 fun b hb'=>hb'.symm))
 ·rw[pE];intro u hu;obtain⟨y,_,rfl⟩:=List.mem_map.1 hu;exact PJ y
 ·rw[zLa,List.map_append,<-pE];exact g1
 ·rcases g3 with g3|g3
  ·rw[g3] at hb';exact .inl ⟨hown.2 b hb',(hown.1.lt b hb').2⟩
  ·rw[g3] at hb';exact .inr (by have:=zSi hb';omega)
end
def eM:List ByteArray->List Int->List Arg
 |w::ws,g::gs=>.str w::.num g::eM ws gs
 |_,_=>[]
theorem zM:∀(ws:List ByteArray) (gs:List Int),(eM ws gs).length<=2*ws.length
 |[],_=>by simp[eM]
 |w::ws,[]=>by simp[eM]
 |w::ws,g::gs=>by have:=zM ws gs;simp[eM];omega
theorem xA:∀(ws:List ByteArray) (gs:List Int) (x:ByteArray) (y:Int),ws.length=gs.length->eM (ws++[x]) (gs++[y])=eM ws gs++[.str x,.num y]
 |[],[],x,y,_=>rfl
 |[],g::gs,_,_,h=>by simp at h
 |w::ws,[],_,_,h=>by simp at h
 |w::ws,g::gs,x,y,h=>by
  have:=xA ws gs x y (by simpa using h);simp only[List.cons_append,eM,this]
theorem Fg(ws:List ByteArray)(gs:List Int){k:Nat}(h1:k<ws.length)(h2:k<gs.length):eM (ws.take (k+1)) (gs.take (k+1))=eM (ws.take k) (gs.take k)++[.str ws[k],.num gs[k]]:=by
 rw[zTs h1,zTs h2,xA _ _ _ _ (by simp;omega)]
theorem zN:∀(ws:List ByteArray) (gs:List Int),ah.bn argN (eM ws gs)=ah.jx ws gs
 |[],_=>rfl
 |w::ws,[]=>rfl
 |w::ws,g::gs=>by
  have:=zN ws gs;simp only[eM,cB,this,argN,ah.jx];omega
theorem CS:∀(ws:List ByteArray) (gs:List Int),(∀g∈gs,ah.qV g 0 1048576=true)->∀a∈eM ws gs,fN a
 |[],_,_,a,ha=>by simp[eM] at ha
 |w::ws,[],_,a,ha=>by simp[eM] at ha
 |w::ws,g::gs,h,a,ha=>by
  simp only[eM,zMc] at ha;rcases ha with rfl|rfl|ha
  ·trivial
  ·have:=gK (h g (by simp));simp only[fN];omega
  ·exact CS ws gs (fun g hg=>h g (by simp[hg])) a ha
theorem zO:∀(ws:List ByteArray) (gs:List Int),(∀w∈ws,w.size<=12)->ah.jx ws gs<=60*ws.length
 |[],_,_=>by simp[ah.jx]
 |w::ws,[],_=>by simp[ah.jx]
 |w::ws,g::gs,h=>by
  have:=zO ws gs (fun w hw=>h w (by simp[hw]));have h1:=h w (by simp);have h2:=cL g;simp only[ah.jx,List.length_cons];omega
theorem PK(nm o up:ByteArray)(ws:List ByteArray)(gs:List Int)(lo hi:Int)(hz:nm.size<=12)(h:ah.j6 ws gs=true):
  (∀a∈(.str nm::.num ws.length::eM ws gs:List Arg),fN a)/\({data:=#[112,105,99,107]}:ByteArray).size+ah.bn argN (.str nm::.num ws.length::eM ws gs)<=1000000000/\({data:=#[112,105,99,107]}:ByteArray).size+ah.bn argN (.str nm::.num ws.length::eM ws gs)+1=ah.bQ ⟨nm,o,up,3,lo,hi,ws,gs⟩:=by
 obtain⟨p1,p2,p3,p4,p5⟩:=oA h;have Te:=(gK p2).2;have hs:ah.bn argN (.str nm::.num ws.length::eM ws gs)=1+nm.size+(1+ah.cZ ws.length+ah.jx ws gs):=by simp only[cB,argN,zN]
 have hw:({data:=#[112,105,99,107]}:ByteArray).size=4:=rfl;have hd:=cL ws.length;have hp:=zO ws gs (fun w hw=>dV (List.all_eq_true.1 p5 w hw));have hF:ah.bQ ⟨nm,o,up,3,lo,hi,ws,gs⟩=4+1+nm.size+1+(1+ah.cZ ws.length+ah.jx ws gs):=rfl;rw[hs,hw,hF];refine⟨fun a ha=>?_,by omega,by omega⟩;rcases zMc.1 ha with rfl|ha
 ·trivial
 ·rcases zMc.1 ha with rfl|ha
  ·simp only[fN];omega
  ·exact CS ws gs p1 a ha
theorem jW{lo hi a b:Int}(h:ah.fG lo hi a b=true):a<=lo/\lo<=hi/\hi<=b:=by
 unfold ah.fG at h;simp only[zBa,zDt] at h;exact⟨h.1.1,h.1.2,h.2⟩
theorem LA(f:ah.cA)(hf:ah.cN f=true)(uw ug:Value)(S T:Nat->Prop)(w:World)(h1:fL S w uw f.agb)(h2:bO T w ug f.aga)(hl:LaidW w):
  Calls Tryz.prog 208 #[.agg (bX f uw ug).toArray] w (Ff (ah.bQ f) w):=by
 obtain⟨hnm,hcase⟩:=wV hf;obtain⟨kk0,kk8⟩:=ah.tI hf;have hnz:=dV hnm;obtain⟨aw,cw,rfl,hsw, -, -⟩:=h1.form;obtain⟨ag,cg,rfl,hsg, -, -⟩:=h2.form;have pq:=fun k (h:k<9)=>hl.agb k h;obtain⟨w1,hw1⟩:=nmE (w.alloc (.cells (bX f (.slice aw f.agb.length cw) (.slice ag f.aga.length cg)).toArray 117));have aW:Hid (Below w.heap.size w w1):=hid (by rw[hw1];exact aj.alloc aB _);have xB:Hid (LaidW w1):=hid (hl.next aW.out);have HK:Hid (∀W,BL w1 W->W.heap[w.heap.size]?=some (.cells (bX f (.slice aw f.agb.length cw) (.slice ag f.aga.length cg)).toArray 117 (0,0))):=hid (fun W hW=>(hW.block _ (by rw[hw1];simp)).trans (by rw[hw1];exact aD w _ rfl));have Z0:=hid (h1.keep (aA.below aW.out));have LB:=hid (h2.keep (aA.below aW.out));have hz1:w.heap.size<w1.heap.size:=by rw[hw1];simp
 have ZS:Hid (LaidW w):=hid hl;have h51:5<=w1.heap.size:=xB.out.size;obtain⟨FN,LC⟩:=nmE (ah.bQ f);rw[<-LC];clear h1 h2 hl hnm pq;obtain⟨nm,o,up,k,lo,hi,ws,gs⟩:=f;simp only[bX] at hw1 HK kk0 kk8 hnz Z0 LB hsw hsg ⊢;have HW:=hid hw1;clear hw1;obtain⟨⟨y0,y1,y2,y3,y4,y5,y6,y7⟩, -⟩:=dn (HK.out w1 aj);have sR:=hid hcase;have HFB:=hid hf;clear hcase hf;have:k=0\/k=1\/k=2\/k=3\/k=4\/k=5\/k=6\/k=7\/k=8:=by omega
 rcases this with rfl|rfl|rfl|rfl|rfl|rfl|rfl|rfl|rfl
 ·have hwd:w1.cell? ⟨1,0,none⟩=some (.string {data:=#[107,101,121]}):=xB.out.agb 0 (by omega)
  have hc:ah.qV lo (-1048576) 1048576=true:=sR.out;have hcn:=gK hc;obtain⟨g1,g2,g3⟩:=XV nm o up o lo hi ws gs hnz hcn.1 hcn.2;have kZ:=hid (fB {data:=#[107,101,121]} [.str nm,.num lo] g1 g2 (by simp) w1 20 xB.out w aW.out FN (by rw[LC];exact g3));clear g1 g2 g3;simp only[List.map_cons,List.map_nil,jL,List.length_cons,List.length_nil] at kZ;go_enter Tryz.func208,Tryz.ntmps208;go_upto_region 1 with fail;rw[<-HW.out];go_wp2_with fail;refine kZ.out.mono ?_;rintro e w3 ⟨s,rfl,hs,hb3⟩;have HS:=hid hs;have bG:=hid hb3;clear hs hb3;go_wp2;go_ret;exact⟨s,rfl,HS.out,bG.out⟩
 ·have hwd:w1.cell? ⟨1,1,none⟩=some (.string {data:=#[114,101,102]}):=xB.out.agb 1 (by omega)
  have hc:(ah.aN o&&ah.fG lo hi 0 65536)=true:=sR.out;obtain⟨hc1,hc2⟩:=Bool.and_eq_true_iff.1 hc;have hcn:=jW hc2;have PL:o.size<=12:=dV hc1;have hnd:=kH o;have Fh:ah.dR o<=12:=lT PL;obtain⟨g1,g2,g3⟩:=X4 nm o up (gI o) lo hi ws gs hnz Fh hnd (by omega) hcn.2.1 (by omega);have kZ:=hid (fun(W:World) (hb:BL w W)=>fB {data:=#[114,101,102]} [.str nm,.str (gI o),.num lo,.num hi] g1 g2 (by simp) W 20 (ZS.out.next hb) w hb FN (by rw[LC];exact g3));clear g1 g2 g3;simp only[List.map_cons,List.map_nil,jL,List.length_cons,List.length_nil] at kZ;have PN:=hid (fun W=>nI o W);generalize gI o=od at*;clear hnd Fh;go_enter Tryz.func208,Tryz.ntmps208;go_upto_region 1 with fail;rw[<-HW.out];go_upto_region 21 with fail;have Bj:=hqC w1 ⟨w.heap.size,0,none⟩ (.string nm) fun xh=>(xh.2.cell (p:=⟨w.heap.size,0,none⟩) hz1).trans y0;have hq1:=hqC w1 ⟨w.heap.size,1,none⟩ (.string o) fun xh=>(xh.2.cell (p:=⟨w.heap.size,1,none⟩) hz1).trans y1;have M9:=hqC w1 ⟨w.heap.size,4,none⟩ (.int .i64 lo) fun xh=>(xh.2.cell (p:=⟨w.heap.size,4,none⟩) hz1).trans y4;have hq5:=hqC w1 ⟨w.heap.size,5,none⟩ (.int .i64 hi) fun xh=>(xh.2.cell (p:=⟨w.heap.size,5,none⟩) hz1).trans y5;refine cH 15 (.quiet 0 (.quiet 1 (.quiet 2 (.quiet 3 (.quiet 4 (.quiet 5 (.quiet 8 (.quiet 9 (.quiet 10 (.quiet 11 (.quiet 12 (.quiet 13 (.one 6 (.quiet 7 (.one 14 .done))))))))))))))) (BL w1) mxT (by kernel_rfl) (af5 aj 1) ?_;have bB:=hid (af5 (Below.refl w1.heap.size w1) 1);generalize w1.drewN 1=w2 at*;clear y0 y1 y2 y3 y4 y5 y6 y7 hwd
  iterate 12
   refine ai rfl ?_
   intro hne
   go_big_quiet_step (fail)
   refine zWq ?_
   clear hne
  refine aH rfl ?_;go_wp2_with fail;refine(PN.out w2).mono ?_;rintro e w3 ⟨rfl,hb3⟩;have bG:=bq bB hb3;clear hb3;go_wp2_with fail;refine aC (BL w1) (fun _ h=>h) bG.out ?_;refine ai rfl ?_;intro hne;go_big_quiet_step (fail);refine zWq ?_;clear hne;have PO:=hid (kZ.out w3 (tnB aW.out bG.out));refine aH rfl ?_;go_wp2_with fail;refine aC (BL w1) (fun _ h=>h) (bG.out.alloc bG.out.size _) ?_;refine aL ?_;try simp only[zDs,zDz]
  clear Bj hq1 M9 hq5;go_wp2_with fail;refine PO.out.mono ?_;rintro e w4 ⟨s,rfl,hs,hb4⟩;have HS:=hid hs;have dO:=hid hb4;clear hs hb4;go_wp2;go_ret;exact⟨s,rfl,HS.out,dO.out⟩
 ·have hwd:w1.cell? ⟨1,2,none⟩=some (.string {data:=#[110,117,109]}):=xB.out.agb 2 (by omega)
  have hc:ah.fG lo hi (-1048576) 1048576=true:=sR.out;have hcn:=jW hc;obtain⟨g1,g2,g3⟩:=XW nm o up o lo hi ws gs hnz hcn.1 hcn.2.1 hcn.2.2;have kZ:=hid (fB {data:=#[110,117,109]} [.str nm,.num lo,.num hi] g1 g2 (by simp) w1 20 xB.out w aW.out FN (by rw[LC];exact g3));clear g1 g2 g3;simp only[List.map_cons,List.map_nil,jL,List.length_cons,List.length_nil] at kZ;go_enter Tryz.func208,Tryz.ntmps208;go_upto_region 1 with fail;rw[<-HW.out];go_wp2_with fail;refine kZ.out.mono ?_;rintro e w3 ⟨s,rfl,hs,hb3⟩;have HS:=hid hs;have bG:=hid hb3;clear hs hb3;go_wp2;go_ret;exact⟨s,rfl,HS.out,bG.out⟩
 ·have hwd:w1.cell? ⟨1,3,none⟩=some (.string {data:=#[112,105,99,107]}):=xB.out.agb 3 (by omega)
  have hc:ah.j6 ws gs=true:=sR.out;obtain⟨p1,p2,p3,p4,p5⟩:=oA hc;have Te:=(gK p2).2;have HA:=hid (PK nm o up ws gs lo hi hnz hc);have HG:=hid p3;obtain⟨n,hn⟩:=nmE ws.length;have hng:n=gs.length:=hn.trans p3;rw[<-hn] at hsw Z0 HK y6 Te HA;rw[<-hng] at hsg LB HK y7;have HN:=hid hn;have HNG:=hid hng;clear hn hng p1 p2 p3 p4 p5 hc;obtain⟨w2,hw2⟩:=nmE (w1.alloc (.cells #[.iface 9 (.string nm),.iface 3 (.int .i64 (n:Int))] 20));have bB:Hid (Below w1.heap.size w1 w2):=hid (by rw[hw2];exact aj.alloc aB _);have uU:Hid (kR (w1.heap.size<=·) w2 (.slice (some ⟨w1.heap.size,0,none⟩) 2 2) [.str nm,.num n]):=hid (by rw[hw2];exact CQ w1 (.str nm) (.num n));have HW2:=hid hw2;clear hw2;rw[<-HN.out,<-HNG.out] at HW ⊢;go_enter Tryz.func208,Tryz.ntmps208;go_upto_region 1 with fail;rw[<-HW.out];go_upto_region 9 with fail;rw[<-HW2.out];clear y0 y1 y2 y3 y4 y5 y6 y7 hwd;obtain⟨⟨y0,y1,y2,y3,y4,y5,y6,y7⟩, -⟩:=dn (HK.out w2 bB.out);go_upto_region 10 with fail;clear y0 y1 y2 y3 y4 y5 y6 y7;go_loopw [4,51] (fun s i wr=>∃(k:Nat) (xs:List Arg) (av:Option Addr) (cv:Nat),k<=n/\i=.int .i64 (k:Int)/\s=.slice av xs.length cv/\Hid (xs=.str nm::.num n::eM (ws.take k) (gs.take k))/\Hid (kR (w1.heap.size<=·) wr (.slice av xs.length cv) xs)/\Hid (BL w1 wr)) (fun _ i _=>n-(intOf i).toNat);case atStart=>exact⟨0,[.str nm,.num n],_,_,by omega,rfl,rfl,hid (by simp[eM]),uU,bB⟩
  case round=>
   obtain⟨k,xs,av,cv,hk,rfl,rfl,HX,HF,HB⟩:=hrel;obtain⟨wo,rfl⟩:=nmE (wr:World);have hxl:xs.length<=1000:=by rw[HX.out];have:=zM (ws.take k) (gs.take k);simp at this ⊢;omega
   by_cases hlt:k<n
   ·have hk0:(0:Int)<=(k:Int):=by omega
    have hk1:(k:Int)<(n:Int):=by omega
    have hkw:k<ws.length:=by rw[<-HN.out];exact hlt
    have hkg:k<gs.length:=by rw[<-HNG.out];exact hlt
    obtain⟨x,hx, -,hx2⟩:=(fL.keep Z0.out (aA.below (HB.out.mono (by omega)|>fun h=>HB.out))).at hkw;obtain⟨y,hy, -,hy2⟩:=(bO.keep LB.out (aA.below HB.out)).at hkg;subst hx2;subst hy2
    have Ht:Hid (xs++[.str ws[k],.num gs[k]]=.str nm::.num n::eM (ws.take (k+1)) (gs.take (k+1))):=hid (by
     rw[HX.out,Fg ws gs hkw hkg];rfl)
    generalize ws[k]=xw at*;generalize gs[k]=xg at*;obtain⟨⟨y0,y1,y2,y3,y4,y5,y6,y7⟩, -⟩:=dn (HK.out wo HB.out);have X7:Hid (BL wo (wo.alloc (.cells #[.iface 9 (.string xw),.iface 3 (.int .i64 xg)] 20))):=hid (aj.alloc aB _);have HvA:=hid (adA wo [.str xw,.num xg] (by simp) 20);simp only[List.map_cons,List.map_nil,jL,List.length_cons,List.length_nil] at HvA;go_wp2_with (at_builtin;go_must (refine xu rfl _ _ rfl Tryz.abu rfl HF.out X7.out rfl HvA.out (by simp;omega) ?_));intro v2 w3 rK ht3;obtain⟨z2,hz2⟩:=nmE (xs++[.str xw,.num xg]);rw[<-hz2] at rK Ht;have Kg:Hid (kR (w1.heap.size<=·) w3 v2 z2):=hid (tU.mono rK (fun b _ hb=>eO HB.out.size b hb));have bG:Hid (BL w1 w3):=hid ((tnB HB.out X7.out).trans (ht3.below (by have:=X7.out.size;have:=HB.out.size;omega) (fun b hb=>HF.out.2 b hb.symm)));obtain⟨a2,c2,rfl, -, -, -⟩:=(kR.sl Kg.out).form;clear rK ht3 hz2 y0 y1 y2 y3 y4 y5 y6 y7;go_wp2;go_roundw;case rel=>exact⟨k+1,z2,a2,c2,by omega,by go_num,rfl,Ht,Kg,bG⟩
    simp[intOf];omega
   ·have hkn:k=n:=by omega
    have HXE:Hid (xs=.str nm::.num n::eM ws gs):=hid (by rw[HX.out,zTl (by rw[<-HN.out];omega),zTl (by rw[<-HNG.out];omega)])
    have kZ:Hid (CP 207 #[.string {data:=#[112,105,99,107]},.slice av xs.length cv] wo (Ff FN w)):=hid (by
     obtain⟨g1,g2,g3⟩:=HA.out
     rw[<-HXE.out] at g1 g2 g3
     refine(zL _ xs g1 g2 _ _ wo (kR.sl HF.out) (xB.out.next HB.out)).mono ?_
     rintro e w' ⟨s,rfl,hs,hb'⟩
     exact⟨s,rfl,by rw[hs,LC];exact g3,(tnB aW.out HB.out).trans (hb'.mono (by have:=aW.out.size;have:=HB.out.size;omega))⟩)
    go_wp2_with fail;refine kZ.out.mono ?_;rintro e w4 ⟨s,rfl,hs,hb4⟩;have HS:=hid hs;have dO:=hid hb4;clear hs hb4;go_wp2;go_ret;exact⟨s,rfl,HS.out,dO.out⟩
 ·have hwd:w1.cell? ⟨1,4,none⟩=some (.string {data:=#[100,97,121]}):=xB.out.agb 4 (by omega)
  have hc:((decide (o=ah.nil)||ah.aN o)&&ah.fG lo hi (-1048576) 1048576)=true:=sR.out;obtain⟨hc1,hc2⟩:=Bool.and_eq_true_iff.1 hc;have hcn:=jW hc2
  have PL:o.size<=12:=by
   rcases Bool.or_eq_true_iff.1 hc1 with h|h
   ·rw[of_decide_eq_true h];decide
   ·exact dV h
  have hnd:=kH o;have Fh:ah.dR o<=12:=lT PL;obtain⟨g1,g2,g3⟩:=X5 nm o up (gI o) lo hi ws gs hnz Fh hnd (by omega) hcn.2.1 (by omega);have kZ:=hid (fun(W:World) (hb:BL w W)=>fB {data:=#[100,97,121]} [.str nm,.str (gI o),.num lo,.num hi] g1 g2 (by simp) W 20 (ZS.out.next hb) w hb FN (by rw[LC];exact g3));clear g1 g2 g3;simp only[List.map_cons,List.map_nil,jL,List.length_cons,List.length_nil] at kZ;have PN:=hid (fun W=>nI o W);generalize gI o=od at*;clear hnd Fh;go_enter Tryz.func208,Tryz.ntmps208;go_upto_region 1 with fail;rw[<-HW.out];go_upto_region 21 with fail;have Bj:=hqC w1 ⟨w.heap.size,0,none⟩ (.string nm) fun xh=>(xh.2.cell (p:=⟨w.heap.size,0,none⟩) hz1).trans y0;have hq1:=hqC w1 ⟨w.heap.size,1,none⟩ (.string o) fun xh=>(xh.2.cell (p:=⟨w.heap.size,1,none⟩) hz1).trans y1;have M9:=hqC w1 ⟨w.heap.size,4,none⟩ (.int .i64 lo) fun xh=>(xh.2.cell (p:=⟨w.heap.size,4,none⟩) hz1).trans y4;have hq5:=hqC w1 ⟨w.heap.size,5,none⟩ (.int .i64 hi) fun xh=>(xh.2.cell (p:=⟨w.heap.size,5,none⟩) hz1).trans y5;refine cH 15 (.quiet 0 (.quiet 1 (.quiet 2 (.quiet 3 (.quiet 4 (.quiet 5 (.quiet 8 (.quiet 9 (.quiet 10 (.quiet 11 (.quiet 12 (.quiet 13 (.one 6 (.quiet 7 (.one 14 .done))))))))))))))) (BL w1) mxT (by kernel_rfl) (af5 aj 1) ?_;have bB:=hid (af5 (Below.refl w1.heap.size w1) 1);generalize w1.drewN 1=w2 at*;clear y0 y1 y2 y3 y4 y5 y6 y7 hwd
  iterate 12
   refine ai rfl ?_
   intro hne
   go_big_quiet_step (fail)
   refine zWq ?_
   clear hne
  refine aH rfl ?_;go_wp2_with fail;refine(PN.out w2).mono ?_;rintro e w3 ⟨rfl,hb3⟩;have bG:=bq bB hb3;clear hb3;go_wp2_with fail;refine aC (BL w1) (fun _ h=>h) bG.out ?_;refine ai rfl ?_;intro hne;go_big_quiet_step (fail);refine zWq ?_;clear hne;have PO:=hid (kZ.out w3 (tnB aW.out bG.out));refine aH rfl ?_;go_wp2_with fail;refine aC (BL w1) (fun _ h=>h) (bG.out.alloc bG.out.size _) ?_;refine aL ?_;try simp only[zDs,zDz]
  clear Bj hq1 M9 hq5;go_wp2_with fail;refine PO.out.mono ?_;rintro e w4 ⟨s,rfl,hs,hb4⟩;have HS:=hid hs;have dO:=hid hb4;clear hs hb4;go_wp2;go_ret;exact⟨s,rfl,HS.out,dO.out⟩
 ·have hwd:w1.cell? ⟨1,5,none⟩=some (.string {data:=#[115,116,101,112]}):=xB.out.agb 5 (by omega)
  have hc:(ah.aN o&&ah.fG lo hi 0 32)=true:=sR.out;obtain⟨hc1,hc2⟩:=Bool.and_eq_true_iff.1 hc;have hcn:=jW hc2;have PL:o.size<=12:=dV hc1;have hnd:=kH o;have Fh:ah.dR o<=12:=lT PL;obtain⟨g1,g2,g3⟩:=X6 nm o up (gI o) lo hi ws gs hnz Fh hnd (by omega) hcn.2.1 (by omega);have kZ:=hid (fun(W:World) (hb:BL w W)=>fB {data:=#[115,116,101,112]} [.str nm,.str (gI o),.num lo,.num hi] g1 g2 (by simp) W 20 (ZS.out.next hb) w hb FN (by rw[LC];exact g3));clear g1 g2 g3;simp only[List.map_cons,List.map_nil,jL,List.length_cons,List.length_nil] at kZ;have PN:=hid (fun W=>nI o W);generalize gI o=od at*;clear hnd Fh;go_enter Tryz.func208,Tryz.ntmps208;go_upto_region 1 with fail;rw[<-HW.out];go_upto_region 21 with fail;have Bj:=hqC w1 ⟨w.heap.size,0,none⟩ (.string nm) fun xh=>(xh.2.cell (p:=⟨w.heap.size,0,none⟩) hz1).trans y0;have hq1:=hqC w1 ⟨w.heap.size,1,none⟩ (.string o) fun xh=>(xh.2.cell (p:=⟨w.heap.size,1,none⟩) hz1).trans y1;have M9:=hqC w1 ⟨w.heap.size,4,none⟩ (.int .i64 lo) fun xh=>(xh.2.cell (p:=⟨w.heap.size,4,none⟩) hz1).trans y4;have hq5:=hqC w1 ⟨w.heap.size,5,none⟩ (.int .i64 hi) fun xh=>(xh.2.cell (p:=⟨w.heap.size,5,none⟩) hz1).trans y5;refine cH 15 (.quiet 0 (.quiet 1 (.quiet 2 (.quiet 3 (.quiet 4 (.quiet 5 (.quiet 8 (.quiet 9 (.quiet 10 (.quiet 11 (.quiet 12 (.quiet 13 (.one 6 (.quiet 7 (.one 14 .done))))))))))))))) (BL w1) mxT (by kernel_rfl) (af5 aj 1) ?_;have bB:=hid (af5 (Below.refl w1.heap.size w1) 1);generalize w1.drewN 1=w2 at*;clear y0 y1 y2 y3 y4 y5 y6 y7 hwd
  iterate 12
   refine ai rfl ?_
   intro hne
   go_big_quiet_step (fail)
   refine zWq ?_
   clear hne
  refine aH rfl ?_;go_wp2_with fail;refine(PN.out w2).mono ?_;rintro e w3 ⟨rfl,hb3⟩;have bG:=bq bB hb3;clear hb3;go_wp2_with fail;refine aC (BL w1) (fun _ h=>h) bG.out ?_;refine ai rfl ?_;intro hne;go_big_quiet_step (fail);refine zWq ?_;clear hne;have PO:=hid (kZ.out w3 (tnB aW.out bG.out));refine aH rfl ?_;go_wp2_with fail;refine aC (BL w1) (fun _ h=>h) (bG.out.alloc bG.out.size _) ?_;refine aL ?_;try simp only[zDs,zDz]
  clear Bj hq1 M9 hq5;go_wp2_with fail;refine PO.out.mono ?_;rintro e w4 ⟨s,rfl,hs,hb4⟩;have HS:=hid hs;have dO:=hid hb4;clear hs hb4;go_wp2;go_ret;exact⟨s,rfl,HS.out,dO.out⟩
 ·have hwd:w1.cell? ⟨1,6,none⟩=some (.string {data:=#[115,117,109]}):=xB.out.agb 6 (by omega)
  have hc:ah.aN o=true:=sR.out;have PL:o.size<=12:=dV hc;obtain⟨g1,g2,g3⟩:=XY nm o up o lo hi ws gs hnz PL;have kZ:=hid (fB {data:=#[115,117,109]} [.str nm,.str o] g1 g2 (by simp) w1 20 xB.out w aW.out FN (by rw[LC];exact g3));clear g1 g2 g3;simp only[List.map_cons,List.map_nil,jL,List.length_cons,List.length_nil] at kZ;go_enter Tryz.func208,Tryz.ntmps208;go_upto_region 1 with fail;rw[<-HW.out];go_wp2_with fail;refine kZ.out.mono ?_;rintro e w3 ⟨s,rfl,hs,hb3⟩;have HS:=hid hs;have bG:=hid hb3;clear hs hb3;go_wp2;go_ret;exact⟨s,rfl,HS.out,bG.out⟩
 ·have hwd:w1.cell? ⟨1,7,none⟩=some (.string {data:=#[115,104,97,114,101]}):=xB.out.agb 7 (by omega)
  have hc:(ah.aN o&&ah.aN up&&ah.fG lo hi 0 1048576)=true:=sR.out;obtain⟨hc0,hc3⟩:=Bool.and_eq_true_iff.1 hc;obtain⟨hc1,hc2⟩:=Bool.and_eq_true_iff.1 hc0;have hcn:=jW hc3;have PL:o.size<=12:=dV hc1;have Vx:up.size<=12:=dV hc2;obtain⟨g1,g2,g3⟩:=XZ nm o up o lo hi ws gs hnz PL Vx hcn.1 hcn.2.1 hcn.2.2;have kZ:=hid (fB {data:=#[115,104,97,114,101]} [.str nm,.str up,.str o,.num lo,.num hi] g1 g2 (by simp) w1 20 xB.out w aW.out FN (by rw[LC];exact g3));clear g1 g2 g3;simp only[List.map_cons,List.map_nil,jL,List.length_cons,List.length_nil] at kZ;go_enter Tryz.func208,Tryz.ntmps208;go_upto_region 1 with fail;rw[<-HW.out];go_wp2_with fail;refine kZ.out.mono ?_;rintro e w3 ⟨s,rfl,hs,hb3⟩;have HS:=hid hs;have bG:=hid hb3;clear hs hb3;go_wp2;go_ret;exact⟨s,rfl,HS.out,bG.out⟩
 ·have hwd:w1.cell? ⟨1,8,none⟩=some (.string {data:=#[99,111,112,121]}):=xB.out.agb 8 (by omega)
  have hc:(ah.aN o&&ah.aN up)=true:=sR.out;obtain⟨hc1,hc2⟩:=Bool.and_eq_true_iff.1 hc;have PL:o.size<=12:=dV hc1;have Vx:up.size<=12:=dV hc2;obtain⟨g1,g2,g3⟩:=X0 nm o up o lo hi ws gs hnz PL Vx;have kZ:=hid (fB {data:=#[99,111,112,121]} [.str nm,.str up,.str o] g1 g2 (by simp) w1 20 xB.out w aW.out FN (by rw[LC];exact g3));clear g1 g2 g3;simp only[List.map_cons,List.map_nil,jL,List.length_cons,List.length_nil] at kZ;go_enter Tryz.func208,Tryz.ntmps208;go_upto_region 1 with fail;rw[<-HW.out];go_wp2_with fail;refine kZ.out.mono ?_;rintro e w3 ⟨s,rfl,hs,hb3⟩;have HS:=hid hs;have bG:=hid hb3;clear hs hb3;go_wp2;go_ret;exact⟨s,rfl,HS.out,bG.out⟩
theorem Fj{α β:Type}(f:α->β)(g:β->Nat):∀l:List α,ah.bn g (l.map f)=ah.bn (fun x=>g (f x)) l
 |[]=>rfl
 |x::l=>by rw[List.map_cons,cB,cB,Fj f g l]
theorem tV{x:ah.bD}(h:ah.pG x=true):ah.qV x.af6 0 1048576=true/\x.af3.length<=6/\x.af7.length<=6/\x.af8.length<=16/\(∀k∈x.af3,ah.oK k=true)/\(∀k∈x.af7,ah.tf k=true)/\∀k∈x.af8,ah.tg k=true:=by
 unfold ah.pG at h;simp only[zBa,zDt,List.all_eq_true] at h;exact⟨h.1.1.1.1.1.1,h.1.1.1.1.1.2,h.1.1.1.1.2,h.1.1.1.2,h.1.1.2,h.1.2,h.2⟩
def mD(m:Int×Int):Nat:=4+(1+ah.cZ m.1)+(1+ah.cZ m.2)+1
theorem tW{s:ByteArray}(h:s=ah.nil\/ah.aN s=true):s.size<=12:=by
 rcases h with rfl|h
 ·decide
 ·exact dV h
theorem Ik(x:ah.bD)(hx:ah.pG x=true)(hsz:ah.Ep x<=8192)(v:Value)(S:Nat->Prop)(w:World)(hv:eU S w v x)(Kw:LaidW w):
  Calls Tryz.prog 175 #[v] w (Ff (ah.Ep x) w):=by
 obtain⟨p1,p2,p3,p4,p5,p6,p7⟩:=tV hx;obtain⟨ak,ck,al,cl,ar,cr,rfl,hk,hl,hr,hsk,hsl,hsr⟩:=hv.form;obtain⟨b,hb0⟩:=nmE (w.heap.size+1);obtain⟨w1,hw1⟩:=nmE ((bE w x.af6 (.slice ak x.af3.length ck) (.slice al x.af7.length cl) (.slice ar x.af8.length cr)).alloc (.cells #[.pointer none,.slice none 0 0] 303));have aW:Hid (Below w.heap.size w w1):=hid (by rw[hw1];exact(aQ ..).alloc (aQ ..).size _);have HX:Hid (∀W,Below b w1 W->W.heap[w.heap.size]?=some (.cells #[.int .i64 x.af6,.slice ak x.af3.length ck,.slice al x.af7.length cl,.slice ar x.af8.length cr] 27 (0,0))):=hid (fun W hW=>(hW.block _ (by omega)).trans (by rw[hw1];exact aG _ (bf ..)))
 have HD1:Hid (fI b b 0 w1):=hid (by
  have e:b=(bE w x.af6 (.slice ak x.af3.length ck) (.slice al x.af7.length cl) (.slice ar x.af8.length cr)).heap.size:=by rw[hb0];simp[bE]
  rw[hw1,e]
  exact⟨[],rfl,Lib.fresh_isBuilder _ _ _⟩)
 have ZO:b<w1.heap.size:=by rw[hw1,hb0];simp[bE]
 have hbw0:w.heap.size<b:=by omega
 have h5:5<=w.heap.size:=Kw.size;have xC:Hid (∀W,Below b w1 W->LaidW W):=hid (fun W hW=>(Kw.next aW.out).below hW (by omega));have HKs:Hid (∀W,Below b w1 W->fV S W (.slice ak x.af3.length ck) x.af3):=hid (fun W hW=>hk.keep (aA.below (aW.out.trans (hW.mono (by omega)))));have LD:Hid (∀W,Below b w1 W->rE S W (.slice al x.af7.length cl) x.af7):=hid (fun W hW=>dA.keep cE hl (aA.below (aW.out.trans (hW.mono (by omega)))));have Il:Hid (∀W,Below b w1 W->tA S W (.slice ar x.af8.length cr) x.af8):=hid (fun W hW=>dA.keep dS hr (aA.below (aW.out.trans (hW.mono (by omega)))));have HE:Hid (∀W,Below b w1 W->BL w W):=hid (fun W hW=>aW.out.trans (hW.mono (by omega)));have Gh:=hid hk;have HLw:=hid hl;have HRw:=hid hr;have HP5:=hid p5;have HP6:=hid p6;have HP7:=hid p7;unfold bE at hw1;have HW:=hid hw1;have HB0:=hid hb0;obtain⟨T,hT⟩:=nmE (ah.Ep x);obtain⟨P0,hP0⟩:=nmE (6+(1+ah.cZ x.af6)+1);have HT:Hid (T=P0+ah.bn ah.gQ x.af3+ah.bn ah.jy x.af7+ah.bn ah.kQ x.af8/\T<=8192):=hid ⟨by rw[hT,hP0];rfl,by omega⟩;rw[<-hT];have hver:=gK p1;have hdv:=cL x.af6;clear hx hsz hv Kw hk hl hr p1 p5 p6 p7 hw1 hb0 hT;obtain⟨⟨z0,z1,z2,z3⟩, -⟩:=aO (HX.out w1 aj);have hm:=fB {data:=#[115,99,104,101,109,97]} [.num x.af6] (by intro a ha;rw[zMs.1 ha];simp only[fN];omega) (by rw[cB,eD];simp only[argN];have:({data:=#[115,99,104,101,109,97]}:ByteArray).size=6:=rfl;omega) (by simp) w1 20 (xC.out w1 aj) w1 aj P0 (by rw[cB,eD,hP0];simp only[argN];have:({data:=#[115,99,104,101,109,97]}:ByteArray).size=6:=rfl;omega);simp only[List.map_cons,List.map_nil,jL,List.length_cons,List.length_nil] at hm;have kZ:=hid hm;clear hm hP0 hver hdv;generalize x.af6=ver at*;go_enter Tryz.func175,Tryz.ntmps175;go_upto_region 2 with fail;rw[<-HW.out,<-HB0.out];go_wp2_with fail;refine kZ.out.mono ?_;rintro e w2 ⟨s,rfl,hs,hb⟩;have Rt:=hid (HD1.out.below hb);have bB:Hid (Below b w1 w2):=hid (hb.mono (by omega));go_wp2_with fail;refine(dm b b 0 s w2 Rt.out (by have:=HT.out;omega) (by have:=bB.out.size;omega)).mono ?_;rintro e w3 ⟨rfl,hd,hb3, -⟩;have bG:Hid (Below b w1 w3):=hid (bB.out.trans hb3);have Tj:Hid (fI b b (P0+ah.bn ah.gQ (x.af3.take 0)) w3):=hid (by rw[hs] at hd;simpa [ah.bn] using hd);clear hs hb hd hb3 z0 z1 z2 z3;obtain⟨⟨z0,z1,z2,z3⟩, -⟩:=aO (HX.out w3 bG.out);go_upto_region 4 with fail;clear z0 z1 z2 z3;go_loopw [26] (fun i wr=>∃k:Nat,k<=x.af3.length/\i=.int .i64 (k:Int)/\Hid (fI b b (P0+ah.bn ah.gQ (x.af3.take k)) wr)/\Hid (Below b w1 wr)) (fun i _=>x.af3.length-(intOf i).toNat);case atStart=>exact⟨0,by omega,rfl,Tj,bG⟩
 case round=>
  obtain⟨k,hk,rfl,HD,HB⟩:=hrel;obtain⟨wo,rfl⟩:=nmE (wr:World);by_cases hlt:k<x.af3.length
  ·have hk0:(0:Int)<=(k:Int):=by omega
   have hk1:(k:Int)<(x.af3.length:Int):=by omega
   obtain⟨lU, -,v0,v1,v2,uf,v3,hf⟩:=Gh.out.at hlt;have Rv:=HE.out wo HB.out;have y0:=(Rv.cell (p:=⟨aY ak,bC ak+k*4,none⟩) lU).trans v0;have y1:=(Rv.cell (p:=⟨aY ak,bC ak+k*4+1,none⟩) lU).trans v1;have y2:=(Rv.cell (p:=⟨aY ak,bC ak+k*4+2,none⟩) lU).trans v2;have y3:=(Rv.cell (p:=⟨aY ak,bC ak+k*4+3,none⟩) lU).trans v3;clear v0 v1 v2 v3 Rv;obtain⟨q1,q2,q3,q4⟩:=wW (HP5.out _ (zGm hlt));have q5:=dV q1;have q6:=jW q2;have hsum:=lH ah.gQ x.af3 hlt;have hle:=iK ah.gQ x.af3 (k+1);obtain⟨N0,Vy⟩:=nmE (P0+ah.bn ah.gQ (x.af3.take k));have hkN:ah.gQ x.af3[k]=4+(1+x.af3[k].name.size)+(1+ah.cZ x.af3[k].lo)+(1+ah.cZ x.af3[k].hi)+1+ah.bn ah.bQ x.af3[k].af4:=rfl;have HN:Hid (P0+ah.bn ah.gQ (x.af3.take (k+1))=N0+(4+(1+x.af3[k].name.size)+(1+ah.cZ x.af3[k].lo)+(1+ah.cZ x.af3[k].hi)+1)+ah.bn ah.bQ x.af3[k].af4/\N0+(4+(1+x.af3[k].name.size)+(1+ah.cZ x.af3[k].lo)+(1+ah.cZ x.af3[k].hi)+1)+ah.bn ah.bQ x.af3[k].af4<=8192):=hid (by have:=HT.out;omega);rw[<-Vy] at HD;clear hsum hle Vy hkN q1 q2;generalize x.af3[k]=kd at*;obtain⟨nm,lo,hi,fs⟩:=kd;simp only at y0 y1 y2 hf q3 q4 q5 q6 HN;obtain⟨af,cf,rfl,hsf, -, -⟩:=hf.form;have HF:Hid (∀W,Below b w1 W->dh S W (.slice af fs.length cf) fs):=hid (fun W hW=>hf.keep (aA.below (HE.out W hW)));have HP4:=hid q4;have hd1:=cL lo;have hd2:=cL hi;clear hf q4;obtain⟨M0,PS⟩:=nmE (4+(1+nm.size)+(1+ah.cZ lo)+(1+ah.cZ hi)+1);rw[<-PS] at HN;obtain⟨w5,jO⟩:=nmE (wo.alloc (.cells #[.string nm,.int .i64 lo,.int .i64 hi,.slice af fs.length cf] 102));have dP:Hid (Below b w1 w5):=hid (by rw[jO];exact HB.out.alloc (by have:=HB.out.size;omega) _);have Ij:Hid (fI b b N0 w5):=hid (by rw[jO];exact HD.out.below (aj.alloc aB _));have oV:Hid (w5.heap[wo.heap.size]?=some (.cells #[.string nm,.int .i64 lo,.int .i64 hi,.slice af fs.length cf] 102 (0,0))):=hid (by rw[jO];exact aD wo _ rfl);have hbo:wo.heap.size≠b:=by have:=HB.out.size;omega
   obtain⟨⟨u0,u1,u2,u3⟩, -⟩:=aO oV.out;have hm:=fB {data:=#[107,105,110,100]} [.str nm,.num lo,.num hi] (by intro a ha;simp only[zMc,zNn,or_false] at ha;rcases ha with rfl|rfl|rfl<;>first|trivial|(simp only[fN];omega)) (by simp only[cB,eD,argN];have:({data:=#[107,105,110,100]}:ByteArray).size=4:=rfl;omega) (by simp) w5 20 (xC.out w5 dP.out) w5 aj M0 (by rw[PS];simp only[cB,eD,argN];have:({data:=#[107,105,110,100]}:ByteArray).size=4:=rfl;omega);simp only[List.map_cons,List.map_nil,jL,List.length_cons,List.length_nil] at hm;have kZ:=hid hm;have yI:=hid jO;clear hm PS hd1 hd2 q5 q6 jO;go_upto_region 6 with fail;rw[<-yI.out];clear y0 y1 y2 y3;go_wp2_with fail;refine kZ.out.mono ?_;rintro e w6 ⟨s,rfl,hs,hb⟩;have Tk:=hid (Ij.out.below hb);have jC:Hid (Below b w1 w6):=hid (dP.out.trans (hb.mono (by have:=dP.out.size;omega)));have Bk:Hid (w6.heap[wo.heap.size]?=some (.cells #[.string nm,.int .i64 lo,.int .i64 hi,.slice af fs.length cf] 102 (0,0))):=hid ((hb.block _ (ay oV.out)).trans oV.out);go_wp2_with fail;refine(dm b b N0 s w6 Tk.out (by have:=HN.out;omega) (by have:=jC.out.size;omega)).mono ?_;rintro e w7 ⟨rfl,hd,jM,Rk⟩;have kN:Hid (Below b w1 w7):=hid (jC.out.trans jM);have HD7:Hid (fI b b (N0+M0+ah.bn ah.bQ (fs.take 0)) w7):=hid (by rw[hs] at hd;simpa [ah.bn] using hd);have AZ:Hid (w7.heap[wo.heap.size]?=some (.cells #[.string nm,.int .i64 lo,.int .i64 hi,.slice af fs.length cf] 102 (0,0))):=hid (Rk _ _ Bk.out hbo (fun cs fr e=>by simp at e));clear hs hb hd jM Rk u0 u1 u2 u3 kZ;obtain⟨⟨u0,u1,u2,u3⟩, -⟩:=aO AZ.out;go_upto_region 8 with fail;clear u0 u1 u2 u3;go_loopw [45] (fun i wr=>∃j:Nat,j<=fs.length/\i=.int .i64 (j:Int)/\Hid (fI b b (N0+M0+ah.bn ah.bQ (fs.take j)) wr)/\Hid (Below b w1 wr)) (fun i _=>fs.length-(intOf i).toNat);case atStart=>exact⟨0,by omega,rfl,HD7,kN⟩
   case round=>
    obtain⟨j,hj,rfl,HDi,Gi⟩:=hrel;obtain⟨wi,rfl⟩:=nmE (wr:World);by_cases hjl:j<fs.length
    ·have hj0:(0:Int)<=(j:Int):=by omega
     have hj1:(j:Int)<(fs.length:Int):=by omega
     obtain⟨-, -,c0,c1,c2,c3,c4,c5,uw,ug,c6,c7,hu1,kL⟩:=(HF.out wi Gi.out).at hjl;have wO:=HP4.out _ (zGm hjl);have hsum:=lH ah.bQ fs hjl;have hle:=iK ah.bQ fs (j+1);obtain⟨N2,Tl⟩:=nmE (N0+M0+ah.bn ah.bQ (fs.take j));have CK:Hid (N0+M0+ah.bn ah.bQ (fs.take (j+1))=N2+ah.bQ fs[j]/\N2+ah.bQ fs[j]<=8192):=hid (by have:=HN.out;omega);rw[<-Tl] at HDi;clear hsum hle Tl;obtain⟨a1,n1,d1,rfl⟩:∃a n c,uw=.slice a n c:=by obtain⟨a,c,e, -⟩:=hu1.form;exact⟨_,_,_,e⟩
     obtain⟨a2,n2,d2,rfl⟩:∃a n c,ug=.slice a n c:=by obtain⟨a,c,e, -⟩:=kL.form;exact⟨_,_,_,e⟩
     generalize fs[j]=fd at*;obtain⟨w8,hw8⟩:=nmE (wi.alloc (.cells (bX fd (.slice a1 n1 d1) (.slice a2 n2 d2)).toArray 117));have hal:BL wi w8:=by rw[hw8];exact aj.alloc aB _
     have lP:Hid (Below b w1 w8):=hid (Gi.out.trans (hal.mono (by have:=Gi.out.size;omega)));have Vz:Hid (fI b b N2 w8):=hid (HDi.out.below hal);have uX:=hid (LA fd wO _ _ S S w8 (hu1.keep (aA.below hal)) (kL.keep (aA.below hal)) (xC.out w8 lP.out));have EM:Hid (w8.heap[wi.heap.size]?=some (.cells (bX fd (.slice a1 n1 d1) (.slice a2 n2 d2)).toArray 117 (0,0))):=hid (by rw[hw8];exact aD wi _ rfl);obtain⟨FN,LC⟩:=nmE (ah.bQ fd);rw[<-LC] at uX CK;clear hu1 kL wO hal LC;obtain⟨fn1,fo,fu,fk,fl,fh,Gj,Gl⟩:=fd;simp only[bX] at hw8 EM uX;simp only at c0 c1 c2 c3 c4 c5;obtain⟨⟨u0,u1,u2,u3,u4,u5,u6,u7⟩, -⟩:=dn EM.out;have U2:=hid hw8;clear hw8;go_upto_region 10 with fail;rw[<-U2.out];clear c0 c1 c2 c3 c4 c5 c6 c7;go_wp2_with fail;refine uX.out.mono ?_;rintro e w9 ⟨s,rfl,hs,hb⟩;have HD9:=hid (Vz.out.below hb);have uV:Hid (Below b w1 w9):=hid (lP.out.trans (hb.mono (by have:=lP.out.size;omega)));go_wp2_with fail;refine(dm b b N2 s w9 HD9.out (by have:=CK.out;omega) (by have:=uV.out.size;omega)).mono ?_;rintro e gX ⟨rfl,hd,DN, -⟩;have tX:Hid (Below b w1 gX):=hid (uV.out.trans DN);have zP:Hid (fI b b (N0+M0+ah.bn ah.bQ (fs.take (j+1))) gX):=hid (by rw[CK.out.1,<-hs];exact hd);clear hs hb hd DN u0 u1 u2 u3 u4 u5 u6 u7;go_wp2;go_roundw;case rel=>exact⟨j+1,by omega,by go_num,zP,tX⟩
     simp[intOf];omega
    ·have hjj:j=fs.length:=by omega
     have HDe:Hid (fI b b (P0+ah.bn ah.gQ (x.af3.take (k+1))) wi):=hid (by
      have:=HDi.out
      rw[hjj,List.take_length] at this
      rw[HN.out.1];exact this)
     go_wp2;go_roundw;case rel=>exact⟨k+1,by omega,by go_num,HDe,Gi⟩
     simp[intOf];omega
  ·have Ru:Hid (fI b b (P0+ah.bn ah.gQ x.af3+ah.bn ah.jy (x.af7.take 0)) wo):=hid (by
    have:=HD.out
    rw[show k=x.af3.length by omega,List.take_length] at this
    simpa [ah.bn] using this)
   obtain⟨⟨z0,z1,z2,z3⟩, -⟩:=aO (HX.out wo HB.out);have dO:=hid HB.out;clear HD;go_upto_region 14 with fail;clear z0 z1 z2 z3;go_loopw [57] (fun i wr=>∃k:Nat,k<=x.af7.length/\i=.int .i64 (k:Int)/\Hid (fI b b (P0+ah.bn ah.gQ x.af3+ah.bn ah.jy (x.af7.take k)) wr)/\Hid (Below b w1 wr)) (fun i _=>x.af7.length-(intOf i).toNat);case atStart=>exact⟨0,by omega,rfl,Ru,dO⟩
   case round=>
    obtain⟨k,hk,rfl,HD,HB⟩:=hrel;obtain⟨wl,rfl⟩:=nmE (wr:World);by_cases hlt:k<x.af7.length
    ·have hk0:(0:Int)<=(k:Int):=by omega
     have hk1:(k:Int)<(x.af7.length:Int):=by omega
     obtain⟨lU, -,v0,us1,us2,v1,v2,hst,hmv⟩:=HLw.out.at hlt;have Rv:=HE.out wl HB.out;have y0:=(Rv.cell (p:=⟨aY al,bC al+k*3,none⟩) lU).trans v0;have y1:=(Rv.cell (p:=⟨aY al,bC al+k*3+1,none⟩) lU).trans v1;have y2:=(Rv.cell (p:=⟨aY al,bC al+k*3+2,none⟩) lU).trans v2;clear v0 v1 v2 Rv;obtain⟨q1,q2,q3,q4,q5⟩:=wX (HP6.out _ (zGm hlt));have q6:=dV q1;have q7:=(gK q2).2;have hsum:=lH ah.jy x.af7 hlt;have hle:=iK ah.jy x.af7 (k+1);obtain⟨N0,Vy⟩:=nmE (P0+ah.bn ah.gQ x.af3+ah.bn ah.jy (x.af7.take k));have hkN:ah.jy x.af7[k]=4+(1+x.af7[k].name.size)+(1+ah.cZ x.af7[k].agc.length)+ah.bn (fun s:ByteArray=>1+s.size) x.af7[k].agc+1+ah.bn mD x.af7[k].agd:=rfl;have HN:Hid (P0+ah.bn ah.gQ x.af3+ah.bn ah.jy (x.af7.take (k+1))=N0+(4+(1+x.af7[k].name.size)+(1+ah.cZ x.af7[k].agc.length)+ah.bn (fun s:ByteArray=>1+s.size) x.af7[k].agc+1)+ah.bn mD x.af7[k].agd/\N0+(4+(1+x.af7[k].name.size)+(1+ah.cZ x.af7[k].agc.length)+ah.bn (fun s:ByteArray=>1+s.size) x.af7[k].agc+1)+ah.bn mD x.af7[k].agd<=8192):=hid (by have:=HT.out;omega);rw[<-Vy] at HD;clear hsum hle Vy hkN q1 q2;generalize x.af7[k]=kd at*;obtain⟨nm,ss,ms⟩:=kd;simp only at y0 hst hmv q3 q4 q5 q6 q7 HN;obtain⟨a1,c1,rfl,hs1, -, -⟩:=hst.form;obtain⟨a2,c2,rfl,hs2, -, -⟩:=hmv.form;have HSs:Hid (∀W,Below b w1 W->fL S W (.slice a1 ss.length c1) ss):=hid (fun W hW=>hst.keep (aA.below (HE.out W hW)));have HMs:Hid (∀W,Below b w1 W->BZ S W (.slice a2 ms.length c2) ms):=hid (fun W hW=>dA.keep dx hmv (aA.below (HE.out W hW)));have wU:=hid q5;have hdn:=cL (ss.length:Int);clear hst hmv q3 q5;obtain⟨M0,PS⟩:=nmE (4+(1+nm.size)+(1+ah.cZ ss.length)+ah.bn (fun s:ByteArray=>1+s.size) ss+1);rw[<-PS] at HN;have HM0:=hid PS;clear PS;obtain⟨w5,jO⟩:=nmE (wl.alloc (.cells #[.string nm,.slice a1 ss.length c1,.slice a2 ms.length c2] 107));have dP:Hid (Below b w1 w5):=hid (by rw[jO];exact HB.out.alloc (by have:=HB.out.size;omega) _);have Ij:Hid (fI b b N0 w5):=hid (by rw[jO];exact HD.out.below (aj.alloc aB _));have oV:Hid (w5.heap[wl.heap.size]?=some (.cells #[.string nm,.slice a1 ss.length c1,.slice a2 ms.length c2] 107 (0,0))):=hid (by rw[jO];exact aD wl _ rfl);have hbo:wl.heap.size≠b:=by have:=HB.out.size;omega
     obtain⟨u0,u1,u2⟩:=CN oV.out;obtain⟨w6,jf⟩:=nmE (w5.alloc (.cells #[.iface 9 (.string nm),.iface 3 (.int .i64 (ss.length:Int))] 20));have jC:Hid (Below w5.heap.size w5 w6):=hid (by rw[jf];exact aj.alloc aB _);have Lp:Hid (kR (w5.heap.size<=·) w6 (.slice (some ⟨w5.heap.size,0,none⟩) 2 2) [.str nm,.num ss.length]):=hid (by rw[jf];exact CQ w5 (.str nm) (.num ss.length));have yI:=hid jO;have CT:=hid jf;have hbz5:b<w5.heap.size:=by have:=dP.out.size;omega
     clear jO jf;go_upto_region 16 with fail;rw[<-yI.out];clear y0 y1 y2;go_upto_region 17 with fail;rw[<-CT.out];clear u0 u1 u2;obtain⟨u0,u1,u2⟩:=CN (show w6.heap[wl.heap.size]?=_ from (jC.out.block _ (ay oV.out)).trans oV.out);go_upto_region 18 with fail;clear u0 u1 u2;go_loopw [10,72] (fun s i wr=>∃(j:Nat) (xs:List Arg) (av:Option Addr) (cv:Nat),j<=ss.length/\i=.int .i64 (j:Int)/\s=.slice av xs.length cv/\Hid (xs=.str nm::.num ss.length::(ss.take j).map Arg.str)/\Hid (kR (w5.heap.size<=·) wr (.slice av xs.length cv) xs)/\Hid (BL w5 wr)) (fun _ i _=>ss.length-(intOf i).toNat);case atStart=>exact⟨0,[.str nm,.num ss.length],_,_,by omega,rfl,rfl,hid (by simp),Lp,jC⟩
     case round=>
      obtain⟨j,xs,av,cv,hj,rfl,rfl,HXs,Kx,zQ⟩:=hrel;obtain⟨wi,rfl⟩:=nmE (wr:World);have Tn:Hid (Below b w1 wi):=hid (dP.out.trans (zQ.out.mono (by omega)));have hxl:xs.length<=1000:=by rw[HXs.out];simp;omega
      by_cases hjl:j<ss.length
      ·have hj0:(0:Int)<=(j:Int):=by omega
       have hj1:(j:Int)<(ss.length:Int):=by omega
       obtain⟨xw,hx, -,hx2⟩:=(HSs.out wi Tn.out).at hjl;subst hx2
       have Ht:Hid (xs++[.str ss[j]]=.str nm::.num ss.length::(ss.take (j+1)).map Arg.str):=hid (by
        rw[HXs.out,zTs hjl,List.map_append];rfl)
       generalize ss[j]=sw at*;have X7:Hid (BL wi (wi.alloc (.cells #[.iface 9 (.string sw)] 20))):=hid (aj.alloc aB _);have HvA:=hid (adA wi [.str sw] (by simp) 20);simp only[List.map_cons,List.map_nil,jL,List.length_cons,List.length_nil] at HvA;go_wp2_with (at_builtin;go_must (refine xu rfl _ _ rfl Tryz.abu rfl Kx.out X7.out rfl HvA.out (by simp;omega) ?_));intro v2 w3 rK ht3;obtain⟨z2,hz2⟩:=nmE (xs++[.str sw]);rw[<-hz2] at rK Ht;have Kg:Hid (kR (w5.heap.size<=·) w3 v2 z2):=hid (tU.mono rK (fun b _ hb=>eO zQ.out.size b hb));have mM:Hid (BL w5 w3):=hid ((tnB zQ.out X7.out).trans (ht3.below (by have:=X7.out.size;have:=zQ.out.size;omega) (fun b hb=>Kx.out.2 b hb.symm)));obtain⟨a3,c3,rfl, -, -, -⟩:=(kR.sl Kg.out).form;clear rK ht3 hz2 hx;go_wp2;go_roundw;case rel=>exact⟨j+1,z2,a3,c3,by omega,by go_num,rfl,Ht,Kg,mM⟩
       simp[intOf];omega
      ·have HXE:Hid (xs=.str nm::.num ss.length::ss.map Arg.str):=hid (by rw[HXs.out,zTl (by omega)])
       have kZ:Hid (CP 207 #[.string {data:=#[108,105,102,101]},.slice av xs.length cv] wi (Ff M0 wi)):=hid (by
        have kW:ah.bn argN xs=(1+nm.size)+((1+ah.cZ ss.length)+ah.bn (fun s:ByteArray=>1+s.size) ss):=by rw[HXE.out,cB,cB,Fj];rfl
        have h4:({data:=#[108,105,102,101]}:ByteArray).size=4:=rfl
        have hM:=HM0.out
        have hNb:=HN.out.2
        refine(zL _ xs (by
         rw[HXE.out]
         intro a ha
         rcases zMc.1 ha with rfl|ha
         ·trivial
         ·rcases zMc.1 ha with rfl|ha
          ·simp only[fN];omega
          ·obtain⟨y, -,rfl⟩:=List.mem_map.1 ha;trivial) (by omega) _ _ wi (kR.sl Kx.out) (xC.out wi Tn.out)).mono ?_
        rintro e w' ⟨s,rfl,hs,hb'⟩
        exact⟨s,rfl,by rw[hs];omega,hb'⟩)
       have HDi:Hid (fI b b N0 wi):=hid (Ij.out.below zQ.out);have yg:Hid (wi.heap[wl.heap.size]?=some (.cells #[.string nm,.slice a1 ss.length c1,.slice a2 ms.length c2] 107 (0,0))):=hid ((zQ.out.block _ (ay oV.out)).trans oV.out);go_wp2_with fail;refine kZ.out.mono ?_;rintro e w7 ⟨s,rfl,hs,hb⟩;have HD7:=hid (HDi.out.below hb);have kN:Hid (Below b w1 w7):=hid (Tn.out.trans (hb.mono (by have:=Tn.out.size;omega)));have AZ:Hid (w7.heap[wl.heap.size]?=some (.cells #[.string nm,.slice a1 ss.length c1,.slice a2 ms.length c2] 107 (0,0))):=hid ((hb.block _ (ay yg.out)).trans yg.out);go_wp2_with fail;refine(dm b b N0 s w7 HD7.out (by have:=HN.out;omega) (by have:=kN.out.size;omega)).mono ?_;rintro e w8 ⟨rfl,hd,mK,hk8⟩;have lP:Hid (Below b w1 w8):=hid (kN.out.trans mK);have Vz:Hid (fI b b (N0+M0+ah.bn mD (ms.take 0)) w8):=hid (by rw[hs] at hd;simpa [ah.bn] using hd);have EM:Hid (w8.heap[wl.heap.size]?=some (.cells #[.string nm,.slice a1 ss.length c1,.slice a2 ms.length c2] 107 (0,0))):=hid (hk8 _ _ AZ.out hbo (fun cs fr e=>by simp at e));clear hs hb hd mK hk8 kZ;obtain⟨u0,u1,u2⟩:=CN EM.out;go_upto_region 24 with fail;clear u0 u1 u2;go_loopw [88] (fun i wr=>∃j:Nat,j<=ms.length/\i=.int .i64 (j:Int)/\Hid (fI b b (N0+M0+ah.bn mD (ms.take j)) wr)/\Hid (Below b w1 wr)) (fun i _=>ms.length-(intOf i).toNat);case atStart=>exact⟨0,by omega,rfl,Vz,lP⟩
       case round=>
        obtain⟨m,hm,rfl,HDm,Z5⟩:=hrel;obtain⟨wm,rfl⟩:=nmE (wr:World);by_cases hml:m<ms.length
        ·have hm0:(0:Int)<=(m:Int):=by omega
         have hm1:(m:Int)<(ms.length:Int):=by omega
         obtain⟨-, -,y0,y1⟩:=(HMs.out wm Z5.out).at hml;have hmb:=wU.out _ (zGm hml);have hsum:=lH mD ms hml;have hle:=iK mD ms (m+1);obtain⟨N2,Tl⟩:=nmE (N0+M0+ah.bn mD (ms.take m));have CK:Hid (N0+M0+ah.bn mD (ms.take (m+1))=N2+mD ms[m]/\N2+mD ms[m]<=8192):=hid (by have:=HN.out;omega);rw[<-Tl] at HDm;clear hsum hle Tl;generalize ms[m]=mv at*;obtain⟨m1,m2⟩:=mv;simp only at y0 y1
         have hmr:0<=m1/\m1<=100/\0<=m2/\m2<=100:=by
          unfold ah.yS at hmb;obtain⟨g1,g2⟩:=Bool.and_eq_true_iff.1 hmb;have g3:=gK g1;have g4:=gK g2;simp only at g3 g4;omega
         have hd1:=cL m1;have hd2:=cL m2;obtain⟨w9,Im⟩:=nmE (wm.alloc (.cells #[.int .i64 m1,.int .i64 m2] 108));have hal:BL wm w9:=by rw[Im];exact aj.alloc aB _
         have uV:Hid (Below b w1 w9):=hid (Z5.out.trans (hal.mono (by have:=Z5.out.size;omega)));have HD9:Hid (fI b b N2 w9):=hid (HDm.out.below hal);have u0:w9.cell? ⟨wm.heap.size,0,none⟩=some (.int .i64 m1):=by rw[Im];simp
         have u1:w9.cell? ⟨wm.heap.size,1,none⟩=some (.int .i64 m2):=by rw[Im];simp
         have hmd:=fB {data:=#[109,111,118,101]} [.num m1,.num m2] (by intro a ha;simp only[zMc,zNn,or_false] at ha;rcases ha with rfl|rfl<;>(simp only[fN];omega)) (by simp only[cB,eD,argN];have:({data:=#[109,111,118,101]}:ByteArray).size=4:=rfl;omega) (by simp) w9 20 (xC.out w9 uV.out) w9 aj (mD (m1,m2)) (by simp only[cB,eD,argN,mD];have:({data:=#[109,111,118,101]}:ByteArray).size=4:=rfl;omega);simp only[List.map_cons,List.map_nil,jL,List.length_cons,List.length_nil] at hmd;have kZ:=hid hmd;have VA:=hid Im;clear hmd hmb hmr hd1 hd2 hal Im;go_upto_region 26 with fail;rw[<-VA.out];clear y0 y1;go_wp2_with fail;refine kZ.out.mono ?_;rintro e gX ⟨s,rfl,hs,hb⟩;have zP:=hid (HD9.out.below hb);have tX:Hid (Below b w1 gX):=hid (uV.out.trans (hb.mono (by have:=uV.out.size;omega)));go_wp2_with fail;refine(dm b b N2 s gX zP.out (by have:=CK.out;omega) (by have:=tX.out.size;omega)).mono ?_;rintro e qF ⟨rfl,hd,sq, -⟩;have Tp:Hid (Below b w1 qF):=hid (tX.out.trans sq);have Io:Hid (fI b b (N0+M0+ah.bn mD (ms.take (m+1))) qF):=hid (by rw[CK.out.1,<-hs];exact hd);clear hs hb hd sq u0 u1 kZ;go_wp2;go_roundw;case rel=>exact⟨m+1,by omega,by go_num,Io,Tp⟩
         simp[intOf];omega
        ·have hmm:m=ms.length:=by omega
         have HDe:Hid (fI b b (P0+ah.bn ah.gQ x.af3+ah.bn ah.jy (x.af7.take (k+1))) wm):=hid (by
          have:=HDm.out
          rw[hmm,List.take_length] at this
          rw[HN.out.1];exact this)
         go_wp2;go_roundw;case rel=>exact⟨k+1,by omega,by go_num,HDe,Z5⟩
         simp[intOf];omega
    ·have Tk:Hid (fI b b (P0+ah.bn ah.gQ x.af3+ah.bn ah.jy x.af7+ah.bn ah.kQ (x.af8.take 0)) wl):=hid (by
      have:=HD.out
      rw[show k=x.af7.length by omega,List.take_length] at this
      simpa [ah.bn] using this)
     obtain⟨⟨z0,z1,z2,z3⟩, -⟩:=aO (HX.out wl HB.out);have jC:=hid HB.out;clear HD;go_upto_region 30 with fail;clear z0 z1 z2 z3;go_loopw [106] (fun i wr=>∃k:Nat,k<=x.af8.length/\i=.int .i64 (k:Int)/\Hid (fI b b (P0+ah.bn ah.gQ x.af3+ah.bn ah.jy x.af7+ah.bn ah.kQ (x.af8.take k)) wr)/\Hid (Below b w1 wr)) (fun i _=>x.af8.length-(intOf i).toNat);case atStart=>exact⟨0,by omega,rfl,Tk,jC⟩
     case round=>
      obtain⟨k,hk,rfl,HD,HB⟩:=hrel;obtain⟨wq,rfl⟩:=nmE (wr:World);by_cases hlt:k<x.af8.length
      ·have hk0:(0:Int)<=(k:Int):=by omega
       have hk1:(k:Int)<(x.af8.length:Int):=by omega
       obtain⟨-, -,y0,y1,y2,y3,y4⟩:=tA.at (Il.out wq HB.out) hlt;obtain⟨q1,q2,q3,q4, -,q6⟩:=wY (HP7.out _ (zGm hlt));have q1:=dV q1;have q2:=dV q2;have q3:=lT (tW q3);have q4:=lT (tW q4);have q6:=gK q6;have hsum:=lH ah.kQ x.af8 hlt;have hle:=iK ah.kQ x.af8 (k+1);obtain⟨N0,Vy⟩:=nmE (P0+ah.bn ah.gQ x.af3+ah.bn ah.jy x.af7+ah.bn ah.kQ (x.af8.take k));have HN:Hid (P0+ah.bn ah.gQ x.af3+ah.bn ah.jy x.af7+ah.bn ah.kQ (x.af8.take (k+1))=N0+ah.kQ x.af8[k]/\N0+ah.kQ x.af8[k]<=8192):=hid (by have:=HT.out;omega);rw[<-Vy] at HD;clear hsum hle Vy;generalize x.af8[k]=rd at*;obtain⟨nm,kn,ra,rb,rn⟩:=rd;simp only at y0 y1 y2 y3 y4 q1 q2 q3 q4 q6;obtain⟨M0,PS⟩:=nmE (ah.kQ ⟨nm,kn,ra,rb,rn⟩);rw[<-PS] at HN;have hMe:M0=4+(1+nm.size)+(1+kn.size)+(1+ah.dR ra)+(1+ah.dR rb)+(1+ah.cZ rn)+1:=PS;obtain⟨w5,jO⟩:=nmE (wq.alloc (.cells #[.string nm,.string kn,.string ra,.string rb,.int .i64 rn] 110));have dP:Hid (Below b w1 w5):=hid (by rw[jO];exact HB.out.alloc (by have:=HB.out.size;omega) _);have Ij:Hid (fI b b N0 w5):=hid (by rw[jO];exact HD.out.below (aj.alloc aB _));have oV:Hid (w5.heap[wq.heap.size]?=some (.cells #[.string nm,.string kn,.string ra,.string rb,.int .i64 rn] 110 (0,0))):=hid (by rw[jO];exact aD wq _ rfl);have hbz5:b<w5.heap.size:=by have:=dP.out.size;omega
       obtain⟨⟨u0,u1,u2,u3,u4⟩, -⟩:=mh oV.out;have hna:=kH ra;have hnb:=kH rb;have hdn:=cL rn;have kZ:=hid (fun(W:World) (hb:BL w5 W)=>fB {data:=#[114,117,108,101]} [.str nm,.str kn,.str (gI ra),.str (gI rb),.num rn] (by intro a ha;simp only[zMc,zNn,or_false] at ha;rcases ha with rfl|rfl|rfl|rfl|rfl<;>first|trivial|(simp only[fN];omega)) (by simp only[cB,eD,argN];have:({data:=#[114,117,108,101]}:ByteArray).size=4:=rfl;omega) (by simp) W 20 (xC.out W (dP.out.trans (hb.mono (by omega)))) W aj M0 (by simp only[cB,eD,argN];have:({data:=#[114,117,108,101]}:ByteArray).size=4:=rfl;omega));simp only[List.map_cons,List.map_nil,jL,List.length_cons,List.length_nil] at kZ;have HNa:=hid (fun W=>nI ra W);have X8:=hid (fun W=>nI rb W);generalize gI ra=na at*;generalize gI rb=nb at*;have yI:=hid jO;clear hna hnb hdn hMe PS jO q1 q2 q3 q4 q6;go_upto_region 32 with fail;rw[<-yI.out];clear y0 y1 y2 y3 y4;have Bj:=hqC w5 ⟨wq.heap.size,0,none⟩ (.string nm) fun xh=>(xh.2.cell (p:=⟨wq.heap.size,0,none⟩) (ay oV.out)).trans u0;have hq1:=hqC w5 ⟨wq.heap.size,1,none⟩ (.string kn) fun xh=>(xh.2.cell (p:=⟨wq.heap.size,1,none⟩) (ay oV.out)).trans u1;have xY:=hqC w5 ⟨wq.heap.size,2,none⟩ (.string ra) fun xh=>(xh.2.cell (p:=⟨wq.heap.size,2,none⟩) (ay oV.out)).trans u2;have Px:=hqC w5 ⟨wq.heap.size,3,none⟩ (.string rb) fun xh=>(xh.2.cell (p:=⟨wq.heap.size,3,none⟩) (ay oV.out)).trans u3;have M9:=hqC w5 ⟨wq.heap.size,4,none⟩ (.int .i64 rn) fun xh=>(xh.2.cell (p:=⟨wq.heap.size,4,none⟩) (ay oV.out)).trans u4;refine cH 17 (.quiet 0 (.quiet 1 (.quiet 2 (.quiet 3 (.quiet 4 (.quiet 5 (.quiet 6 (.quiet 7 (.quiet 10 (.quiet 11 (.quiet 14 (.quiet 15 (.quiet 16 (.one 8 (.quiet 9 (.one 12 (.quiet 13 .done))))))))))))))))) (BL w5) mxT (by kernel_rfl) (af5 aj 1) ?_;have mL:=hid (af5 (Below.refl w5.heap.size w5) 1);generalize w5.drewN 1=w6 at*;clear u0 u1 u2 u3 u4
       iterate 13
        refine ai rfl ?_
        intro hne
        go_big_quiet_step (fail)
        refine zWq ?_
        clear hne
       refine aH rfl ?_;go_wp2_with fail;refine(HNa.out w6).mono ?_;rintro e w7 ⟨rfl,jM⟩;have kN:=hid (tnB mL.out jM);clear jM;go_wp2_with fail;refine aC (BL w5) (fun _ h=>h) kN.out ?_;refine ai rfl ?_;intro hne;go_big_quiet_step (fail);refine zWq ?_;clear hne;refine aH rfl ?_;go_wp2_with fail;refine(X8.out w7).mono ?_;rintro e w8 ⟨rfl,mK⟩;have lP:=bq kN mK;clear mK;go_wp2_with fail;refine aC (BL w5) (fun _ h=>h) lP.out ?_;refine ai rfl ?_;intro hne;go_big_quiet_step (fail);refine zWq ?_;clear hne;have HLn8:=hid (kZ.out w8 lP.out);have Vz:Hid (fI b b N0 w8):=hid (Ij.out.below lP.out);have abv:Hid (Below b w1 w8):=hid (dP.out.trans (lP.out.mono (by omega)));refine aL ?_;try simp only[zDs,zDz]
       clear Bj hq1 xY Px M9;go_wp2_with fail;refine HLn8.out.mono ?_;rintro e w9 ⟨s,rfl,hs,hb⟩;have HD9:=hid (Vz.out.below hb);have uV:Hid (Below b w1 w9):=hid (abv.out.trans (hb.mono (by have:=abv.out.size;omega)));go_wp2_with fail;refine(dm b b N0 s w9 HD9.out (by have:=HN.out;omega) (by have:=uV.out.size;omega)).mono ?_;rintro e gX ⟨rfl,hd,DN, -⟩;have tX:Hid (Below b w1 gX):=hid (uV.out.trans DN);have zP:Hid (fI b b (P0+ah.bn ah.gQ x.af3+ah.bn ah.jy x.af7+ah.bn ah.kQ (x.af8.take (k+1))) gX):=hid (by rw[HN.out.1,<-hs];exact hd);clear hs hb hd DN;go_wp2;go_roundw;case rel=>exact⟨k+1,by omega,by go_num,zP,tX⟩
       simp[intOf];omega
      ·have HDt:Hid (fI b b T wq):=hid (by
        have:=HD.out
        rw[show k=x.af8.length by omega,List.take_length] at this
        rw[HT.out.1];exact this)
       have yJ:=hid (zK b b T wq HDt.out (by have:=HB.out.size;omega));go_wp2_with fail;refine yJ.out.mono ?_;rintro e w3 ⟨s,rfl,hs,hb3⟩;have HS:=hid hs;have HBe:=hid (HE.out w3 (HB.out.trans hb3));clear hs hb3;go_wp2;go_ret;exact⟨s,rfl,HS.out,HBe.out⟩
theorem X9{a b:ByteArray}(h:¬(a=ah.nil/\b=ah.nil)):(a++b).toList.isEmpty=false:=by
 refine qi fun e=>h ?_;have hs:(a++b).size=0:=by rw[e];rfl
 rw[ByteArray.size_append] at hs;have ha:a.size=0:=by omega
 have hb:b.size=0:=by omega
 exact⟨ByteArray.ext (Array.eq_empty_of_size_eq_zero ha),ByteArray.ext (Array.eq_empty_of_size_eq_zero hb)⟩
theorem Ip(r:ah.uY)(hr:ah.tg r=true)(w:World):
  Calls Tryz.prog 174 #[.agg #[.string r.name,.string r.kind,.string r.a,.string r.b,.int .i64 r.n]] w fun e w'=>e=.returned (.bool true)/\BL w w':=by
 obtain⟨q1,q2,q3,q4,q5,q6⟩:=wY hr;obtain⟨nm,kn,ra,rb,rn⟩:=r;simp only at q1 q2 q3 q4 q5 q6 ⊢;have H1:=hid (fun W=>cM nm W);have H2:=hid (fun W=>cM kn W);have H6:=hid (fun W=>fH rn (-1048576) 1048576 W);rw[q1] at H1;rw[q2] at H2;rw[q6] at H6;have hcat:=X9 q5;have hra:=tW q3;have hrb:=tW q4;obtain⟨w1,hw1⟩:=nmE (w.alloc (.cells #[.string nm,.string kn,.string ra,.string rb,.int .i64 rn] 110));have aW:Hid (Below w.heap.size w w1):=hid (by rw[hw1];exact aj.alloc aB _);have HK:Hid (∀W,BL w1 W->W.heap[w.heap.size]?=some (.cells #[.string nm,.string kn,.string ra,.string rb,.int .i64 rn] 110 (0,0))):=hid (fun W hW=>(hW.block _ (by rw[hw1];simp)).trans (by rw[hw1];exact aD w _ rfl));have HW:=hid hw1;clear hw1 hr q1 q2 q6;obtain⟨⟨y0,y1,y2,y3,y4⟩, -⟩:=mh (HK.out w1 aj);have xB:Hid (BL w1 w1):=hid aj;by_cases ha:ra=ah.nil
 ·have hb:¬rb=ah.nil:=fun e=>q5 ⟨ha,e⟩
  subst ha;have hbe:=qi hb;have Nd:=hid (fun W=>cM rb W);rw[q4.resolve_left hb] at Nd;clear q3 q4 q5;unfold ah.nil at*;go_enter Tryz.func174,Tryz.ntmps174;go_upto_region 1 with fail;rw[<-HW.out];go_wp2_with fail;refine(H1.out _).mono ?_;rintro e w2 ⟨rfl,hb⟩;have bB:=bq aW hb;have cU:=bq xB hb;clear hb y0 y1 y2 y3 y4;obtain⟨⟨y0,y1,y2,y3,y4⟩, -⟩:=mh (HK.out w2 cU.out);go_wp2_with fail;refine(H2.out _).mono ?_;rintro e w3 ⟨rfl,hb⟩;have bG:=bq bB hb;have dD:=bq cU hb;clear hb y0 y1 y2 y3 y4;obtain⟨⟨y0,y1,y2,y3,y4⟩, -⟩:=mh (HK.out w3 dD.out);go_wp2_with fail;refine(Nd.out _).mono ?_;rintro e w4 ⟨rfl,hb⟩;have dO:=bq bG hb;have iQ:=bq dD hb;clear hb y0 y1 y2 y3 y4;obtain⟨⟨y0,y1,y2,y3,y4⟩, -⟩:=mh (HK.out w4 iQ.out);go_wp2_with fail;refine(H6.out _).mono ?_;rintro e w' ⟨rfl,rfl⟩;go_wp2;go_ret;exact⟨rfl,dO.out⟩
 ·by_cases hb:rb=ah.nil
  ·have ZV:=qi ha
   have HA:=hid (fun W=>cM ra W);rw[q3.resolve_left ha] at HA;subst hb;clear q3 q4 q5;unfold ah.nil at*;go_enter Tryz.func174,Tryz.ntmps174;go_upto_region 1 with fail;rw[<-HW.out];go_wp2_with fail;refine(H1.out _).mono ?_;rintro e w2 ⟨rfl,hb⟩;have bB:=bq aW hb;have cU:=bq xB hb;clear hb y0 y1 y2 y3 y4;obtain⟨⟨y0,y1,y2,y3,y4⟩, -⟩:=mh (HK.out w2 cU.out);go_wp2_with fail;refine(H2.out _).mono ?_;rintro e w3 ⟨rfl,hb⟩;have bG:=bq bB hb;have dD:=bq cU hb;clear hb y0 y1 y2 y3 y4;obtain⟨⟨y0,y1,y2,y3,y4⟩, -⟩:=mh (HK.out w3 dD.out);go_wp2_with fail;refine(HA.out _).mono ?_;rintro e w4 ⟨rfl,hb⟩;have dO:=bq bG hb;have iQ:=bq dD hb;clear hb y0 y1 y2 y3 y4;obtain⟨⟨y0,y1,y2,y3,y4⟩, -⟩:=mh (HK.out w4 iQ.out);go_wp2_with fail;refine(H6.out _).mono ?_;rintro e w' ⟨rfl,rfl⟩;go_wp2;go_ret;exact⟨rfl,dO.out⟩
  ·have ZV:=qi ha
   have HA:=hid (fun W=>cM ra W);rw[q3.resolve_left ha] at HA;have hbe:=qi hb;have Nd:=hid (fun W=>cM rb W);rw[q4.resolve_left hb] at Nd;clear q3 q4 q5;go_enter Tryz.func174,Tryz.ntmps174;go_upto_region 1 with fail;rw[<-HW.out];go_wp2_with fail;refine(H1.out _).mono ?_;rintro e w2 ⟨rfl,hb⟩;have bB:=bq aW hb;have cU:=bq xB hb;clear hb y0 y1 y2 y3 y4;obtain⟨⟨y0,y1,y2,y3,y4⟩, -⟩:=mh (HK.out w2 cU.out);go_wp2_with fail;refine(H2.out _).mono ?_;rintro e w3 ⟨rfl,hb⟩;have bG:=bq bB hb;have dD:=bq cU hb;clear hb y0 y1 y2 y3 y4;obtain⟨⟨y0,y1,y2,y3,y4⟩, -⟩:=mh (HK.out w3 dD.out);go_wp2_with fail;refine(HA.out _).mono ?_;rintro e w4 ⟨rfl,hb⟩;have dO:=bq bG hb;have iQ:=bq dD hb;clear hb y0 y1 y2 y3 y4;obtain⟨⟨y0,y1,y2,y3,y4⟩, -⟩:=mh (HK.out w4 iQ.out);go_wp2_with fail;refine(Nd.out _).mono ?_;rintro e w5 ⟨rfl,hb⟩;have dP:=bq dO hb;have fS:=bq iQ hb;clear hb y0 y1 y2 y3 y4;obtain⟨⟨y0,y1,y2,y3,y4⟩, -⟩:=mh (HK.out w5 fS.out);go_wp2_with fail;refine(H6.out _).mono ?_;rintro e w' ⟨rfl,rfl⟩;go_wp2;go_ret;exact⟨rfl,dP.out⟩
theorem LG(ks:List ah.dZ)(hk:∀k∈ks,ah.oK k=true)(v:Value)(S:Nat->Prop)(w:World)(hv:fV S w v ks):
  Calls Tryz.prog 169 #[v,.func (.func 170) #[] #[]] w fun e w'=>e=.returned (.bool true)/\BL w w':=by
 have H:=XL bY ks (fun _=>true) v S w hv 170 #[] (aZ Tryz.func170 (by kernel_rfl) rfl) (fun X _ j hj us _ hu=>by
  obtain⟨uf,rfl,h1⟩:=hu;exact Ib ks[j] (hk _ (zGm hj)) uf S X h1)
 have:ks.all (fun _=>true)=true:=by simp
 rwa [this] at H
theorem LH(ks:List ah.Eb)(hk:∀k∈ks,ah.tf k=true)(v:Value)(S:Nat->Prop)(w:World)(hv:rE S w v ks):
  Calls Tryz.prog 171 #[v,.func (.func 172) #[] #[]] w fun e w'=>e=.returned (.bool true)/\BL w w':=by
 have H:=XM cE ks (fun _=>true) v S w hv 172 #[] (aZ Tryz.func172 (by kernel_rfl) rfl) (fun X _ j hj us _ hu=>by
  obtain⟨u1,u2,rfl,h1,h2⟩:=hu;exact Ic ks[j] (hk _ (zGm hj)) u1 u2 S X h1 h2)
 have:ks.all (fun _=>true)=true:=by simp
 rwa [this] at H
theorem LI(ks:List ah.uY)(hk:∀k∈ks,ah.tg k=true)(v:Value)(S:Nat->Prop)(w:World)(hv:tA S w v ks):
  Calls Tryz.prog 173 #[v,.func (.func 174) #[] #[]] w fun e w'=>e=.returned (.bool true)/\BL w w':=by
 have H:=XO dS ks (fun _=>true) v S w hv 174 #[] (aZ Tryz.func174 (by kernel_rfl) rfl) (fun X _ j hj us _ hu=>by
  have hu:us=[.string ks[j].name,.string ks[j].kind,.string ks[j].a,.string ks[j].b,.int .i64 ks[j].n]:=hu;subst hu;exact Ip ks[j] (hk _ (zGm hj)) X)
 have:ks.all (fun _=>true)=true:=by simp
 rwa [this] at H
theorem yh(x:ah.bD)(hx:ah.dr x=0)(v:Value)(S:Nat->Prop)(w:World)(hv:eU S w v x)(Kw:LaidW w):
  Calls Tryz.prog 129 #[v] w fun e w'=>e=.returned (.int .i64 0)/\BL w w':=by
 have Lr:ah.pG x=true/\ah.Ep x<=8192:=by
  unfold ah.dr at hx;split at hx
  ·rename_i h
   refine⟨h,?_⟩;split at hx
   ·omega
   ·omega
  ·omega
 obtain⟨p1,p2,p3,p4,p5,p6,p7⟩:=tV Lr.1;have hv0:=hv;obtain⟨ak,ck,al,cl,ar,cr,rfl,hk,hl,hr,hsk,hsl,hsr⟩:=hv.form;obtain⟨w1,hw1⟩:=nmE (bE w x.af6 (.slice ak x.af3.length ck) (.slice al x.af7.length cl) (.slice ar x.af8.length cr));have aW:=afX hw1;have HX:=afY hw1;have H1:=hid (fun W=>fH x.af6 0 1048576 W);rw[p1] at H1;have HKs:=hid (fun(W:World) (hW:BL w W)=>LG x.af3 p5 _ S W (hk.keep (aA.below hW)));have LD:=hid (fun(W:World) (hW:BL w W)=>LH x.af7 p6 _ S W (dA.keep cE hl (aA.below hW)));have Il:=hid (fun(W:World) (hW:BL w W)=>LI x.af8 p7 _ S W (dA.keep dS hr (aA.below hW)));have Rq:=hid (fun(W:World) (hW:BL w W)=>Ik x Lr.1 Lr.2 _ S W (hv0.keep (aA.below hW)) (Kw.next hW));have HT:=hid Lr.2;unfold bE at hw1;have HW:=hid hw1;clear hx hv Kw hk hl hr p1 p5 p6 p7 hw1 hv0 Lr;have h2:¬(6:Int)<x.af3.length:=by omega
 have h3:¬(6:Int)<x.af7.length:=by omega
 have h4:¬(16:Int)<x.af8.length:=by omega
 generalize ah.Ep x=T at*;generalize x.af3.length=nk at*;generalize x.af7.length=nl at*;generalize x.af8.length=nr at*;generalize x.af6=ver at*;obtain⟨⟨y0,y1,y2,y3⟩, -⟩:=aO (HX.out w1 aj);go_enter Tryz.func129,Tryz.ntmps129;go_upto_region 1 with fail;rw[<-HW.out];go_wp2_with fail;refine(H1.out _).mono ?_;rintro e w' ⟨rfl,rfl⟩;go_wp2_with fail;refine(HKs.out _ aW.out).mono ?_;rintro e w2 ⟨rfl,hb⟩;have cU:=hid hb;have bB:=bq aW hb;clear hb y0 y1 y2 y3;obtain⟨⟨y0,y1,y2,y3⟩, -⟩:=aO (HX.out w2 cU.out);go_wp2_with fail;refine(LD.out _ bB.out).mono ?_;rintro e w3 ⟨rfl,hb⟩;have dD:=bq cU hb;have bG:=bq bB hb;clear hb y0 y1 y2 y3;obtain⟨⟨y0,y1,y2,y3⟩, -⟩:=aO (HX.out w3 dD.out);go_wp2_with fail;refine(Il.out _ bG.out).mono ?_;rintro e w4 ⟨rfl,hb⟩;have iQ:=bq dD hb;have dO:=bq bG hb;clear hb y0 y1 y2 y3;obtain⟨⟨y0,y1,y2,y3⟩, -⟩:=aO (HX.out w4 iQ.out);go_wp2_with fail;refine(Rq.out _ dO.out).mono ?_;rintro e w5 ⟨s,rfl,hs,hb⟩;have dP:=bq dO hb;have h8:¬(8192:Int)<s.size:=by have:=HT.out;omega
 clear hb hs y0 y1 y2 y3;go_wp2;go_ret;exact⟨rfl,dP.out⟩
theorem Iq(nm s:ByteArray)(lo hi:Int)(uf:Value)(b:Nat)(w:World)(hb:w.cell? ⟨b,0,none⟩=some (.string s)):
  Calls Tryz.prog 181 #[.agg #[.string nm,.int .i64 lo,.int .i64 hi,uf],.pointer (some ⟨b,0,none⟩)] w fun e w'=>e=.returned (.bool (decide (nm=s)))/\BL w w':=by
 have hz:b<w.heap.size:=zBl w _ hb;have HD:Hid ((nm.toList==s.toList)=decide (nm=s)):=hid GD;go_enter Tryz.func181,Tryz.ntmps181;go_wp2;go_ret;exact⟨by rw[<-HD.out];rfl,aj.alloc aB _⟩
theorem Fk(f:ah.cA)(s:ByteArray)(uw ug:Value)(b:Nat)(w:World)(hb:w.cell? ⟨b,0,none⟩=some (.string s)):
  Calls Tryz.prog 148 #[.agg (bX f uw ug).toArray,.pointer (some ⟨b,0,none⟩)] w fun e w'=>e=.returned (.bool (decide (f.name=s)))/\BL w w':=by
 have hz:b<w.heap.size:=zBl w _ hb;have HD:Hid ((f.name.toList==s.toList)=decide (f.name=s)):=hid GD;obtain⟨nm,o,up,k,lo,hi,ws,gs⟩:=f;simp only[bX] at HD ⊢;go_enter Tryz.func148,Tryz.ntmps148;go_wp2;go_ret;exact⟨by rw[<-HD.out];rfl,aj.alloc aB _⟩
theorem nJ(x:ah.bD)(s:ByteArray)(v:Value)(S:Nat->Prop)(w:World)(hv:eU S w v x):
  Calls Tryz.prog 145 #[v,.string s] w fun e w'=>e=.returned (.int .i64 (ah.bZ x s))/\BL w w':=by
 obtain⟨ak,ck,al,cl,ar,cr,rfl,hk,hl,hr,hsk,hsl,hsr⟩:=hv.form;obtain⟨w1,hw1⟩:=nmE ((bE w x.af6 (.slice ak x.af3.length ck) (.slice al x.af7.length cl) (.slice ar x.af8.length cr)).alloc (.cells #[.string s] 9));have aW:Hid (Below w.heap.size w w1):=hid (by rw[hw1];exact(aQ ..).alloc (aQ ..).size _);have HX:Hid (w1.heap[w.heap.size]?=some (.cells #[.int .i64 x.af6,.slice ak x.af3.length ck,.slice al x.af7.length cl,.slice ar x.af8.length cr] 27 (0,0))):=hid (by rw[hw1];exact aG _ (bf ..));have HC:Hid (w1.cell? ⟨w.heap.size+1,0,none⟩=some (.string s)):=hid (by rw[hw1];unfold bE;simp);have hz:w.heap.size+1<w1.heap.size:=by rw[hw1];simp[bE]
 have HK:=hid (Ph bY x.af3 (fun k:ah.dZ=>decide (k.name=s)) _ S w1 (hk.keep (aA.below aW.out)) 181 #[.pointer (some ⟨w.heap.size+1,0,none⟩)] (aZ Tryz.func181 (by kernel_rfl) rfl) (fun X hX j hj us _ hu=>by
  obtain⟨uf,rfl,h1⟩:=hu;exact Iq _ s _ _ uf _ X ((hX.cell (p:=⟨w.heap.size+1,0,none⟩) hz).trans HC.out)))
 have HI:Hid (ah.dw (fun k:ah.dZ=>decide (k.name=s)) x.af3 0=ah.bZ x s):=hid rfl;rw[HI.out] at HK;generalize ah.bZ x s=z at*;unfold bE at hw1;have HW:=hid hw1;clear hv hk hl hr hw1;obtain⟨⟨y0,y1,y2,y3⟩, -⟩:=aO HX.out;go_enter Tryz.func145,Tryz.ntmps145;go_upto_region 1 with fail;rw[<-HW.out];go_wp2_with fail;refine HK.out.mono ?_;rintro e w' ⟨rfl,hb⟩;have HB:=bq aW hb;clear hb;go_wp2;go_ret;exact⟨rfl,HB.out⟩
theorem jX(k:ah.dZ)(s:ByteArray)(uf:Value)(S:Nat->Prop)(w:World)(hv:dh S w uf k.af4):
  Calls Tryz.prog 111 #[.agg (kC k uf).toArray,.string s] w fun e w'=>e=.returned (.int .i64 (ah.aX k s))/\BL w w':=by
 obtain⟨af,cf,rfl,hsf, -, -⟩:=hv.form;obtain⟨w1,hw1⟩:=nmE ((w.alloc (.cells (kC k (.slice af k.af4.length cf)).toArray 102)).alloc (.cells #[.string s] 9));have aW:Hid (Below w.heap.size w w1):=hid (by rw[hw1];exact(aj.alloc aB _).alloc (by simp) _);have HX:Hid (w1.heap[w.heap.size]?=some (.cells (kC k (.slice af k.af4.length cf)).toArray 102 (0,0))):=hid (by rw[hw1];exact aG _ (aD w _ rfl));have HC:Hid (w1.cell? ⟨w.heap.size+1,0,none⟩=some (.string s)):=hid (by rw[hw1];simp);have hz:w.heap.size+1<w1.heap.size:=by rw[hw1];simp
 have HK:=hid (Pg aT k.af4 (fun f:ah.cA=>decide (f.name=s)) _ S w1 (hv.keep (aA.below aW.out)) 148 #[.pointer (some ⟨w.heap.size+1,0,none⟩)] (aZ Tryz.func148 (by kernel_rfl) rfl) (fun X hX j hj us _ hu=>by
  obtain⟨uw,ug,rfl,h1,h2⟩:=hu;exact Fk k.af4[j] s uw ug _ X ((hX.cell (p:=⟨w.heap.size+1,0,none⟩) hz).trans HC.out)))
 have HI:Hid (ah.dw (fun f:ah.cA=>decide (f.name=s)) k.af4 0=ah.aX k s):=hid rfl;rw[HI.out] at HK;generalize ah.aX k s=z at*;clear hv;obtain⟨nm,lo,hi,fs⟩:=k;simp only[kC] at hw1 HX HK ⊢;generalize fs.length=n at*;have HW:=hid hw1;clear hw1;obtain⟨⟨y0,y1,y2,y3⟩, -⟩:=aO HX.out;go_enter Tryz.func111,Tryz.ntmps111;go_upto_region 1 with fail;rw[<-HW.out];go_wp2_with fail;refine HK.out.mono ?_;rintro e w' ⟨rfl,hb⟩;have HB:=bq aW hb;clear hb;go_wp2;go_ret;exact⟨rfl,HB.out⟩
def jr(x:ah.bD)(i j:Int):ah.cA:=if ah.hasB x i j=true then ah.fd x i j else ah.sZ
def AtP(x:ah.bD)(i j:Int)(S:Nat->Prop)(w:World)(e:Ending)(w':World):Prop:=
 ∃a1 n1 c1 a2 n2 c2,e=.returned (.tuple #[.agg (bX (jr x i j) (.slice a1 n1 c1) (.slice a2 n2 c2)).toArray,.bool (ah.hasB x i j)])/\
  (∀W,BL w W->fL S W (.slice a1 n1 c1) (jr x i j).agb/\bO S W (.slice a2 n2 c2) (jr x i j).aga)/\BL w w'
theorem tY{w:World}{g:Nat}{x0 x1 x2 x3 x4 x5 x6 x7 bd:Value}{tmps:Array Value}(h:w.heap[g]?=some (.cells #[x0,x1,x2,x3,x4,x5,x6,x7] 117 (0,0)))(hp:tmps[6]?=some (.pointer (some ⟨g,0,none⟩)))(hq:tmps[7]?=some bd):
  (results Tryz.f144 tmps).run Tryz.prog w=.ok (.tuple #[.agg #[x0,x1,x2,x3,x4,x5,x6,x7],bd]) w:=by
 obtain⟨⟨h0,h1,h2,h3,h4,h5,h6,h7⟩, -⟩:=dn h;simp[results,Tryz.results144,go_sem,hp,hq,h0,h1,h2,h3,h4,h5,h6,h7]
theorem yK{x:ah.bD}{i j:Int}{S:Nat->Prop}{w w':World}(h:ah.hasB x i j=false)(hb:BL w w'):
  AtP x i j S w (.returned (.tuple #[.agg #[.string {data:=#[]},.string {data:=#[]},.string {data:=#[]},.int .i64 0,.int .i64 0,.int .i64 0,.slice none 0 0,.slice none 0 0],.bool false])) w':=by
 have e:jr x i j=ah.sZ:=by unfold jr;rw[h];rfl
 refine⟨none,0,0,none,0,0,?_,fun W _=>?_,hb⟩
 ·rw[e,h];rfl
 ·rw[e];exact⟨eX.nil _ _ _,eX.nil _ _ _⟩
theorem lg(x:ah.bD)(i j:Int)(v:Value)(S:Nat->Prop)(w:World)(hv:eU S w v x):
  Calls Tryz.prog 144 #[v,.int .i64 i,.int .i64 j] w (AtP x i j S w):=by
 obtain⟨ak,ck,al,cl,ar,cr,rfl,hk,hl,hr,hsk,hsl,hsr⟩:=hv.form;obtain⟨w1,hw1⟩:=nmE ((bE w x.af6 (.slice ak x.af3.length ck) (.slice al x.af7.length cl) (.slice ar x.af8.length cr)).alloc (.cells #[.string {data:=#[]},.string {data:=#[]},.string {data:=#[]},.int .i64 0,.int .i64 0,.int .i64 0,.slice none 0 0,.slice none 0 0] 117));have aW:Hid (Below w.heap.size w w1):=hid (by rw[hw1];exact(aQ ..).alloc (aQ ..).size _);have HX:Hid (w1.heap[w.heap.size]?=some (.cells #[.int .i64 x.af6,.slice ak x.af3.length ck,.slice al x.af7.length cl,.slice ar x.af8.length cr] 27 (0,0))):=hid (by rw[hw1];exact aG _ (bf ..));have HG:Hid (w1.heap[w.heap.size+1]?=some (.cells #[.string {data:=#[]},.string {data:=#[]},.string {data:=#[]},.int .i64 0,.int .i64 0,.int .i64 0,.slice none 0 0,.slice none 0 0] 117 (0,0))):=hid (by rw[hw1];exact aD _ _ (by simp[bE]));have HKn:=hid (hk.keep (aA.below aW.out));have Gh:=hid hk;unfold bE at hw1;have HW:=hid hw1
 have yJ:Hid (∀y0 y1 y2 y3 y4 y5 y6 y7:Value,BL w ((((((((w1.setCell ⟨w.heap.size+1,0,none⟩ y0).setCell ⟨w.heap.size+1,1,none⟩ y1).setCell ⟨w.heap.size+1,2,none⟩ y2).setCell ⟨w.heap.size+1,3,none⟩ y3).setCell ⟨w.heap.size+1,4,none⟩ y4).setCell ⟨w.heap.size+1,5,none⟩ y5).setCell ⟨w.heap.size+1,6,none⟩ y6).setCell ⟨w.heap.size+1,7,none⟩ y7)):=hid (fun y0 y1 y2 y3 y4 y5 y6 y7=>by
  have:=Gz HG.out y0 y1 y2 y3 y4 y5 y6 y7;exact aW.out.trans (Turns.below this.2 aW.out.size (fun b hb=>by omega)))
 clear hv hk hl hr hw1;obtain⟨⟨y0,y1,y2,y3⟩, -⟩:=aO HX.out;obtain⟨⟨g0,g1,g2,g3,g4,g5,g6,g7⟩,gf⟩:=dn HG.out;obtain⟨n,hn⟩:=nmE x.af3.length;have HN:=hid hn;rw[<-hn] at y1 hsk HKn Gh HX HW ⊢;clear hn;have hset:=fun y0 y1 y2 y3 y4 y5 y6 y7=>(Gz HG.out y0 y1 y2 y3 y4 y5 y6 y7).1;have Ir:=hid hset;clear hset;by_cases h1:i<0
 ·have HA:Hid (ah.hasB x i j=false):=hid (by unfold ah.hasB;rw[decide_eq_false (show ¬0<=i by omega)];rfl)
  go_enter Tryz.func144,Tryz.ntmps144;go_upto_region 1 with fail;rw[<-HW.out];go_wp2;exact bodyPost_ret (tY (Ir.out _ _ _ _ _ _ _ _) rfl rfl) rfl (yK HA.out (yJ.out _ _ _ _ _ _ _ _))
 ·by_cases h2:(n:Int)<=i
  ·have HA:Hid (ah.hasB x i j=false):=hid (by unfold ah.hasB;rw[decide_eq_false (show ¬i<x.af3.length by rw[<-HN.out];omega)];simp)
   go_enter Tryz.func144,Tryz.ntmps144;go_upto_region 1 with fail;rw[<-HW.out];go_wp2;exact bodyPost_ret (tY (Ir.out _ _ _ _ _ _ _ _) rfl rfl) rfl (yK HA.out (yJ.out _ _ _ _ _ _ _ _))
  ·by_cases h3:j<0
   ·have HA:Hid (ah.hasB x i j=false):=hid (by unfold ah.hasB;rw[decide_eq_false (show ¬0<=j by omega)];simp)
    go_enter Tryz.func144,Tryz.ntmps144;go_upto_region 1 with fail;rw[<-HW.out];go_wp2;exact bodyPost_ret (tY (Ir.out _ _ _ _ _ _ _ _) rfl rfl) rfl (yK HA.out (yJ.out _ _ _ _ _ _ _ _))
   ·obtain⟨m,rfl⟩:∃m:Nat,i=(m:Int):=⟨i.toNat,by omega⟩
    have hm:m<x.af3.length:=by rw[<-HN.out];omega
    have hm0:(0:Int)<=m:=by omega
    have hm1:(m:Int)<n:=by omega
    have HA:Hid (ah.hasB x m j=decide (j<(x.af3[m].af4.length:Int))):=hid (by
     unfold ah.hasB
     rw[decide_eq_true hm0,decide_eq_true (show (m:Int)<x.af3.length by rw[<-HN.out];omega),decide_eq_true (show 0<=j by omega),fM hm];rfl)
    obtain⟨lU, -, -, -, -,uf,v3,hf⟩:=Gh.out.at hm;obtain⟨a,cap,rfl,hsa, -, -⟩:=hf.form;have c3:=(aW.out.cell (p:=⟨aY ak,bC ak+m*4+3,none⟩) lU).trans v3;clear v3;by_cases h4:(x.af3[m].af4.length:Int)<=j
    ·have A7:Hid (ah.hasB x m j=false):=hid (by rw[HA.out];exact decide_eq_false (by omega))
     clear hf;generalize x.af3[m].af4.length=q at*;go_enter Tryz.func144,Tryz.ntmps144;go_upto_region 1 with fail;rw[<-HW.out];go_wp2;exact bodyPost_ret (tY (Ir.out _ _ _ _ _ _ _ _) rfl rfl) rfl (yK A7.out (yJ.out _ _ _ _ _ _ _ _))
    ·obtain⟨p,rfl⟩:∃p:Nat,j=(p:Int):=⟨j.toNat,by omega⟩
     have hp:p<x.af3[m].af4.length:=by omega
     have hp0:(0:Int)<=p:=by omega
     have hp1:(p:Int)<x.af3[m].af4.length:=by omega
     have A7:Hid (ah.hasB x m p=true):=hid (by rw[HA.out];exact decide_eq_true (by omega));have HF:Hid (jr x m p=x.af3[m].af4[p]):=hid (by unfold jr;rw[A7.out];exact rI hm hp);obtain⟨Gm, -,d0,d1,d2,d3,d4,d5,uw,ug,d6,d7,hu1,kL⟩:=hf.at hp;obtain⟨a1,n1,e1,rfl⟩:∃a n c,uw=.slice a n c:=by obtain⟨a,c,e, -⟩:=hu1.form;exact⟨_,_,_,e⟩
     obtain⟨a2,n2,e2,rfl⟩:∃a n c,ug=.slice a n c:=by obtain⟨a,c,e, -⟩:=kL.form;exact⟨_,_,_,e⟩
     have d0:=(aW.out.cell (p:=⟨aY a,bC a+p*8,none⟩) Gm).trans d0;have d1:=(aW.out.cell (p:=⟨aY a,bC a+p*8+1,none⟩) Gm).trans d1;have d2:=(aW.out.cell (p:=⟨aY a,bC a+p*8+2,none⟩) Gm).trans d2;have d3:=(aW.out.cell (p:=⟨aY a,bC a+p*8+3,none⟩) Gm).trans d3;have d4:=(aW.out.cell (p:=⟨aY a,bC a+p*8+4,none⟩) Gm).trans d4;have d5:=(aW.out.cell (p:=⟨aY a,bC a+p*8+5,none⟩) Gm).trans d5;have d6:=(aW.out.cell (p:=⟨aY a,bC a+p*8+6,none⟩) Gm).trans d6;have d7:=(aW.out.cell (p:=⟨aY a,bC a+p*8+7,none⟩) Gm).trans d7
     have xZ:Hid (∀w',BL w w'->AtP x m p S w (.returned (.tuple #[.agg (bX x.af3[m].af4[p] (.slice a1 n1 e1) (.slice a2 n2 e2)).toArray,.bool true])) w'):=hid (fun w' hb=>
      ⟨a1,n1,e1,a2,n2,e2,by rw[HF.out,A7.out],fun W hW=>by rw[HF.out];exact⟨hu1.keep (aA.below hW),kL.keep (aA.below hW)⟩,hb⟩)
     clear hf hu1 kL;generalize x.af3[m].af4[p]=f at*;obtain⟨fn1,fo,fu,fk,fl,fh,Gj,Gl⟩:=f;simp only[bX] at xZ;simp only at d0 d1 d2 d3 d4 d5;clear hp;generalize x.af3[m].af4.length=q at*;go_enter Tryz.func144,Tryz.ntmps144;go_upto_region 1 with fail;rw[<-HW.out];go_wp2;exact bodyPost_ret (tY (Ir.out _ _ _ _ _ _ _ _) rfl rfl) rfl (xZ.out _ (yJ.out _ _ _ _ _ _ _ _))
theorem Ya{x:ah.bD}{i j:Int}(h:ah.hasB x i j=false):ah.dB x i j= -1:=by unfold ah.dB;rw[h];rfl
theorem LJ{x:ah.bD}{i j:Int}(h:ah.hasB x i j=true)(h7:¬(ah.fd x i j).kind=7)(h8:¬(ah.fd x i j).kind=8)(h1:¬(ah.fd x i j).kind=1):ah.dB x i j= -1:=by
 unfold ah.dB;rw[if_pos h];simp only;rw[if_neg (by omega),if_neg h1]
theorem Fl{x:ah.bD}{i j:Int}(h:ah.hasB x i j=true)(h1:(ah.fd x i j).kind=1):ah.dB x i j=ah.qW x i (ah.fd x i j):=by
 unfold ah.dB;rw[if_pos h];simp only;rw[if_neg (by omega),if_pos h1]
theorem LK{x:ah.bD}{i j:Int}(h:ah.hasB x i j=true)(h7:(ah.fd x i j).kind=7\/(ah.fd x i j).kind=8):ah.dB x i j=if ah.hasB x i (ah.aX (ah.kd x i) (ah.fd x i j).up)=true/\ah.aX (ah.kd x i) (ah.fd x i j).up<j/\(ah.fd x i (ah.aX (ah.kd x i) (ah.fd x i j).up)).kind=1 then ah.qW x i (ah.fd x i (ah.aX (ah.kd x i) (ah.fd x i j).up)) else -1:=by
 unfold ah.dB;rw[if_pos h];simp only;rw[if_pos h7]
theorem tZ{x:ah.bD}{i j:Int}(h:ah.hasB x i j=true):jr x i j=ah.fd x i j:=by unfold jr;rw[if_pos h]
theorem Ky(x:ah.bD)(i j:Int)(h7:¬(jr x i j).kind=7)(h8:¬(jr x i j).kind=8)(v:Value)(S:Nat->Prop)(w:World)(hv:eU S w v x):
  Calls Tryz.prog 109 #[v,.int .i64 i,.int .i64 j] w fun e w'=>e=.returned (.int .i64 (ah.dB x i j))/\BL w w':=by
 obtain⟨ak,ck,al,cl,ar,cr,rfl,hk,hl,hr,hsk,hsl,hsr⟩:=hv.form;have HV:=hid (fun(W:World) (hW:BL w W)=>hv.keep (aA.below hW));have Gh:=hid hk;obtain⟨w1,hw1⟩:=nmE (bE w x.af6 (.slice ak x.af3.length ck) (.slice al x.af7.length cl) (.slice ar x.af8.length cr));have aW:=afX hw1;have HX:=afY hw1;unfold bE at hw1;have HW:=hid hw1;clear hv hk hl hr hw1;obtain⟨⟨y0,y1,y2,y3⟩, -⟩:=aO (HX.out w1 aj);cases hb:ah.hasB x i j with
 |false=>
  have HE:=hid (Ya hb)
  go_enter Tryz.func109,Tryz.ntmps109
  go_upto_region 1 with fail
  rw[<-HW.out]
  go_wp2_with fail
  refine(lg x i j _ S w1 (HV.out w1 aW.out)).mono ?_
  rintro e w2 ⟨a1,n1,c1,a2,n2,c2,rfl, -,hb2⟩
  have cU:Hid (BL w1 w2):=hid hb2
  have bB:=bq aW hb2
  clear hb2 y0 y1 y2 y3
  rw[hb]
  clear hb
  have HBf:Hid (∀o,BL w (w2.alloc o)):=hid fun o=>bB.out.alloc bB.out.size _
  generalize jr x i j=f at*
  obtain⟨fn1,fo,fu,fk,fl,fh,Gj,Gl⟩:=f
  simp only[bX]
  go_wp2
  go_ret
  exact⟨by rw[HE.out];rfl,HBf.out _⟩
 |true=>
  have hat:=tZ hb
  by_cases h1:(jr x i j).kind=1
  ·have HE:Hid (ah.dB x i j=ah.qW x i (jr x i j)):=hid (by rw[hat] at h1 ⊢;exact Fl hb h1)
   go_enter Tryz.func109,Tryz.ntmps109;go_upto_region 1 with fail;rw[<-HW.out];go_wp2_with fail;refine(lg x i j _ S w1 (HV.out w1 aW.out)).mono ?_;rintro e w2 ⟨a1,n1,c1,a2,n2,c2,rfl, -,hb2⟩;have cU:Hid (BL w1 w2):=hid hb2;have bB:=bq aW hb2;clear hb2 y0 y1 y2 y3;rw[hb];clear hb hat;obtain⟨f,hf⟩:=nmE (jr x i j);rw[<-hf];have HF:=hid hf;clear hf;obtain⟨w3,hw3⟩:=nmE (w2.alloc (.cells (bX f (.slice a1 n1 c1) (.slice a2 n2 c2)).toArray 117));have dD:Hid (Below w1.heap.size w1 w3):=hid (by rw[hw3];exact cU.out.alloc cU.out.size _);have bG:Hid (Below w.heap.size w w3):=hid (by rw[hw3];exact bB.out.alloc bB.out.size _);have rH:Hid (w3.heap[w2.heap.size]?=some (.cells (bX f (.slice a1 n1 c1) (.slice a2 n2 c2)).toArray 117 (0,0))):=hid (by rw[hw3];exact aD w2 _ rfl);have HW3:=hid hw3;clear hw3;rw[<-HF.out] at h1 h7 h8 HE;obtain⟨fn1,fo,fu,fk,fl,fh,Gj,Gl⟩:=f;simp only[bX] at rH HW3 ⊢;obtain⟨⟨u0,u1,u2,u3,u4,u5,u6,u7⟩, -⟩:=dn rH.out;obtain⟨⟨y0,y1,y2,y3⟩, -⟩:=aO (HX.out w3 dD.out);simp only at h1 h7 h8;subst h1;have yg:=hid (nJ x fo _ S w3 (HV.out w3 bG.out));have HR:Hid (ah.dB x i j=if ah.bZ x fo<i then ah.bZ x fo else -1):=hid (by rw[HE.out];rfl);have hkr: -1<=ah.bZ x fo:=ah.iI _ _ _;generalize ah.bZ x fo=kz at*;go_upto_region 2 with fail;rw[<-HW3.out];go_wp2_with fail;refine yg.out.mono ?_;rintro e w4 ⟨rfl,hb4⟩;have dO:=bq bG hb4;clear hb4;by_cases hlt:kz<i
   ·have Cy:Hid (ah.dB x i j=kz):=hid (by rw[HR.out,if_pos hlt])
    go_wp2;go_ret;exact⟨by rw[Cy.out];rfl,dO.out⟩
   ·have Cy:Hid (ah.dB x i j= -1):=hid (by rw[HR.out,if_neg hlt])
    go_wp2;go_ret;exact⟨by rw[Cy.out];rfl,dO.out⟩
  ·have HE:Hid (ah.dB x i j= -1):=hid (by rw[hat] at h1 h7 h8;exact LJ hb h7 h8 h1)
   go_enter Tryz.func109,Tryz.ntmps109;go_upto_region 1 with fail;rw[<-HW.out];go_wp2_with fail;refine(lg x i j _ S w1 (HV.out w1 aW.out)).mono ?_;rintro e w2 ⟨a1,n1,c1,a2,n2,c2,rfl, -,hb2⟩;have cU:Hid (BL w1 w2):=hid hb2;have bB:=bq aW hb2;clear hb2 y0 y1 y2 y3;rw[hb];clear hb hat;obtain⟨f,hf⟩:=nmE (jr x i j);rw[<-hf];have HF:=hid hf;clear hf;obtain⟨w3,hw3⟩:=nmE (w2.alloc (.cells (bX f (.slice a1 n1 c1) (.slice a2 n2 c2)).toArray 117));have dD:Hid (Below w1.heap.size w1 w3):=hid (by rw[hw3];exact cU.out.alloc cU.out.size _);have bG:Hid (Below w.heap.size w w3):=hid (by rw[hw3];exact bB.out.alloc bB.out.size _);have rH:Hid (w3.heap[w2.heap.size]?=some (.cells (bX f (.slice a1 n1 c1) (.slice a2 n2 c2)).toArray 117 (0,0))):=hid (by rw[hw3];exact aD w2 _ rfl);have HW3:=hid hw3;clear hw3;rw[<-HF.out] at h1 h7 h8;obtain⟨fn1,fo,fu,fk,fl,fh,Gj,Gl⟩:=f;simp only[bX] at rH HW3 ⊢;obtain⟨⟨u0,u1,u2,u3,u4,u5,u6,u7⟩, -⟩:=dn rH.out;obtain⟨⟨y0,y1,y2,y3⟩, -⟩:=aO (HX.out w3 dD.out);simp only at h1 h7 h8;have e1:(fk==7)=false:=by simpa using h7
   have e2:(fk==8)=false:=by simpa using h8
   have e3:(fk !=1)=true:=by simpa using h1
   go_upto_region 2 with fail;rw[<-HW3.out];go_wp2;go_ret;exact⟨by rw[HE.out];rfl,bG.out⟩
theorem DP(x:ah.bD)(i j:Int)(v:Value)(S:Nat->Prop)(w:World)(hv:eU S w v x):
  Calls Tryz.prog 109 #[v,.int .i64 i,.int .i64 j] w fun e w'=>e=.returned (.int .i64 (ah.dB x i j))/\BL w w':=by
 by_cases hsh:(jr x i j).kind=7\/(jr x i j).kind=8
 ·have hb:ah.hasB x i j=true:=by
   cases hb:ah.hasB x i j
   ·unfold jr at hsh
    rw[hb] at hsh;simp[ah.sZ] at hsh
   ·rfl
  have hat:=tZ hb;obtain⟨m,p,rfl,rfl,hm,hp⟩:=ER hb
  have hUp:ah.dB x (m:Int) (p:Int)=if ah.hasB x m (ah.aX (ah.kd x m) (jr x m p).up)=true/\ah.aX (ah.kd x m) (jr x m p).up<p/\(ah.fd x m (ah.aX (ah.kd x m) (jr x m p).up)).kind=1 then ah.qW x m (ah.fd x m (ah.aX (ah.kd x m) (jr x m p).up)) else -1:=by
   rw[hat] at hsh ⊢;exact LK hb hsh
  have PU:=hid hUp;clear hUp;obtain⟨ak,ck,al,cl,ar,cr,rfl,hk,hl,hr,hsk,hsl,hsr⟩:=hv.form;have HV:=hid (fun(W:World) (hW:BL w W)=>hv.keep (aA.below hW));have Gh:=hid hk;obtain⟨w1,hw1⟩:=nmE (bE w x.af6 (.slice ak x.af3.length ck) (.slice al x.af7.length cl) (.slice ar x.af8.length cr));have aW:=afX hw1;have HX:=afY hw1;unfold bE at hw1;have HW:=hid hw1;clear hv hk hl hr hw1;obtain⟨⟨y0,y1,y2,y3⟩, -⟩:=aO (HX.out w1 aj);obtain⟨lU, -,k0,k1,k2,uf,k3,nU⟩:=Gh.out.at hm;obtain⟨af,cf,rfl, -, -, -⟩:=nU.form
  have sS:Hid (∀W,BL w W->W.cell? ⟨aY ak,bC ak+m*4,none⟩=some (.string x.af3[m].name)/\W.cell? ⟨aY ak,bC ak+m*4+1,none⟩=some (.int .i64 x.af3[m].lo)/\W.cell? ⟨aY ak,bC ak+m*4+2,none⟩=some (.int .i64 x.af3[m].hi)/\W.cell? ⟨aY ak,bC ak+m*4+3,none⟩=some (.slice af x.af3[m].af4.length cf)):=hid (fun W hW=>
   ⟨(hW.cell (p:=⟨aY ak,bC ak+m*4,none⟩) lU).trans k0,(hW.cell (p:=⟨aY ak,bC ak+m*4+1,none⟩) lU).trans k1,(hW.cell (p:=⟨aY ak,bC ak+m*4+2,none⟩) lU).trans k2,(hW.cell (p:=⟨aY ak,bC ak+m*4+3,none⟩) lU).trans k3⟩)
  have Iu:=hid (fun(s:ByteArray) (W:World) (hW:BL w W)=>jX x.af3[m] s _ S W (nU.keep (aA.below hW)));rw[<-fM hm] at Iu;have hm0:(0:Int)<=m:=by omega
  have hm1:(m:Int)<x.af3.length:=by omega
  have HNk:Hid ((ah.kd x m).af4.length=x.af3[m].af4.length):=hid (by rw[fM hm]);clear k0 k1 k2 k3 nU;go_enter Tryz.func109,Tryz.ntmps109;go_upto_region 1 with fail;rw[<-HW.out];go_wp2_with fail;refine(lg x (m:Int) (p:Int) _ S w1 (HV.out w1 aW.out)).mono ?_;rintro e w2 ⟨a1,n1,c1,a2,n2,c2,rfl, -,hb2⟩;have cU:Hid (BL w1 w2):=hid hb2;have bB:=bq aW hb2;clear hb2 y0 y1 y2 y3;rw[hb];clear hb hat;obtain⟨f,hf⟩:=nmE (jr x (m:Int) (p:Int));rw[<-hf];have HF:=hid hf;clear hf;obtain⟨w3,hw3⟩:=nmE (w2.alloc (.cells (bX f (.slice a1 n1 c1) (.slice a2 n2 c2)).toArray 117));have dD:Hid (Below w1.heap.size w1 w3):=hid (by rw[hw3];exact cU.out.alloc cU.out.size _);have bG:Hid (Below w.heap.size w w3):=hid (by rw[hw3];exact bB.out.alloc bB.out.size _);have rH:Hid (w3.heap[w2.heap.size]?=some (.cells (bX f (.slice a1 n1 c1) (.slice a2 n2 c2)).toArray 117 (0,0))):=hid (by rw[hw3];exact aD w2 _ rfl);have HW3:=hid hw3;clear hw3;rw[<-HF.out] at hsh PU;obtain⟨fn1,fo,fu,fk,fl,fh,Gj,Gl⟩:=f;simp only[bX] at rH HW3 ⊢;obtain⟨⟨u0,u1,u2,u3,u4,u5,u6,u7⟩, -⟩:=dn rH.out;obtain⟨⟨y0,y1,y2,y3⟩, -⟩:=aO (HX.out w3 dD.out);simp only at hsh PU;obtain⟨uz,Vx⟩:=nmE (ah.aX (ah.kd x m) fu);have Hv: -1<=uz:=by rw[Vx];exact ah.iI _ _ _
  rw[<-Vx] at PU;have uX:=hid (fun(X:lK w3)=>Calls.nX (x:=X) (Iu.out fu X.1 (tnB bG.out X.2)));rw[<-Vx] at uX;clear Vx;have hzw:w2.heap.size<w3.heap.size:=ay rH.out;have hzw0:w.heap.size<w3.heap.size:=ay (HX.out w3 dD.out);have hzka:aY ak<w3.heap.size:=by have:=bG.out.size;omega
  obtain⟨Tq,Tr,Ts,Tt⟩:=sS.out w3 bG.out
  have hd:∀k,k=fk->(k==7||k==8)=true:=fun k e=>by
   subst e;rcases hsh with h|h<;>rw[h]<;>rfl
  have yL:Hid (fk=7\/fk=8):=hid hsh;clear hsh hd;generalize (ah.kd x m).name=kn at*;rw[fM hm] at uX;obtain⟨kdd,hkd⟩:=nmE (x.af3[m]);rw[<-hkd] at uX Tq Tr Ts Tt;clear hkd;obtain⟨kn2,CU,CV,Bt⟩:=kdd;simp only[kC] at uX;simp only at Tq Tr Ts Tt;generalize Bt.length=nf at*;have go5:∀(Q:Prop),(fk=7->Q)->(fk=8->Q)->Q:=fun Q h1 h2=>yL.out.elim h1 h2;refine go5 _ ?_ ?_
  all_goals
   intro PV
   subst PV
   clear go5
   go_upto_region 2 with fail
   rw[<-HW3.out]
   go_wp2
   have hg:=lK.cell (w:=w3)
   refine eP (by kernel_rfl) (by kernel_rfl) ?_
   repeat (go_big_quiet_step ((exact uX.out _)))
   refine zWq ?_
   intro w4 hx
   have hb4:=jR hx
   have iQ:=bq dD hb4
   have dO:=bq bG hb4
   clear hx hg hb4 y0 y1 y2 y3 u0 u1 u2 u3 u4 u5 u6 u7 Tq Tr Ts Tt
   obtain⟨⟨y0,y1,y2,y3⟩, -⟩:=aO (HX.out w4 iQ.out)
   go_wp2_with fail
   refine(lg x (m:Int) uz _ S w4 (HV.out w4 dO.out)).mono ?_
   rintro e w5 ⟨b1,m1,d1,b2,m2,d2,rfl, -,gL⟩
   have fS:=bq iQ gL
   have dP:=bq dO gL
   clear gL y0 y1 y2 y3
   cases hb2:ah.hasB x (m:Int) uz with
   |false=>
    have HE:Hid (ah.dB x (m:Int) (p:Int)= -1):=hid (by rw[PU.out,if_neg (by rw[hb2];simp)])
    clear hb2
    obtain⟨f2,hf2⟩:=nmE (jr x (m:Int) uz)
    rw[<-hf2]
    have uU:=hid hf2
    clear hf2
    obtain⟨w6,jf⟩:=nmE (w5.alloc (.cells (bX f2 (.slice b1 m1 d1) (.slice b2 m2 d2)).toArray 117))
    have qJ:Hid (Below w1.heap.size w1 w6):=hid (by rw[jf];exact fS.out.alloc fS.out.size _)
    have jC:Hid (Below w.heap.size w w6):=hid (by rw[jf];exact dP.out.alloc dP.out.size _)
    have Bk:Hid (w6.heap[w5.heap.size]?=some (.cells (bX f2 (.slice b1 m1 d1) (.slice b2 m2 d2)).toArray 117 (0,0))):=hid (by rw[jf];exact aD w5 _ rfl)
    have CT:=hid jf
    clear jf
    obtain⟨gn1,go,gu,gk,gl,gh,Gn,ggs⟩:=f2
    simp only[bX] at Bk CT ⊢
    obtain⟨⟨u0,u1,u2,u3,u4,u5,u6,u7⟩, -⟩:=dn Bk.out
    obtain⟨⟨y0,y1,y2,y3⟩, -⟩:=aO (HX.out w6 qJ.out)
    go_upto_region 7 with fail
    rw[<-CT.out]
    go_wp2
    go_ret
    exact⟨by rw[HE.out];rfl,jC.out⟩
   |true=>
    have Fm:=tZ hb2
    by_cases hlt:uz<(p:Int)
    ·by_cases h1:(jr x (m:Int) uz).kind=1
     ·have HE:Hid (ah.dB x (m:Int) (p:Int)=ah.dB x (m:Int) uz):=hid (by
       have h1':=h1
       rw[Fm] at h1'
       rw[PU.out,if_pos ⟨hb2,hlt,h1'⟩,Fl hb2 h1'])
      have Ss:=hid (fun W (hW:BL w W)=>Ky x (m:Int) uz (by omega) (by omega) _ S W (HV.out W hW));clear hb2 Fm;obtain⟨f2,hf2⟩:=nmE (jr x (m:Int) uz);rw[<-hf2];have uU:=hid hf2;rw[<-hf2] at h1;clear hf2;obtain⟨w6,jf⟩:=nmE (w5.alloc (.cells (bX f2 (.slice b1 m1 d1) (.slice b2 m2 d2)).toArray 117));have qJ:Hid (Below w1.heap.size w1 w6):=hid (by rw[jf];exact fS.out.alloc fS.out.size _);have jC:Hid (Below w.heap.size w w6):=hid (by rw[jf];exact dP.out.alloc dP.out.size _);have Bk:Hid (w6.heap[w5.heap.size]?=some (.cells (bX f2 (.slice b1 m1 d1) (.slice b2 m2 d2)).toArray 117 (0,0))):=hid (by rw[jf];exact aD w5 _ rfl);have CT:=hid jf;clear jf;obtain⟨gn1,go,gu,gk,gl,gh,Gn,ggs⟩:=f2;simp only[bX] at Bk CT ⊢;obtain⟨⟨u0,u1,u2,u3,u4,u5,u6,u7⟩, -⟩:=dn Bk.out;obtain⟨⟨y0,y1,y2,y3⟩, -⟩:=aO (HX.out w6 qJ.out);go_upto_region 7 with fail;rw[<-CT.out];simp only at h1;subst h1;have HU6:=hid (Ss.out w6 jC.out);generalize ah.dB x (m:Int) uz=rz at*;go_wp2_with fail;refine HU6.out.mono ?_;rintro e w7 ⟨rfl,jM⟩;have kN:=bq jC jM;clear jM;go_wp2;go_ret;exact⟨by rw[HE.out];rfl,kN.out⟩
     ·have HE:Hid (ah.dB x (m:Int) (p:Int)= -1):=hid (by
       have h1':=h1
       rw[Fm] at h1'
       rw[PU.out,if_neg (fun h=>h1' h.2.2)])
      clear hb2 Fm;obtain⟨f2,hf2⟩:=nmE (jr x (m:Int) uz);rw[<-hf2];have uU:=hid hf2;rw[<-hf2] at h1;clear hf2;obtain⟨w6,jf⟩:=nmE (w5.alloc (.cells (bX f2 (.slice b1 m1 d1) (.slice b2 m2 d2)).toArray 117));have qJ:Hid (Below w1.heap.size w1 w6):=hid (by rw[jf];exact fS.out.alloc fS.out.size _);have jC:Hid (Below w.heap.size w w6):=hid (by rw[jf];exact dP.out.alloc dP.out.size _);have Bk:Hid (w6.heap[w5.heap.size]?=some (.cells (bX f2 (.slice b1 m1 d1) (.slice b2 m2 d2)).toArray 117 (0,0))):=hid (by rw[jf];exact aD w5 _ rfl);have CT:=hid jf;clear jf;obtain⟨gn1,go,gu,gk,gl,gh,Gn,ggs⟩:=f2;simp only[bX] at Bk CT ⊢;obtain⟨⟨u0,u1,u2,u3,u4,u5,u6,u7⟩, -⟩:=dn Bk.out;obtain⟨⟨y0,y1,y2,y3⟩, -⟩:=aO (HX.out w6 qJ.out);go_upto_region 7 with fail;rw[<-CT.out];simp only at h1;have e1:(gk==1)=false:=by simpa using h1
      go_wp2;go_ret;exact⟨by rw[HE.out];rfl,jC.out⟩
    ·have HE:Hid (ah.dB x (m:Int) (p:Int)= -1):=hid (by rw[PU.out,if_neg (fun h=>hlt h.2.1)])
     clear hb2 Fm;obtain⟨f2,hf2⟩:=nmE (jr x (m:Int) uz);rw[<-hf2];have uU:=hid hf2;clear hf2;obtain⟨w6,jf⟩:=nmE (w5.alloc (.cells (bX f2 (.slice b1 m1 d1) (.slice b2 m2 d2)).toArray 117));have qJ:Hid (Below w1.heap.size w1 w6):=hid (by rw[jf];exact fS.out.alloc fS.out.size _);have jC:Hid (Below w.heap.size w w6):=hid (by rw[jf];exact dP.out.alloc dP.out.size _);have Bk:Hid (w6.heap[w5.heap.size]?=some (.cells (bX f2 (.slice b1 m1 d1) (.slice b2 m2 d2)).toArray 117 (0,0))):=hid (by rw[jf];exact aD w5 _ rfl);have CT:=hid jf;clear jf;obtain⟨gn1,go,gu,gk,gl,gh,Gn,ggs⟩:=f2;simp only[bX] at Bk CT ⊢;obtain⟨⟨u0,u1,u2,u3,u4,u5,u6,u7⟩, -⟩:=dn Bk.out;obtain⟨⟨y0,y1,y2,y3⟩, -⟩:=aO (HX.out w6 qJ.out);go_upto_region 7 with fail;rw[<-CT.out];go_wp2;go_ret;exact⟨by rw[HE.out];rfl,jC.out⟩
 ·exact Ky x i j (fun h=>hsh (.inl h)) (fun h=>hsh (.inr h)) v S w hv
theorem vG(n:Nat)(cs:Nat->Int)(g cap:Nat)(w:World)(hn:n<=100)(hg:g<w.heap.size)(hc:∀i,i<n->w.cell? ⟨g,i*2,none⟩=some (.bool false)/\w.cell? ⟨g,i*2+1,none⟩=some (.int .i64 (cs i))):
  Calls Tryz.prog 133 #[.slice (some ⟨g,0,none⟩) n cap] w fun e w'=>e=.returned (.int .i64 0)/\BL w w':=by
 have HC:=hid hc;have HG:=hid hg;have hok:dG (some ⟨g,0,none⟩) n:=fun _=>⟨_,_,rfl⟩;clear hc hg;go_enter Tryz.func133,Tryz.ntmps133;go_wp2;go_loopw [7] (fun i wr=>∃k:Nat,k<=n/\i=.int .i64 k/\Hid (BL w wr)) (fun i _=>n-(intOf i).toNat);case atStart=>exact⟨0,Nat.zero_le _,rfl,hid aj⟩
 case round=>
  obtain⟨k,hk,rfl,hb⟩:=hrel;by_cases hlt:k<n
  ·have hk0:(0:Int)<=(k:Int):=by omega
   have hk1:(k:Int)<(n:Int):=by omega
   have y0:wr.cell? ⟨g,k*2,none⟩=some (.bool false):=(hb.out.cell (p:=⟨g,k*2,none⟩) HG.out).trans (HC.out k hlt).1;have y1:wr.cell? ⟨g,k*2+1,none⟩=some (.int .i64 (cs k)):=(hb.out.cell (p:=⟨g,k*2+1,none⟩) HG.out).trans (HC.out k hlt).2;have bB:Hid (∀o,BL w (wr.alloc o)):=hid fun o=>hb.out.alloc hb.out.size _;go_wp2;go_roundw;case rel=>exact⟨k+1,by omega,by go_num,hid (bB.out _)⟩
   simp[intOf];omega
  ·obtain rfl:k=n:=by omega
   go_wp2;go_ret;exact⟨rfl,hb.out⟩
def PW(x:ah.bD)(i o:Int)(s:ah.Nm)(k:Nat):List Int:=
 ((List.range k).map fun j:Nat=>(j:Int)).filter fun j=>decide ((ah.fd x o j).kind=7)&&decide ((ah.fd x o j).of=s)&&decide (ah.dB x o j=i)
theorem Fo(x:ah.bD)(i o:Int)(s:ah.Nm)(k:Nat):PW x i o s (k+1)=PW x i o s k++(if (decide ((ah.fd x o k).kind=7)&&decide ((ah.fd x o k).of=s)&&decide (ah.dB x o k=i))=true then [(k:Int)] else []):=by
 unfold PW;rw[List.range_succ,List.map_append,List.filter_append];congr 1;simp only[List.map_cons,List.map_nil,List.filter_cons,List.filter_nil]
theorem Yb{x:ah.bD}{i o:Int}{s:ah.Nm}{k:Nat}(h:¬((ah.fd x o k).kind=7/\(ah.fd x o k).of=s/\ah.dB x o k=i)):PW x i o s (k+1)=PW x i o s k:=by
 rw[Fo,if_neg,List.append_nil];simp only[zBa,zDt,and_assoc];exact h
theorem Tv{x:ah.bD}{i o:Int}{s:ah.Nm}{k:Nat}(h:(ah.fd x o k).kind=7/\(ah.fd x o k).of=s/\ah.dB x o k=i):PW x i o s (k+1)=PW x i o s k++[(k:Int)]:=by
 rw[Fo,if_pos];simp only[zBa,zDt,and_assoc];exact h
def qN(x:ah.bD)(i:Int)(f:ah.cA)(w:World)(e:Ending)(w':World):Prop:=
 ∃a cap,e=.returned (.tuple #[.int .i64 (ah.eY x i f),.slice a (ah.eZ x i f).length cap])/\cF (w.heap.size<=·) w' (.slice a (ah.eZ x i f).length cap) (ah.eZ x i f)/\BL w w'
theorem Fp{x:ah.bD}{i:Int}{f:ah.cA}{w w':World}(h:ah.eY x i f= -1)(hb:BL w w'):
  qN x i f w (.returned (.tuple #[.int .i64 (-1),.slice none 0 0])) w':=by
 have e:ah.eZ x i f=[]:=by unfold ah.eZ;rw[h];rfl
 refine⟨none,0,?_,?_,hb⟩
 ·rw[h,e];rfl
 ·rw[e];exact cF.nil _ _
theorem zR(x:ah.bD)(i:Int)(hi:0<=i)(f:ah.cA)(v uw ug:Value)(S:Nat->Prop)(w:World)(hv:eU S w v x)(h6:x.af3.length<=1000)(h10:∀k∈x.af3,k.af4.length<=1000):
  Calls Tryz.prog 146 #[v,.int .i64 i,.agg (bX f uw ug).toArray] w (qN x i f w):=by
 obtain⟨ak,ck,al,cl,ar,cr,rfl,hk,hl,hr,hsk,hsl,hsr⟩:=hv.form;have HV:=hid (fun(W:World) (hW:BL w W)=>hv.keep (aA.below hW));have Gh:=hid hk;obtain⟨w1,hw1⟩:=nmE ((bE w x.af6 (.slice ak x.af3.length ck) (.slice al x.af7.length cl) (.slice ar x.af8.length cr)).alloc (.cells (bX f uw ug).toArray 117));have aW:Hid (Below w.heap.size w w1):=hid (by rw[hw1];exact(aQ ..).alloc (aQ ..).size _);have HX:Hid (∀W,BL w1 W->W.heap[w.heap.size]?=some (.cells #[.int .i64 x.af6,.slice ak x.af3.length ck,.slice al x.af7.length cl,.slice ar x.af8.length cr] 27 (0,0))):=hid (fun W hW=>(hW.block _ (by rw[hw1];simp[bE];omega)).trans (by rw[hw1];exact aG _ (bf ..)));have HF:Hid (∀W,BL w1 W->W.heap[w.heap.size+1]?=some (.cells (bX f uw ug).toArray 117 (0,0))):=hid (fun W hW=>(hW.block _ (by rw[hw1];simp[bE])).trans (by rw[hw1];exact aD _ _ (by simp[bE])));unfold bE at hw1;have HW:=hid hw1;clear hv hk hl hr hw1;have yg:=hid (nJ x f.of _ S w1 (HV.out w1 aW.out));have HO:Hid (ah.eY x i f=if f.kind=6/\i<ah.bZ x f.of then ah.bZ x f.of else -1):=hid rfl;have Iw:Hid (ah.eZ x i f=if ah.eY x i f<0 then [] else ah.nZ x i (ah.eY x i f) f.name):=hid rfl;have hkr: -1<=ah.bZ x f.of:=ah.iI _ _ _
 have hkl:ah.bZ x f.of<x.af3.length:=by
  rcases jF (fun k:ah.dZ=>decide (k.name=f.of)) x.af3 with h|h
  ·exact h
  ·unfold ah.bZ;rw[h];omega
 have VB:=hid (fun(w':World) (h:ah.eY x i f= -1) (hb:BL w w')=>Fp h hb);have HSP:Hid (∀e w',(∃a cap,e=.returned (.tuple #[.int .i64 (ah.eY x i f),.slice a (ah.eZ x i f).length cap])/\cF (w.heap.size<=·) w' (.slice a (ah.eZ x i f).length cap) (ah.eZ x i f)/\BL w w')->qN x i f w e w'):=hid (fun _ _ h=>h);refine Calls.mono (R:=fun e w'=>Hid (qN x i f w e w')) ?_ (fun _ _ h=>h.out);generalize qN x i f w=SP at*;generalize ah.eY x i f=oi at*;generalize ah.eZ x i f=sl at*;generalize ah.bZ x f.of=ki at*;obtain⟨fn,fo,fu,fk,fl,fh,Gj,Gl⟩:=f;simp only[bX] at HF HW HO Iw yg ⊢;obtain⟨⟨y0,y1,y2,y3⟩, -⟩:=aO (HX.out w1 aj);obtain⟨⟨z0,z1,z2,z3,z4,z5,z6,z7⟩, -⟩:=dn (HF.out w1 aj);go_enter Tryz.func146,Tryz.ntmps146;go_upto_region 1 with fail;rw[<-HW.out];go_wp2_with fail;refine yg.out.mono ?_;rintro e w2 ⟨rfl,hb2⟩;have cU:Hid (BL w1 w2):=hid hb2;have bB:=bq aW hb2;clear hb2 y0 y1 y2 y3 z0 z1 z2 z3 z4 z5 z6 z7;obtain⟨⟨y0,y1,y2,y3⟩, -⟩:=aO (HX.out w2 cU.out);obtain⟨⟨z0,z1,z2,z3,z4,z5,z6,z7⟩, -⟩:=dn (HF.out w2 cU.out);by_cases hf6:fk=6
 ·by_cases hlt:i<ki
  ·subst hf6
   obtain⟨o,rfl⟩:∃o:Nat,ki=(o:Int):=⟨ki.toNat,by omega⟩;have ho:o<x.af3.length:=by omega
   have zu:Hid (oi=(o:Int)):=hid (by rw[HO.out,if_pos ⟨rfl,hlt⟩]);have xU:Hid (sl=PW x i o fn (ah.kd x o).af4.length):=hid (by rw[Iw.out,zu.out,if_neg (by omega)];rfl);clear HO Iw;obtain⟨lU, -,k0,k1,k2,uf,k3,nU⟩:=Gh.out.at ho;have Kl:=hid nU;obtain⟨af,cf,rfl,hsf, -, -⟩:=nU.form;have HN:Hid ((ah.kd x o).af4.length=x.af3[o].af4.length):=hid (by rw[fM ho]);have uX:Hid (∀(j:Nat) (h:j<x.af3[o].af4.length),ah.fd x o j=x.af3[o].af4[j]):=hid (fun j h=>rI ho h);have Iy:x.af3[o].af4.length<=1000:=h10 _ (zGm ho);have u0:w2.cell? ⟨aY ak,bC ak+o*4+3,none⟩=some (.slice af x.af3[o].af4.length cf):=(bB.out.cell (p:=⟨aY ak,bC ak+o*4+3,none⟩) lU).trans k3;have Vu:(0:Int)<=o:=by omega
   have Tf:(o:Int)<x.af3.length:=by omega
   have hle:¬((o:Int)<=i):=by omega
   have PU:=hid (fun(j:Nat) (W:World) (hW:BL w W)=>DP x o j _ S W (HV.out W hW));rw[HN.out] at xU;clear k0 k1 k2 k3 nU HN;generalize x.af3[o].af4=fs at*;obtain⟨nf,hnf⟩:=nmE fs.length;have VD:=hid hnf;rw[<-hnf] at u0 Iy hsf xU Kl;clear hnf;go_wp2;go_loopw [31,9] (fun k v wr=>∃(k':Nat) (a:Option Addr) (c:Nat) (l:List Int),k'<=nf/\k=.int .i64 k'/\v=.slice a l.length c/\l.length<=k'/\Hid (l=PW x i o fn k')/\Hid (cF (w1.heap.size<=·) wr (.slice a l.length c) l)/\Hid (BL w1 wr)) (fun k _ _=>nf-(intOf k).toNat);case atStart=>exact⟨0,none,0,[],Nat.zero_le _,rfl,rfl,aB,hid rfl,hid (cF.nil _ _),cU⟩
   case round=>
    obtain⟨k,a,c,l,hk,rfl,rfl,hlk,Fq,HI,iO⟩:=hrel;have iP:=bq aW iO.out;by_cases hkn:k<nf
    ·have hk0:(0:Int)<=(k:Int):=by omega
     have hk1:(k:Int)<(nf:Int):=by omega
     obtain⟨Gm, -,f0,f1,f2,f3,f4,f5,uw',ug',f6,f7,pq,hgs⟩:=dh.at (Kl.out.keep (aA.below iP.out)) (show k<fs.length by rw[<-VD.out];exact hkn);obtain⟨aw,cw,rfl, -, -, -⟩:=pq.form;obtain⟨ag,cg,rfl, -, -, -⟩:=hgs.form;clear pq hgs;have HE:Hid (ah.fd x o k=fs[k]'(by rw[<-VD.out];exact hkn)):=hid (uX.out k _);have PX:=hid (fun(W:World) (hW:BL w W)=>PU.out k W hW);have HN:Hid (¬((ah.fd x o k).kind=7/\(ah.fd x o k).of=fn/\ah.dB x o k=i)->l=PW x i o fn (k+1)):=hid (fun h=>by rw[Yb h];exact Fq.out);have HY:Hid (((ah.fd x o k).kind=7/\(ah.fd x o k).of=fn/\ah.dB x o k=i)->l++[(k:Int)]=PW x i o fn (k+1)):=hid (fun h=>by rw[Tv h,Fq.out]);rw[HE.out] at HN HY;generalize fs[k]'(by rw[<-VD.out];exact hkn)=g at*;clear HE;obtain⟨gn,go,gu,gk,gl,gh,Gn,ggs⟩:=g;generalize Gn.length=nw at*;generalize ggs.length=ng at*;simp only at f0 f1 f2 f3 f4 f5 f6 f7 HN HY;generalize ah.dB x o k=uz at*;obtain⟨⟨z0,z1,z2,z3,z4,z5,z6,z7⟩, -⟩:=dn (HF.out wr iO.out);obtain⟨w3,hw3⟩:=nmE (wr.alloc (.cells #[.string gn,.string go,.string gu,.int .i64 gk,.int .i64 gl,.int .i64 gh,(.slice aw nw cw),(.slice ag ng cg)] 117));have dD:Hid (Below w1.heap.size w1 w3):=hid (by rw[hw3];exact iO.out.alloc iO.out.size _);have bG:Hid (Below w.heap.size w w3):=hid (by rw[hw3];exact iP.out.alloc iP.out.size _);have rH:Hid (w3.heap[wr.heap.size]?=some (.cells #[.string gn,.string go,.string gu,.int .i64 gk,.int .i64 gl,.int .i64 gh,(.slice aw nw cw),(.slice ag ng cg)] 117 (0,0))):=hid (by rw[hw3];exact aD wr _ rfl);have HI3:Hid (cF (w1.heap.size<=·) w3 (.slice a l.length c) l):=hid (by rw[hw3];exact bg.keep HI.out (aA.below (aj.alloc aB _)));have HW3:=hid hw3;clear hw3;go_upto_region 8 with fail;rw[<-HW3.out];clear f0 f1 f2 f3 f4 f5 f6 f7 z0 z1 z2 z3 z4 z5 z6 z7 y0 y1 y2 y3;obtain⟨⟨f0,f1,f2,f3,f4,f5,f6,f7⟩, -⟩:=dn rH.out;obtain⟨⟨z0,z1,z2,z3,z4,z5,z6,z7⟩, -⟩:=dn (HF.out w3 dD.out);obtain⟨⟨y0,y1,y2,y3⟩, -⟩:=aO (HX.out w3 dD.out);by_cases h7:gk=7
     ·by_cases Nf:go=fn
      ·have es:(go.toList==fn.toList)=true:=by rw[Nf];simp
       have Xf:=hid (PX.out w3 bG.out);have HY2:=hid (fun(h:uz=i)=>HY.out ⟨h7,Nf,h⟩);have HOf:=hid Nf;subst h7;clear Nf;go_wp2_with fail;refine Xf.out.mono ?_;rintro e w4 ⟨rfl,hb4⟩;have iQ:=bq dD hb4;have dO:=bq bG hb4;have HI4:Hid (cF (w1.heap.size<=·) w4 (.slice a l.length c) l):=hid (bg.keep HI3.out (aA.below hb4));clear hb4;by_cases hu:uz=i
       ·have yj:=hid (HY2.out hu)
        subst hu;clear HN HY HY2 Fq;go_wp2_with (at_builtin;go_must (refine gZ rfl _ _ rfl Tryz.Nr rfl HI4.out (aj.alloc aB _) rfl (lF yQ w4 _ (k:Int) rfl trivial) (by omega) ?_));intro v' w5 hI5 ze;obtain⟨l2,hl2⟩:=nmE (l++[(k:Int)]);rw[<-hl2] at hI5 yj;have hlen:l2.length<=k+1:=by rw[hl2];simp;omega
        obtain⟨a2,c2,rfl, -, -, -⟩:=(cF.sl hI5).form;have zS:Hid (cF (w1.heap.size<=·) w5 (.slice a2 l2.length c2) l2):=hid (bg.mono hI5 (fun b _ hb=>eO iQ.out.size b hb));have fS:Hid (BL w1 w5):=hid ((iQ.out.alloc iQ.out.size _).trans (ze.below (by have:=iQ.out.size;simp;omega) (fun b hb=>HI4.out.2 b hb.symm)));clear hI5 ze hl2;go_wp2;go_roundw;case rel=>exact⟨k+1,a2,c2,l2,by omega,by go_num,rfl,hlen,yj,zS,fS⟩
        simp[intOf];omega
       ·have eu:(uz==i)=false:=by simpa using hu
        have yj:=hid (HN.out (fun h=>hu h.2.2));clear HN HY HY2 Fq hu;go_wp2;go_roundw;case rel=>exact⟨k+1,a,c,l,by omega,by go_num,rfl,by omega,yj,HI4,iQ⟩
        simp[intOf];omega
      ·have es:(go.toList==fn.toList)=false:=by rw[GD];simpa using Nf
       have yj:=hid (HN.out (fun h=>Nf h.2.1));subst h7;clear HN HY Fq Nf;go_wp2;go_roundw;case rel=>exact⟨k+1,a,c,l,by omega,by go_num,rfl,by omega,yj,HI3,dD⟩
       simp[intOf];omega
     ·have e7:(gk==7)=false:=by simpa using h7
      have yj:=hid (HN.out (fun h=>h7 h.1));clear HN HY Fq h7;go_wp2;go_roundw;case rel=>exact⟨k+1,a,c,l,by omega,by go_num,rfl,by omega,yj,HI3,dD⟩
      simp[intOf];omega
    ·obtain rfl:k=nf:=by omega
     have HEl:Hid (sl=l):=hid (by rw[xU.out,Fq.out]);go_wp2;go_ret2;exact hid<|HSP.out _ _ ⟨a,c,by rw[HEl.out,zu.out];rfl,by rw[HEl.out];exact bg.mono HI.out (fun b _ hb=>Nat.le_trans aW.out.size hb),iP.out⟩
  ·have zu:Hid (oi= -1):=hid (by rw[HO.out,if_neg (fun h=>hlt h.2)])
   subst hf6;have hle:ki<=i:=by omega
   go_wp2;go_ret2;exact hid<|VB.out _ zu.out bB.out
 ·have zu:Hid (oi= -1):=hid (by rw[HO.out,if_neg (fun h=>hf6 h.1)])
  have e6:(fk !=6)=true:=by simpa using hf6
  go_wp2;go_ret2;exact hid<|VB.out _ zu.out bB.out
end Go.Proofs.YtobgljfnfpolkaaGreatDoor
