/- Part 8 of the walks and plain laws that the proof needs (packed). -/
import Derived.Test.YteiakkfdchnddaaGreatDoorQ1
import Derived.Test.YteiakkfdchnddaaGreatDoorQ5
import Derived.Test.YteiakkfdchnddaaGreatDoorQ7
set_option linter.all false
set_option maxRecDepth 100000
set_option maxHeartbeats 8000000
namespace Go.Proofs.YteiakkfdchnddaaGreatDoor
open Go.RowKit
theorem IB:∀(f n:Nat),ah.Bg f n<=f+1
 |0,n=>by unfold ah.Bg;omega
 |f+1,n=>by
  unfold ah.Bg;split
  ·omega
  ·have:=IB f (n / 10);omega
theorem dw(n:Int):ah.dQ n<=42:=by
 unfold ah.dQ;have:=IB 40 n.natAbs;split<;>omega
theorem eU{s:ByteArray}(h:ah.aU s=true):s.size<=12:=ah.iF h
theorem nI{s:ByteArray}(h:s.size<=12):ah.eP s<=12:=ah.pK h
def IC(n:Nat)(w:World)(e:Ending)(w':World):Prop:=∃s:ByteArray,e=.returned (.string s)/\s.size=n/\BL w w'
theorem gD(word:ByteArray)(l:List Arg)(hok:∀a∈l,iT a)(hlen:word.size+ah.bG argN l<=1000000000)(h9:l.length<=1000)(W:World)(T:TypeId)(hw:LaidW W)(w:World)(hb:BL w W)(n:Nat)(hn:word.size+ah.bG argN l+1=n):
  Calls Tryz.prog 151 #[.string word,.slice (some ⟨W.heap.size,0,none⟩) l.length l.length] (W.alloc (.cells (l.map oe).toArray T)) (IC n w):=by
 refine(BO word l hok hlen _ (fun _=>True) _ (vf W l h9 T) (hw.next (ay.alloc aH _))).mono ?_;rintro e w' ⟨s,rfl,hs,hb'⟩;exact⟨s,rfl,by rw[<-hn];exact hs,(hb.alloc hb.size _).trans (hb'.mono (by have:=hb.size;simp;omega))⟩
theorem fT{α:Type}(g:α->Nat):ah.bG g []=0:=rfl
theorem aa2{p:Prop}(h:p:=by
  rw[hs,hw,hF]
  refine⟨fun a ha=>?_,by omega,by omega⟩
  simp only[kM,vE,or_false] at ha
  rcases ha with rfl|rfl<;>first|trivial|(simp only[iT];omega)):p:=h
theorem adu(nm o up _od:ByteArray)(lo hi:Int)(ws:List ByteArray)(gs:List Int)(hz:nm.size<=12)(h1: -1048576<=lo)(h2:lo<=1048576):(∀a∈([.str nm,.num lo]:List Arg),iT a)/\({data:=#[107,101,121]}:ByteArray).size+ah.bG argN [.str nm,.num lo]<=1000000000/\({data:=#[107,101,121]}:ByteArray).size+ah.bG argN [.str nm,.num lo]+1=ah.cL ⟨nm,o,up,0,lo,hi,ws,gs⟩:=by
 have hs:ah.bG argN [.str nm,.num lo]=(1+nm.size)+((1+ah.dQ lo)):=by simp only[dx,fT,argN,Nat.add_zero,Nat.add_assoc]
 have hw:({data:=#[107,101,121]}:ByteArray).size=3:=rfl;have hd1:=dw lo;have hd2:=dw hi;have hF:ah.cL ⟨nm,o,up,0,lo,hi,ws,gs⟩=3+1+nm.size+1+(1+ah.dQ lo):=rfl;exact aa2
theorem aa3{p:Prop}(h:p:=by
  rw[hs,hw,hF]
  refine⟨fun a ha=>?_,by omega,by omega⟩
  simp only[kM,vE,or_false] at ha
  rcases ha with rfl|rfl|rfl<;>first|trivial|(simp only[iT];omega)):p:=h
theorem adv(nm o up _od:ByteArray)(lo hi:Int)(ws:List ByteArray)(gs:List Int)(hz:nm.size<=12)(h1: -1048576<=lo)(h2:lo<=hi)(h3:hi<=1048576):(∀a∈([.str nm,.num lo,.num hi]:List Arg),iT a)/\({data:=#[110,117,109]}:ByteArray).size+ah.bG argN [.str nm,.num lo,.num hi]<=1000000000/\({data:=#[110,117,109]}:ByteArray).size+ah.bG argN [.str nm,.num lo,.num hi]+1=ah.cL ⟨nm,o,up,2,lo,hi,ws,gs⟩:=by
 have hs:ah.bG argN [.str nm,.num lo,.num hi]=(1+nm.size)+((1+ah.dQ lo)+((1+ah.dQ hi))):=by simp only[dx,fT,argN,Nat.add_zero,Nat.add_assoc]
 have hw:({data:=#[110,117,109]}:ByteArray).size=3:=rfl;have hd1:=dw lo;have hd2:=dw hi;have hF:ah.cL ⟨nm,o,up,2,lo,hi,ws,gs⟩=3+1+nm.size+1+(1+ah.dQ lo+(1+ah.dQ hi)):=rfl;exact aa3
theorem adw(nm o up _od:ByteArray)(lo hi:Int)(ws:List ByteArray)(gs:List Int)(hz:nm.size<=12)(ho:o.size<=12):(∀a∈([.str nm,.str o]:List Arg),iT a)/\({data:=#[115,117,109]}:ByteArray).size+ah.bG argN [.str nm,.str o]<=1000000000/\({data:=#[115,117,109]}:ByteArray).size+ah.bG argN [.str nm,.str o]+1=ah.cL ⟨nm,o,up,6,lo,hi,ws,gs⟩:=by
 have hs:ah.bG argN [.str nm,.str o]=(1+nm.size)+((1+o.size)):=by simp only[dx,fT,argN,Nat.add_zero,Nat.add_assoc]
 have hw:({data:=#[115,117,109]}:ByteArray).size=3:=rfl;have hd1:=dw lo;have hd2:=dw hi;have hF:ah.cL ⟨nm,o,up,6,lo,hi,ws,gs⟩=3+1+nm.size+1+(1+o.size):=rfl;exact aa2
theorem adx(nm o up _od:ByteArray)(lo hi:Int)(ws:List ByteArray)(gs:List Int)(hz:nm.size<=12)(ho:o.size<=12)(hu:up.size<=12)(h1:0<=lo)(h2:lo<=hi)(h3:hi<=1048576):(∀a∈([.str nm,.str up,.str o,.num lo,.num hi]:List Arg),iT a)/\({data:=#[115,104,97,114,101]}:ByteArray).size+ah.bG argN [.str nm,.str up,.str o,.num lo,.num hi]<=1000000000/\({data:=#[115,104,97,114,101]}:ByteArray).size+ah.bG argN [.str nm,.str up,.str o,.num lo,.num hi]+1=ah.cL ⟨nm,o,up,7,lo,hi,ws,gs⟩:=by
 have hs:ah.bG argN [.str nm,.str up,.str o,.num lo,.num hi]=(1+nm.size)+((1+up.size)+((1+o.size)+((1+ah.dQ lo)+((1+ah.dQ hi))))):=by simp only[dx,fT,argN,Nat.add_zero,Nat.add_assoc]
 have hw:({data:=#[115,104,97,114,101]}:ByteArray).size=5:=rfl;have hd1:=dw lo;have hd2:=dw hi;have hF:ah.cL ⟨nm,o,up,7,lo,hi,ws,gs⟩=5+1+nm.size+1+(1+up.size+(1+o.size)+(1+ah.dQ lo)+(1+ah.dQ hi)):=rfl;rw[hs,hw,hF];refine⟨fun a ha=>?_,by omega,by omega⟩;simp only[kM,vE,or_false] at ha;rcases ha with rfl|rfl|rfl|rfl|rfl<;>first|trivial|(simp only[iT];omega)
theorem ady(nm o up _od:ByteArray)(lo hi:Int)(ws:List ByteArray)(gs:List Int)(hz:nm.size<=12)(ho:o.size<=12)(hu:up.size<=12):(∀a∈([.str nm,.str up,.str o]:List Arg),iT a)/\({data:=#[99,111,112,121]}:ByteArray).size+ah.bG argN [.str nm,.str up,.str o]<=1000000000/\({data:=#[99,111,112,121]}:ByteArray).size+ah.bG argN [.str nm,.str up,.str o]+1=ah.cL ⟨nm,o,up,8,lo,hi,ws,gs⟩:=by
 have hs:ah.bG argN [.str nm,.str up,.str o]=(1+nm.size)+((1+up.size)+((1+o.size))):=by simp only[dx,fT,argN,Nat.add_zero,Nat.add_assoc]
 have hw:({data:=#[99,111,112,121]}:ByteArray).size=4:=rfl;have hd1:=dw lo;have hd2:=dw hi;have hF:ah.cL ⟨nm,o,up,8,lo,hi,ws,gs⟩=4+1+nm.size+1+(1+up.size+(1+o.size)):=rfl;exact aa3
theorem UH{p:Prop}(h:p:=by
  rw[hs,hw,hF]
  refine⟨fun a ha=>?_,by omega,by omega⟩
  simp only[kM,vE,or_false] at ha
  rcases ha with rfl|rfl|rfl|rfl<;>first|trivial|(simp only[iT];omega)):p:=h
theorem adz(nm o up od:ByteArray)(lo hi:Int)(ws:List ByteArray)(gs:List Int)(hz:nm.size<=12)(ho:ah.eP o<=12)(hod:od.size=ah.eP o)(h1: -1048576<=lo)(h2:lo<=hi)(h3:hi<=1048576):(∀a∈([.str nm,.str od,.num lo,.num hi]:List Arg),iT a)/\({data:=#[114,101,102]}:ByteArray).size+ah.bG argN [.str nm,.str od,.num lo,.num hi]<=1000000000/\({data:=#[114,101,102]}:ByteArray).size+ah.bG argN [.str nm,.str od,.num lo,.num hi]+1=ah.cL ⟨nm,o,up,1,lo,hi,ws,gs⟩:=by
 have hs:ah.bG argN [.str nm,.str od,.num lo,.num hi]=(1+nm.size)+((1+od.size)+((1+ah.dQ lo)+((1+ah.dQ hi)))):=by simp only[dx,fT,argN,Nat.add_zero,Nat.add_assoc]
 have hw:({data:=#[114,101,102]}:ByteArray).size=3:=rfl;have hd1:=dw lo;have hd2:=dw hi;have hF:ah.cL ⟨nm,o,up,1,lo,hi,ws,gs⟩=3+1+nm.size+1+(1+ah.eP o+(1+ah.dQ lo)+(1+ah.dQ hi)):=rfl;exact UH
theorem adA(nm o up od:ByteArray)(lo hi:Int)(ws:List ByteArray)(gs:List Int)(hz:nm.size<=12)(ho:ah.eP o<=12)(hod:od.size=ah.eP o)(h1: -1048576<=lo)(h2:lo<=hi)(h3:hi<=1048576):(∀a∈([.str nm,.str od,.num lo,.num hi]:List Arg),iT a)/\({data:=#[100,97,121]}:ByteArray).size+ah.bG argN [.str nm,.str od,.num lo,.num hi]<=1000000000/\({data:=#[100,97,121]}:ByteArray).size+ah.bG argN [.str nm,.str od,.num lo,.num hi]+1=ah.cL ⟨nm,o,up,4,lo,hi,ws,gs⟩:=by
 have hs:ah.bG argN [.str nm,.str od,.num lo,.num hi]=(1+nm.size)+((1+od.size)+((1+ah.dQ lo)+((1+ah.dQ hi)))):=by simp only[dx,fT,argN,Nat.add_zero,Nat.add_assoc]
 have hw:({data:=#[100,97,121]}:ByteArray).size=3:=rfl;have hd1:=dw lo;have hd2:=dw hi;have hF:ah.cL ⟨nm,o,up,4,lo,hi,ws,gs⟩=3+1+nm.size+1+(1+ah.eP o+(1+ah.dQ lo)+(1+ah.dQ hi)):=rfl;exact UH
theorem adB(nm o up od:ByteArray)(lo hi:Int)(ws:List ByteArray)(gs:List Int)(hz:nm.size<=12)(ho:ah.eP o<=12)(hod:od.size=ah.eP o)(h1: -1048576<=lo)(h2:lo<=hi)(h3:hi<=1048576):(∀a∈([.str nm,.str od,.num lo,.num hi]:List Arg),iT a)/\({data:=#[115,116,101,112]}:ByteArray).size+ah.bG argN [.str nm,.str od,.num lo,.num hi]<=1000000000/\({data:=#[115,116,101,112]}:ByteArray).size+ah.bG argN [.str nm,.str od,.num lo,.num hi]+1=ah.cL ⟨nm,o,up,5,lo,hi,ws,gs⟩:=by
 have hs:ah.bG argN [.str nm,.str od,.num lo,.num hi]=(1+nm.size)+((1+od.size)+((1+ah.dQ lo)+((1+ah.dQ hi)))):=by simp only[dx,fT,argN,Nat.add_zero,Nat.add_assoc]
 have hw:({data:=#[115,116,101,112]}:ByteArray).size=4:=rfl;have hd1:=dw lo;have hd2:=dw hi;have hF:ah.cL ⟨nm,o,up,5,lo,hi,ws,gs⟩=4+1+nm.size+1+(1+ah.eP o+(1+ah.dQ lo)+(1+ah.dQ hi)):=rfl;exact UH
def mF(S:Nat->Prop)(w:World)(v:Value)(xs:List Arg):Prop:=
 w.ownsRow 0 20 1 v xs.length (xs.map oe)/\∀b,v.ownBlock=some b->S b
theorem wN:fG (α:=List Arg) mF:=
 ⟨fun h k=>⟨dm h.1 h.2 k,h.2⟩,fun h k=>⟨h.1,fun b hb=>k b (h.1.lt b hb).2 (h.2 b hb)⟩⟩
theorem mF.sl{S:Nat->Prop}{w:World}{v:Value}{xs:List Arg}(h:mF S w v xs):zM S w v xs:=
 kQ h.1 h.2 aZ (fun j h1 h2=>by simp)
theorem Tryz.afX:jW Tryz.prog 267 20 1 16:=gE (z:=.nilIface) (by kernel_rfl) (by kernel_rfl) rfl aC aC
theorem UI(a:Arg):(oe a).oneCell'=true:=by cases a<;>rfl
theorem ER(w:World)(x y:Arg):mF (w.heap.size<=·) (w.alloc (.cells #[oe x,oe y] 20)) (.slice (some ⟨w.heap.size,0,none⟩) 2 2) [x,y]:=by
 refine⟨⟨by simp,.inr ⟨w.heap.size,2,#[oe x,oe y],rfl,Nat.zero_le _,heap_alloc_new w _,aH,by unfold maxLen;omega,by simp,?_⟩⟩,fun b hb=>by simp[Value.ownBlock] at hb;omega⟩;simp
section
variable {P:Program} {t e:TypeId} {bytes:Nat} {α:Type} {RR:(Nat->Prop)->World->Value->α->Prop} {w:World} {ops:Array Oper} {rest:List Oper} {o:Oper} {a:Act} {Q:Exit->Act->World->Prop}
theorem zN(hgd:o.guard=none)(s x:Operand)
  (ho:o.op=.call {callee:=.builtin .append,args:=#[s,x],argTypes:=#[t,t]})(hT:jW P t 20 1 bytes)
  {S:Nat->Prop}{w1:World}{v:Value}{xs:List Arg}(hs:a.eval s=v)(hown:mF S w1 v xs)(hb:BL w1 w)
  {ao:Option Addr}{m c:Nat}(hx:a.eval x=.slice ao m c){T:Nat->Prop}{ys:List Arg}(hy:zM T w (.slice ao m c) ys)
  (hsmall:xs.length+m<=1000000000)
  (h:∀v' w',mF (Grow S w1.heap.size) w' v' (xs++ys)->Turns (fun b=>some b=v.ownBlock) w w'->wpList P ops Q rest (a.put o.dst v') w'):
  wpList P ops Q (o::rest) a w:=by
 obtain⟨rfl,hok,us,l1,l2,l3⟩:=gQ.news hy
 have vJ:us=ys.map oe:=by
  exact RU
 have hsz:=hb.size;have f2':w.ownsRow 0 20 1 v xs.length (xs.map oe):=dm (S:=fun _=>True) hown.1 (fun _ _=>trivial) (aB.below hb);refine iZ hgd s x ho hT hs f2' ao ys.length c hx hok us (by simpa using l1) l2 ?_ hsmall (Nat.zero_le _) (fun v' w' g1 g2 g3=>h v' w' ⟨?_,fun b hb'=>?_⟩ (Turns.iq g2 fun b hb'=>hb'.symm))
 ·rw[vJ];intro u hu;obtain⟨y,_,rfl⟩:=List.mem_map.1 hu;exact UI y
 ·rw[rG,List.map_append,<-vJ];exact g1
 ·rcases g3 with g3|g3
  ·rw[g3] at hb';exact .inl ⟨hown.2 b hb',(hown.1.lt b hb').2⟩
  ·rw[g3] at hb';exact .inr (by have:=qf hb';omega)
end
def fP:List ByteArray->List Int->List Arg
 |w::ws,g::gs=>.str w::.num g::fP ws gs
 |_,_=>[]
theorem BP:∀(ws:List ByteArray) (gs:List Int),(fP ws gs).length<=2*ws.length
 |[],_=>by simp[fP]
 |w::ws,[]=>by simp[fP]
 |w::ws,g::gs=>by have:=BP ws gs;simp[fP];omega
theorem zO:∀(ws:List ByteArray) (gs:List Int) (x:ByteArray) (y:Int),ws.length=gs.length->fP (ws++[x]) (gs++[y])=fP ws gs++[.str x,.num y]
 |[],[],x,y,_=>rfl
 |[],g::gs,_,_,h=>by simp at h
 |w::ws,[],_,_,h=>by simp at h
 |w::ws,g::gs,x,y,h=>by
  have:=zO ws gs x y uO;simp only[List.cons_append,fP,this]
theorem IE(ws:List ByteArray)(gs:List Int){k:Nat}(h1:k<ws.length)(h2:k<gs.length):fP (ws.take (k+1)) (gs.take (k+1))=fP (ws.take k) (gs.take k)++[.str ws[k],.num gs[k]]:=by
 rw[Gu h1,Gu h2,zO _ _ _ _ mV]
theorem BQ:∀(ws:List ByteArray) (gs:List Int),ah.bG argN (fP ws gs)=ah.kr ws gs
 |[],_=>rfl
 |w::ws,[]=>rfl
 |w::ws,g::gs=>by
  have:=BQ ws gs;simp only[fP,dx,this,argN,ah.kr];omega
theorem ES:∀(ws:List ByteArray) (gs:List Int),(∀g∈gs,ah.tT g 0 1048576=true)->∀a∈fP ws gs,iT a
 |[],_,_,a,ha=>by simp[fP] at ha
 |w::ws,[],_,a,ha=>by simp[fP] at ha
 |w::ws,g::gs,h,a,ha=>by
  simp only[fP,kM] at ha;rcases ha with rfl|rfl|ha
  ·trivial
  ·have:=iL (h g aZ);simp only[iT];omega
  ·exact ES ws gs (fun g hg=>h g (by simp[hg])) a ha
theorem BR:∀(ws:List ByteArray) (gs:List Int),(∀w∈ws,w.size<=12)->ah.kr ws gs<=60*ws.length
 |[],_,_=>by simp[ah.kr]
 |w::ws,[],_=>by simp[ah.kr]
 |w::ws,g::gs,h=>by
  have:=BR ws gs (fun w hw=>h w (by simp[hw]));have h1:=h w aZ;have h2:=dw g;simp only[ah.kr,List.length_cons];omega
theorem UJ(nm o up:ByteArray)(ws:List ByteArray)(gs:List Int)(lo hi:Int)(hz:nm.size<=12)(h:ah.lG ws gs=true):
  (∀a∈(.str nm::.num ws.length::fP ws gs:List Arg),iT a)/\({data:=#[112,105,99,107]}:ByteArray).size+ah.bG argN (.str nm::.num ws.length::fP ws gs)<=1000000000/\({data:=#[112,105,99,107]}:ByteArray).size+ah.bG argN (.str nm::.num ws.length::fP ws gs)+1=ah.cL ⟨nm,o,up,3,lo,hi,ws,gs⟩:=by
 obtain⟨p1,p2,p3,p4,p5⟩:=qB h;have YL:=(iL p2).2;have hs:ah.bG argN (.str nm::.num ws.length::fP ws gs)=1+nm.size+(1+ah.dQ ws.length+ah.kr ws gs):=by simp only[dx,argN,BQ]
 have hw:({data:=#[112,105,99,107]}:ByteArray).size=4:=rfl;have hd:=dw ws.length;have hp:=BR ws gs (fun w hw=>eU (List.all_eq_true.1 p5 w hw));have hF:ah.cL ⟨nm,o,up,3,lo,hi,ws,gs⟩=4+1+nm.size+1+(1+ah.dQ ws.length+ah.kr ws gs):=rfl;rw[hs,hw,hF];refine⟨fun a ha=>?_,by omega,by omega⟩;rcases kM.1 ha with rfl|ha
 ·trivial
 ·rcases kM.1 ha with rfl|ha
  ·simp only[iT];omega
  ·exact ES ws gs p1 a ha
theorem kZ{lo hi a b:Int}(h:ah.gI lo hi a b=true):a<=lo/\lo<=hi/\hi<=b:=by
 unfold ah.gI at h;simp only[kJ,lE] at h;exact⟨h.1.1,h.1.2,h.2⟩
theorem adC{p:Prop}(h:p:=by
  clear g1 g2 g3
  simp only[List.map_cons,List.map_nil,oe,List.length_cons,List.length_nil] at mZ
  have HNd:=hid (fun W=>yA o W)
  generalize jh o=od at*
  clear hnd Pr
  go_enter Tryz.func152,Tryz.ntmps152
  go_upto_region 1 with fail
  rw[<-HW.out]
  go_upto_region 21 with fail
  have Dk:=dL w1 ⟨w.heap.size,0,none⟩ (.string nm) fun xh=>(xh.2.cell (p:=⟨w.heap.size,0,none⟩) hz1).trans y0;have hq1:=dL w1 ⟨w.heap.size,1,none⟩ (.string o) fun xh=>(xh.2.cell (p:=⟨w.heap.size,1,none⟩) hz1).trans y1;have MJ:=dL w1 ⟨w.heap.size,4,none⟩ (.int .i64 lo) fun xh=>(xh.2.cell (p:=⟨w.heap.size,4,none⟩) hz1).trans y4;have hq5:=dL w1 ⟨w.heap.size,5,none⟩ (.int .i64 hi) fun xh=>(xh.2.cell (p:=⟨w.heap.size,5,none⟩) hz1).trans y5;refine dS 15 (.quiet 0 (.quiet 1 (.quiet 2 (.quiet 3 (.quiet 4 (.quiet 5 (.quiet 8 (.quiet 9 (.quiet 10 (.quiet 11 (.quiet 12 (.quiet 13 (.one 6 (.quiet 7 (.one 14 .done))))))))))))))) (BL w1) lN (by kernel_rfl) (aG ay 1) ?_;have bK:=hid (aG (Below.refl w1.heap.size w1) 1);generalize w1.drewN 1=w2 at*;clear y0 y1 y2 y3 y4 y5 y6 y7 hwd
  iterate 12 refine eB ?_
  refine aM rfl ?_
  go_wp2_with fail
  refine(HNd.out w2).mono ?_
  rintro e w3 ⟨rfl,hb3⟩
  have bZ:=aJ bK hb3
  clear hb3
  go_wp2_with fail
  refine aD (BL w1) (fun _ h=>h) bZ.out ?_
  refine eB ?_
  have HLn3:=hid (mZ.out w3 (cO bf.out bZ.out))
  refine aM rfl ?_
  go_wp2_with fail
  refine aD (BL w1) (fun _ h=>h) (bZ.out.alloc bZ.out.size _) ?_
  refine aT ?_
  try simp only[iW,iX]
  clear Dk hq1 MJ hq5
  go_wp2_with fail
  refine HLn3.out.mono ?_
  rintro e w4 ⟨s,rfl,hs,hb4⟩
  have HS:=hid hs
  have f9:=hid hb4
  clear hs hb4
  go_wp2
  go_ret
  exact⟨s,rfl,HS.out,f9.out⟩):p:=h
theorem UK{p:Prop}(h:p:=by
  clear g1 g2 g3
  simp only[List.map_cons,List.map_nil,oe,List.length_cons,List.length_nil] at mZ
  go_enter Tryz.func152,Tryz.ntmps152
  go_upto_region 1 with fail
  rw[<-HW.out]
  go_wp2_with fail
  refine mZ.out.mono ?_
  rintro e w3 ⟨s,rfl,hs,hb3⟩
  have HS:=hid hs
  have bZ:=hid hb3
  clear hs hb3
  go_wp2
  go_ret
  exact⟨s,rfl,HS.out,bZ.out⟩):p:=h
theorem Ps(f:ah.dh)(hf:ah.dB f=true)(uw ug:Value)(S T:Nat->Prop)(w:World)(h1:gP S w uw f.dc)(h2:cH T w ug f.bX)(hl:LaidW w):
  Calls Tryz.prog 152 #[.agg (cV f uw ug).toArray] w (IC (ah.cL f) w):=by
 obtain⟨hnm,hcase⟩:=zH hf;obtain⟨kk0,kk8⟩:=ah.wA hf;have hnz:=eU hnm;obtain⟨aw,cw,rfl,hsw, -, -⟩:=h1.form;obtain⟨ag,cg,rfl,hsg, -, -⟩:=h2.form;have xR:=fun k (h:k<9)=>hl.dc k h;obtain⟨w1,hw1⟩:=aV (w.alloc (.cells (cV f (.slice aw f.dc.length cw) (.slice ag f.bX.length cg)).toArray 92));have bf:Hid (Below w.heap.size w w1):=hid ud;have Dp:Hid (LaidW w1):=hid (hl.next bf.out);have HK:Hid (∀W,BL w1 W->W.heap[w.heap.size]?=some (.cells (cV f (.slice aw f.dc.length cw) (.slice ag f.bX.length cg)).toArray 92 (0,0))):=hid (fun W hW=>(hW.block _ tr).trans Oh);have HV1:=hid (h1.keep (aB.below bf.out));have Pt:=hid (h2.keep (aB.below bf.out));have hz1:w.heap.size<w1.heap.size:=by rw[hw1];simp
 have HL0:Hid (LaidW w):=hid hl;have h51:5<=w1.heap.size:=Dp.out.size;obtain⟨FN,hFN⟩:=aV (ah.cL f);rw[<-hFN];clear h1 h2 hl hnm xR;obtain⟨nm,o,up,k,lo,hi,ws,gs⟩:=f;simp only[cV] at hw1 HK kk0 kk8 hnz HV1 Pt hsw hsg ⊢;have HW:=hid hw1;clear hw1;obtain⟨⟨y0,y1,y2,y3,y4,y5,y6,y7⟩, -⟩:=dY (HK.out w1 ay);have xK:=hid hcase;have HFB:=hid hf;clear hcase hf;have:k=0\/k=1\/k=2\/k=3\/k=4\/k=5\/k=6\/k=7\/k=8:=by omega
 rcases this with rfl|rfl|rfl|rfl|rfl|rfl|rfl|rfl|rfl
 ·have hwd:w1.cell? ⟨1,0,none⟩=some (.string {data:=#[107,101,121]}):=Dp.out.dc 0 aC
  have hc:ah.tT lo (-1048576) 1048576=true:=xK.out;have hcn:=iL hc;obtain⟨g1,g2,g3⟩:=adu nm o up o lo hi ws gs hnz hcn.1 hcn.2;have mZ:=hid (gD {data:=#[107,101,121]} [.str nm,.num lo] g1 g2 aZ w1 20 Dp.out w bf.out FN GS);exact UK
 ·have hwd:w1.cell? ⟨1,1,none⟩=some (.string {data:=#[114,101,102]}):=Dp.out.dc 1 aC
  have hc:(ah.aU o&&ah.gI lo hi 0 65536)=true:=xK.out;obtain⟨hc1,hc2⟩:=Bool.and_eq_true_iff.1 hc;have hcn:=kZ hc2;have UL:o.size<=12:=eU hc1;have hnd:=l5 o;have Pr:ah.eP o<=12:=nI UL;obtain⟨g1,g2,g3⟩:=adz nm o up (jh o) lo hi ws gs hnz Pr hnd aC hcn.2.1 aC;have mZ:=hid (fun(W:World) (hb:BL w W)=>gD {data:=#[114,101,102]} [.str nm,.str (jh o),.num lo,.num hi] g1 g2 aZ W 20 (HL0.out.next hb) w hb FN GS);exact adC
 ·have hwd:w1.cell? ⟨1,2,none⟩=some (.string {data:=#[110,117,109]}):=Dp.out.dc 2 aC
  have hc:ah.gI lo hi (-1048576) 1048576=true:=xK.out;have hcn:=kZ hc;obtain⟨g1,g2,g3⟩:=adv nm o up o lo hi ws gs hnz hcn.1 hcn.2.1 hcn.2.2;have mZ:=hid (gD {data:=#[110,117,109]} [.str nm,.num lo,.num hi] g1 g2 aZ w1 20 Dp.out w bf.out FN GS);exact UK
 ·have hwd:w1.cell? ⟨1,3,none⟩=some (.string {data:=#[112,105,99,107]}):=Dp.out.dc 3 aC
  have hc:ah.lG ws gs=true:=xK.out;obtain⟨p1,p2,p3,p4,p5⟩:=qB hc;have YL:=(iL p2).2;have HA:=hid (UJ nm o up ws gs lo hi hnz hc);have HG:=hid p3;obtain⟨n,hn⟩:=aV ws.length;have hng:n=gs.length:=hn.trans p3;rw[<-hn] at hsw HV1 HK y6 YL HA;rw[<-hng] at hsg Pt HK y7;have HN:=hid hn;have HNG:=hid hng;clear hn hng p1 p2 p3 p4 p5 hc;obtain⟨w2,hw2⟩:=aV (w1.alloc (.cells #[.iface 9 (.string nm),.iface 3 (.int .i64 (n:Int))] 20));have bK:Hid (Below w1.heap.size w1 w2):=hid (by rw[hw2];exact ay.alloc aH _);have D9:Hid (mF (w1.heap.size<=·) w2 (.slice (some ⟨w1.heap.size,0,none⟩) 2 2) [.str nm,.num n]):=hid (by rw[hw2];exact ER w1 (.str nm) (.num n));have HW2:=hid hw2;clear hw2;rw[<-HN.out,<-HNG.out] at HW ⊢;go_enter Tryz.func152,Tryz.ntmps152;go_upto_region 1 with fail;rw[<-HW.out];go_upto_region 9 with fail;rw[<-HW2.out];clear y0 y1 y2 y3 y4 y5 y6 y7 hwd;obtain⟨⟨y0,y1,y2,y3,y4,y5,y6,y7⟩, -⟩:=dY (HK.out w2 bK.out);go_upto_region 10 with fail;clear y0 y1 y2 y3 y4 y5 y6 y7;go_loopw [4,51] (fun s i wr=>∃(k:Nat) (xs:List Arg) (av:Option Addr) (cv:Nat),k<=n/\i=.int .i64 (k:Int)/\s=.slice av xs.length cv/\Hid (xs=.str nm::.num n::fP (ws.take k) (gs.take k))/\Hid (mF (w1.heap.size<=·) wr (.slice av xs.length cv) xs)/\Hid (BL w1 wr)) (fun _ i _=>n-(intOf i).toNat);case atStart=>exact⟨0,[.str nm,.num n],_,_,by omega,rfl,rfl,hid (by simp[fP]),D9,bK⟩
  case round=>
   obtain⟨k,xs,av,cv,hk,rfl,rfl,HX,HF,HB⟩:=hrel;obtain⟨wo,rfl⟩:=aV (wr:World);have hxl:xs.length<=1000:=by rw[HX.out];have:=BP (ws.take k) (gs.take k);simp at this ⊢;omega
   by_cases hlt:k<n
   ·have hk0:(0:Int)<=(k:Int):=by omega
    have hk1:(k:Int)<(n:Int):=by omega
    have hkw:k<ws.length:=by rw[<-HN.out];exact hlt
    have hkg:k<gs.length:=by rw[<-HNG.out];exact hlt
    obtain⟨x,hx, -,hx2⟩:=(gP.keep HV1.out (aB.below (HB.out.mono aC|>fun h=>HB.out))).at hkw;obtain⟨y,hy, -,hy2⟩:=(cH.keep Pt.out (aB.below HB.out)).at hkg;subst hx2;subst hy2
    have Rn:Hid (xs++[.str ws[k],.num gs[k]]=.str nm::.num n::fP (ws.take (k+1)) (gs.take (k+1))):=hid (by
     rw[HX.out,IE ws gs hkw hkg];rfl)
    generalize ws[k]=xw at*;generalize gs[k]=xg at*;obtain⟨⟨y0,y1,y2,y3,y4,y5,y6,y7⟩, -⟩:=dY (HK.out wo HB.out);have HbA:Hid (BL wo (wo.alloc (.cells #[.iface 9 (.string xw),.iface 3 (.int .i64 xg)] 20))):=hid (ay.alloc aH _);have HvA:=hid (vf wo [.str xw,.num xg] aZ 20);simp only[List.map_cons,List.map_nil,oe,List.length_cons,List.length_nil] at HvA;go_wp2_with (at_builtin;go_must (refine zN rfl _ _ rfl Tryz.afX rfl HF.out HbA.out rfl HvA.out mV ?_));intro v2 w3 BS ht3;obtain⟨z2,hz2⟩:=aV (xs++[.str xw,.num xg]);rw[<-hz2] at BS Rn;have Na:Hid (mF (w1.heap.size<=·) w3 v2 z2):=hid (wN.mono BS (fun b _ hb=>gX HB.out.size b hb));have bZ:Hid (BL w1 w3):=hid ((cO HB.out HbA.out).trans (ht3.below (by have:=HbA.out.size;have:=HB.out.size;omega) (fun b hb=>HF.out.2 b hb.symm)));obtain⟨a2,c2,rfl, -, -, -⟩:=(mF.sl Na.out).form;clear BS ht3 hz2 y0 y1 y2 y3 y4 y5 y6 y7;go_wp2;go_roundw;case rel=>exact⟨k+1,z2,a2,c2,by omega,by go_num,rfl,Rn,Na,bZ⟩
    simp[intOf];omega
   ·have hkn:k=n:=by omega
    have HXE:Hid (xs=.str nm::.num n::fP ws gs):=hid (by rw[HX.out,zTl (by rw[<-HN.out];omega),zTl (by rw[<-HNG.out];omega)])
    have mZ:Hid (CP 151 #[.string {data:=#[112,105,99,107]},.slice av xs.length cv] wo (IC FN w)):=hid (by
     obtain⟨g1,g2,g3⟩:=HA.out
     rw[<-HXE.out] at g1 g2 g3
     refine(BO _ xs g1 g2 _ _ wo (mF.sl HF.out) (Dp.out.next HB.out)).mono ?_
     rintro e w' ⟨s,rfl,hs,hb'⟩
     exact⟨s,rfl,by rw[hs,hFN];exact g3,(cO bf.out HB.out).trans (hb'.mono (by have:=bf.out.size;have:=HB.out.size;omega))⟩)
    go_wp2_with fail;refine mZ.out.mono ?_;rintro e w4 ⟨s,rfl,hs,hb4⟩;have HS:=hid hs;have f9:=hid hb4;clear hs hb4;go_wp2;go_ret;exact⟨s,rfl,HS.out,f9.out⟩
 ·have hwd:w1.cell? ⟨1,4,none⟩=some (.string {data:=#[100,97,121]}):=Dp.out.dc 4 aC
  have hc:((decide (o=ah.nil)||ah.aU o)&&ah.gI lo hi (-1048576) 1048576)=true:=xK.out;obtain⟨hc1,hc2⟩:=Bool.and_eq_true_iff.1 hc;have hcn:=kZ hc2
  have UL:o.size<=12:=by
   rcases Bool.or_eq_true_iff.1 hc1 with h|h
   ·rw[of_decide_eq_true h];decide
   ·exact eU h
  have hnd:=l5 o;have Pr:ah.eP o<=12:=nI UL;obtain⟨g1,g2,g3⟩:=adA nm o up (jh o) lo hi ws gs hnz Pr hnd aC hcn.2.1 aC;have mZ:=hid (fun(W:World) (hb:BL w W)=>gD {data:=#[100,97,121]} [.str nm,.str (jh o),.num lo,.num hi] g1 g2 aZ W 20 (HL0.out.next hb) w hb FN GS);exact adC
 ·have hwd:w1.cell? ⟨1,5,none⟩=some (.string {data:=#[115,116,101,112]}):=Dp.out.dc 5 aC
  have hc:(ah.aU o&&ah.gI lo hi 0 32)=true:=xK.out;obtain⟨hc1,hc2⟩:=Bool.and_eq_true_iff.1 hc;have hcn:=kZ hc2;have UL:o.size<=12:=eU hc1;have hnd:=l5 o;have Pr:ah.eP o<=12:=nI UL;obtain⟨g1,g2,g3⟩:=adB nm o up (jh o) lo hi ws gs hnz Pr hnd aC hcn.2.1 aC;have mZ:=hid (fun(W:World) (hb:BL w W)=>gD {data:=#[115,116,101,112]} [.str nm,.str (jh o),.num lo,.num hi] g1 g2 aZ W 20 (HL0.out.next hb) w hb FN GS);exact adC
 ·have hwd:w1.cell? ⟨1,6,none⟩=some (.string {data:=#[115,117,109]}):=Dp.out.dc 6 aC
  have hc:ah.aU o=true:=xK.out;have UL:o.size<=12:=eU hc;obtain⟨g1,g2,g3⟩:=adw nm o up o lo hi ws gs hnz UL;have mZ:=hid (gD {data:=#[115,117,109]} [.str nm,.str o] g1 g2 aZ w1 20 Dp.out w bf.out FN GS);exact UK
 ·have hwd:w1.cell? ⟨1,7,none⟩=some (.string {data:=#[115,104,97,114,101]}):=Dp.out.dc 7 aC
  have hc:(ah.aU o&&ah.aU up&&ah.gI lo hi 0 1048576)=true:=xK.out;obtain⟨hc0,hc3⟩:=Bool.and_eq_true_iff.1 hc;obtain⟨hc1,hc2⟩:=Bool.and_eq_true_iff.1 hc0;have hcn:=kZ hc3;have UL:o.size<=12:=eU hc1;have huz:up.size<=12:=eU hc2;obtain⟨g1,g2,g3⟩:=adx nm o up o lo hi ws gs hnz UL huz hcn.1 hcn.2.1 hcn.2.2;have mZ:=hid (gD {data:=#[115,104,97,114,101]} [.str nm,.str up,.str o,.num lo,.num hi] g1 g2 aZ w1 20 Dp.out w bf.out FN GS);exact UK
 ·have hwd:w1.cell? ⟨1,8,none⟩=some (.string {data:=#[99,111,112,121]}):=Dp.out.dc 8 aC
  have hc:(ah.aU o&&ah.aU up)=true:=xK.out;obtain⟨hc1,hc2⟩:=Bool.and_eq_true_iff.1 hc;have UL:o.size<=12:=eU hc1;have huz:up.size<=12:=eU hc2;obtain⟨g1,g2,g3⟩:=ady nm o up o lo hi ws gs hnz UL huz;have mZ:=hid (gD {data:=#[99,111,112,121]} [.str nm,.str up,.str o] g1 g2 aZ w1 20 Dp.out w bf.out FN GS);exact UK
theorem IG{α β:Type}(f:α->β)(g:β->Nat):∀l:List α,ah.bG g (l.map f)=ah.bG (fun x=>g (f x)) l
 |[]=>rfl
 |x::l=>by rw[List.map_cons,dx,dx,IG f g l]
theorem wO{x:ah.bF}(h:ah.rP x=true):ah.tT x.aI 0 1048576=true/\x.ai.length<=6/\x.aN.length<=6/\x.aO.length<=16/\(∀k∈x.ai,ah.qU k=true)/\(∀k∈x.aN,ah.vR k=true)/\∀k∈x.aO,ah.vU k=true:=by
 unfold ah.rP at h;simp only[kJ,lE,List.all_eq_true] at h;exact⟨h.1.1.1.1.1.1,h.1.1.1.1.1.2,h.1.1.1.1.2,h.1.1.1.2,h.1.1.2,h.1.2,h.2⟩
def oz(m:Int×Int):Nat:=4+(1+ah.dQ m.1)+(1+ah.dQ m.2)+1
theorem wP{s:ByteArray}(h:s=ah.nil\/ah.aU s=true):s.size<=12:=by
 rcases h with rfl|h
 ·decide
 ·exact eU h
theorem K6(x:ah.bF)(hx:ah.rP x=true)(hsz:ah.G5 x<=8192)(v:Value)(S:Nat->Prop)(w:World)(hv:fA S w v x)(Nv:LaidW w):
  Calls Tryz.prog 124 #[v] w (IC (ah.G5 x) w):=by
 obtain⟨p1,p2,p3,p4,p5,p6,p7⟩:=wO hx;obtain⟨ak,ck,al,cl,ar,cr,rfl,hk,hl,hr,hsk,hsl,hsr⟩:=hv.form;obtain⟨b,hb0⟩:=aV (w.heap.size+1);obtain⟨w1,hw1⟩:=aV ((di w x.aI (.slice ak x.ai.length ck) (.slice al x.aN.length cl) (.slice ar x.aO.length cr)).alloc (.cells #[.pointer none,.slice none 0 0] 260));have bf:Hid (Below w.heap.size w w1):=hid Oi;have HX:Hid (∀W,Below b w1 W->W.heap[w.heap.size]?=some (.cells #[.int .i64 x.aI,.slice ak x.ai.length ck,.slice al x.aN.length cl,.slice ar x.aO.length cr] 27 (0,0))):=hid (fun W hW=>(hW.block _ aC).trans Xw)
 have Xe:Hid (iH b b 0 w1):=hid (by
  have e:b=(di w x.aI (.slice ak x.ai.length ck) (.slice al x.aN.length cl) (.slice ar x.aO.length cr)).heap.size:=by rw[hb0];simp[di]
  rw[hw1,e]
  exact⟨[],rfl,Lib.fresh_isBuilder _ _ _⟩)
 have hbw:b<w1.heap.size:=by rw[hw1,hb0];simp[di]
 have hbw0:w.heap.size<b:=by omega
 have h5:5<=w.heap.size:=Nv.size;have xS:Hid (∀W,Below b w1 W->LaidW W):=hid (fun W hW=>(Nv.next bf.out).below hW aC);have HKs:Hid (∀W,Below b w1 W->gJ S W (.slice ak x.ai.length ck) x.ai):=hid (fun W hW=>hk.keep (aB.below (bf.out.trans (hW.mono aC))));have II:Hid (∀W,Below b w1 W->ux S W (.slice al x.aN.length cl) x.aN):=hid (fun W hW=>dO.keep dn hl (aB.below (bf.out.trans (hW.mono aC))));have IJ:Hid (∀W,Below b w1 W->vY S W (.slice ar x.aO.length cr) x.aO):=hid (fun W hW=>dO.keep eT hr (aB.below (bf.out.trans (hW.mono aC))));have HE:Hid (∀W,Below b w1 W->BL w W):=hid (fun W hW=>bf.out.trans (hW.mono aC));have Pu:=hid hk;have HLw:=hid hl;have HRw:=hid hr;have Nw:=hid p5;have IK:=hid p6;have K7:=hid p7;unfold di at hw1;have HW:=hid hw1;have HB0:=hid hb0;obtain⟨T,hT⟩:=aV (ah.G5 x);obtain⟨P0,hP0⟩:=aV (6+(1+ah.dQ x.aI)+1);have HT:Hid (T=P0+ah.bG ah.iO x.ai+ah.bG ah.ku x.aN+ah.bG ah.mE x.aO/\T<=8192):=hid ⟨by rw[hT,hP0];rfl,by omega⟩;rw[<-hT];have hver:=iL p1;have hdv:=dw x.aI;clear hx hsz hv Nv hk hl hr p1 p5 p6 p7 hw1 hb0 hT;obtain⟨⟨z0,z1,z2,z3⟩, -⟩:=aW (HX.out w1 ay);have hm:=gD {data:=#[115,99,104,101,109,97]} [.num x.aI] (by intro a ha;rw[nU.1 ha];simp only[iT];omega) (by rw[dx,fT];simp only[argN];have:({data:=#[115,99,104,101,109,97]}:ByteArray).size=6:=rfl;omega) aZ w1 20 (xS.out w1 ay) w1 ay P0 (by rw[dx,fT,hP0];simp only[argN];have:({data:=#[115,99,104,101,109,97]}:ByteArray).size=6:=rfl;omega);simp only[List.map_cons,List.map_nil,oe,List.length_cons,List.length_nil] at hm;have mZ:=hid hm;clear hm hP0 hver hdv;generalize x.aI=ver at*;go_enter Tryz.func124,Tryz.ntmps124;go_upto_region 2 with fail;rw[<-HW.out,<-HB0.out];go_wp2_with fail;refine mZ.out.mono ?_;rintro e w2 ⟨s,rfl,hs,hb⟩;have HD2:=hid (Xe.out.below hb);have bK:Hid (Below b w1 w2):=hid (hb.mono aC);go_wp2_with fail;refine(dR b b 0 s w2 HD2.out XH (by have:=bK.out.size;omega)).mono ?_;rintro e w3 ⟨rfl,hd,hb3, -⟩;have bZ:Hid (Below b w1 w3):=hid (bK.out.trans hb3);have YN:Hid (iH b b (P0+ah.bG ah.iO (x.ai.take 0)) w3):=hid ab7;clear hs hb hd hb3 z0 z1 z2 z3;obtain⟨⟨z0,z1,z2,z3⟩, -⟩:=aW (HX.out w3 bZ.out);go_upto_region 4 with fail;clear z0 z1 z2 z3;go_loopw [26] (fun i wr=>∃k:Nat,k<=x.ai.length/\i=.int .i64 (k:Int)/\Hid (iH b b (P0+ah.bG ah.iO (x.ai.take k)) wr)/\Hid (Below b w1 wr)) (fun i _=>x.ai.length-(intOf i).toNat);case atStart=>exact⟨0,by omega,rfl,YN,bZ⟩
 case round=>
  obtain⟨k,hk,rfl,HD,HB⟩:=hrel;obtain⟨wo,rfl⟩:=aV (wr:World);by_cases hlt:k<x.ai.length
  ·have hk0:(0:Int)<=(k:Int):=by omega
   have hk1:(k:Int)<(x.ai.length:Int):=by omega
   obtain⟨nJ, -,v0,v1,v2,uf,v3,hf⟩:=Pu.out.at hlt;have Xf:=HE.out wo HB.out;have y0:=(Xf.cell (p:=⟨bD ak,bJ ak+k*4,none⟩) nJ).trans v0;have y1:=(Xf.cell (p:=⟨bD ak,bJ ak+k*4+1,none⟩) nJ).trans v1;have y2:=(Xf.cell (p:=⟨bD ak,bJ ak+k*4+2,none⟩) nJ).trans v2;have y3:=(Xf.cell (p:=⟨bD ak,bJ ak+k*4+3,none⟩) nJ).trans v3;clear v0 v1 v2 v3 Xf;obtain⟨q1,q2,q3,q4⟩:=zI (Nw.out _ (gY hlt));have q5:=eU q1;have q6:=kZ q2;have hsum:=mY ah.iO x.ai hlt;have hle:=jr ah.iO x.ai (k+1);obtain⟨N0,hN0⟩:=aV (P0+ah.bG ah.iO (x.ai.take k));have hkN:ah.iO x.ai[k]=4+(1+x.ai[k].name.size)+(1+ah.dQ x.ai[k].lo)+(1+ah.dQ x.ai[k].hi)+1+ah.bG ah.cL x.ai[k].aA:=rfl;have HN:Hid (P0+ah.bG ah.iO (x.ai.take (k+1))=N0+(4+(1+x.ai[k].name.size)+(1+ah.dQ x.ai[k].lo)+(1+ah.dQ x.ai[k].hi)+1)+ah.bG ah.cL x.ai[k].aA/\N0+(4+(1+x.ai[k].name.size)+(1+ah.dQ x.ai[k].lo)+(1+ah.dQ x.ai[k].hi)+1)+ah.bG ah.cL x.ai[k].aA<=8192):=hid XH;rw[<-hN0] at HD;clear hsum hle hN0 hkN q1 q2;generalize x.ai[k]=kd at*;obtain⟨nm,lo,hi,fs⟩:=kd;simp only at y0 y1 y2 hf q3 q4 q5 q6 HN;obtain⟨af,cf,rfl,hsf, -, -⟩:=hf.form;have HF:Hid (∀W,Below b w1 W->dJ S W (.slice af fs.length cf) fs):=hid (fun W hW=>hf.keep (aB.below (HE.out W hW)));have Xg:=hid q4;have hd1:=dw lo;have hd2:=dw hi;clear hf q4;obtain⟨M0,UM⟩:=aV (4+(1+nm.size)+(1+ah.dQ lo)+(1+ah.dQ hi)+1);rw[<-UM] at HN;obtain⟨w5,mq⟩:=aV (wo.alloc (.cells #[.string nm,.int .i64 lo,.int .i64 hi,.slice af fs.length cf] 95));have fF:Hid (Below b w1 w5):=hid acn;have UG:Hid (iH b b N0 w5):=hid ab3;have rE:Hid (w5.heap[wo.heap.size]?=some (.cells #[.string nm,.int .i64 lo,.int .i64 hi,.slice af fs.length cf] 95 (0,0))):=hid (by rw[mq];exact aP wo _ rfl);have K8:wo.heap.size≠b:=by have:=HB.out.size;omega
   obtain⟨⟨u0,u1,u2,u3⟩, -⟩:=aW rE.out;have hm:=gD {data:=#[107,105,110,100]} [.str nm,.num lo,.num hi] (by intro a ha;simp only[kM,vE,or_false] at ha;rcases ha with rfl|rfl|rfl<;>first|trivial|(simp only[iT];omega)) (by simp only[dx,fT,argN];have:({data:=#[107,105,110,100]}:ByteArray).size=4:=rfl;omega) aZ w5 20 (xS.out w5 fF.out) w5 ay M0 (by rw[UM];simp only[dx,fT,argN];have:({data:=#[107,105,110,100]}:ByteArray).size=4:=rfl;omega);simp only[List.map_cons,List.map_nil,oe,List.length_cons,List.length_nil] at hm;have mZ:=hid hm;have AZ:=hid mq;clear hm UM hd1 hd2 q5 q6 mq;go_upto_region 6 with fail;rw[<-AZ.out];clear y0 y1 y2 y3;go_wp2_with fail;refine mZ.out.mono ?_;rintro e w6 ⟨s,rfl,hs,hb⟩;have HD6:=hid (UG.out.below hb);have jS:Hid (Below b w1 w6):=hid (fF.out.trans (hb.mono (by have:=fF.out.size;omega)));have Dg:Hid (w6.heap[wo.heap.size]?=some (.cells #[.string nm,.int .i64 lo,.int .i64 hi,.slice af fs.length cf] 95 (0,0))):=hid ((hb.block _ (aj rE.out)).trans rE.out);go_wp2_with fail;refine(dR b b N0 s w6 HD6.out GQ (by have:=jS.out.size;omega)).mono ?_;rintro e w7 ⟨rfl,hd,mr,WR⟩;have lM:Hid (Below b w1 w7):=hid (jS.out.trans mr);have HD7:Hid (iH b b (N0+M0+ah.bG ah.cL (fs.take 0)) w7):=hid ab7;have Gy:Hid (w7.heap[wo.heap.size]?=some (.cells #[.string nm,.int .i64 lo,.int .i64 hi,.slice af fs.length cf] 95 (0,0))):=hid (WR _ _ Dg.out K8 (fun cs fr e=>by simp at e));clear hs hb hd mr WR u0 u1 u2 u3 mZ;obtain⟨⟨u0,u1,u2,u3⟩, -⟩:=aW Gy.out;go_upto_region 8 with fail;clear u0 u1 u2 u3;go_loopw [45] (fun i wr=>∃j:Nat,j<=fs.length/\i=.int .i64 (j:Int)/\Hid (iH b b (N0+M0+ah.bG ah.cL (fs.take j)) wr)/\Hid (Below b w1 wr)) (fun i _=>fs.length-(intOf i).toNat);case atStart=>exact⟨0,by omega,rfl,HD7,lM⟩
   case round=>
    obtain⟨j,hj,rfl,HDi,JX⟩:=hrel;obtain⟨wi,rfl⟩:=aV (wr:World);by_cases hjl:j<fs.length
    ·have hj0:(0:Int)<=(j:Int):=by omega
     have hj1:(j:Int)<(fs.length:Int):=by omega
     obtain⟨-, -,c0,c1,c2,c3,c4,c5,uw,ug,c6,c7,hu1,lF⟩:=(HF.out wi JX.out).at hjl;have AQ:=Xg.out _ (gY hjl);have hsum:=mY ah.cL fs hjl;have hle:=jr ah.cL fs (j+1);obtain⟨N2,hN2⟩:=aV (N0+M0+ah.bG ah.cL (fs.take j));have Dl:Hid (N0+M0+ah.bG ah.cL (fs.take (j+1))=N2+ah.cL fs[j]/\N2+ah.cL fs[j]<=8192):=hid GQ;rw[<-hN2] at HDi;clear hsum hle hN2;obtain⟨a1,n1,d1,rfl⟩:∃a n c,uw=.slice a n c:=by obtain⟨a,c,e, -⟩:=hu1.form;exact⟨_,_,_,e⟩
     obtain⟨a2,n2,d2,rfl⟩:∃a n c,ug=.slice a n c:=by obtain⟨a,c,e, -⟩:=lF.form;exact⟨_,_,_,e⟩
     generalize fs[j]=fd at*;obtain⟨w8,hw8⟩:=aV (wi.alloc (.cells (cV fd (.slice a1 n1 d1) (.slice a2 n2 d2)).toArray 92));have hal:BL wi w8:=by rw[hw8];exact ay.alloc aH _
     have oT:Hid (Below b w1 w8):=hid (JX.out.trans (hal.mono (by have:=JX.out.size;omega)));have HD8:Hid (iH b b N2 w8):=hid (HDi.out.below hal);have xT:=hid (Ps fd AQ _ _ S S w8 (hu1.keep (aB.below hal)) (lF.keep (aB.below hal)) (xS.out w8 oT.out));have Hy:Hid (w8.heap[wi.heap.size]?=some (.cells (cV fd (.slice a1 n1 d1) (.slice a2 n2 d2)).toArray 92 (0,0))):=hid (by rw[hw8];exact aP wi _ rfl);obtain⟨FN,hFN⟩:=aV (ah.cL fd);rw[<-hFN] at xT Dl;clear hu1 lF AQ hal hFN;obtain⟨fn1,fo,fu,fk,fl,fh,JY,JZ⟩:=fd;simp only[cV] at hw8 Hy xT;simp only at c0 c1 c2 c3 c4 c5;obtain⟨⟨u0,u1,u2,u3,u4,u5,u6,u7⟩, -⟩:=dY Hy.out;have M5:=hid hw8;clear hw8;go_upto_region 10 with fail;rw[<-M5.out];clear c0 c1 c2 c3 c4 c5 c6 c7;go_wp2_with fail;refine xT.out.mono ?_;rintro e w9 ⟨s,rfl,hs,hb⟩;have HD9:=hid (HD8.out.below hb);have Bv:Hid (Below b w1 w9):=hid (oT.out.trans (hb.mono (by have:=oT.out.size;omega)));go_wp2_with fail;refine(dR b b N2 s w9 HD9.out (by have:=Dl.out;omega) (by have:=Bv.out.size;omega)).mono ?_;rintro e oh ⟨rfl,hd,UN, -⟩;have BU:Hid (Below b w1 oh):=hid (Bv.out.trans UN);have BV:Hid (iH b b (N0+M0+ah.bG ah.cL (fs.take (j+1))) oh):=hid (by rw[Dl.out.1,<-hs];exact hd);clear hs hb hd UN u0 u1 u2 u3 u4 u5 u6 u7;go_wp2;go_roundw;case rel=>exact⟨j+1,by omega,by go_num,BV,BU⟩
     simp[intOf];omega
    ·have hjj:j=fs.length:=by omega
     have HDe:Hid (iH b b (P0+ah.bG ah.iO (x.ai.take (k+1))) wi):=hid (by
      have:=HDi.out
      rw[hjj,List.take_length] at this
      rw[HN.out.1];exact this)
     go_wp2;go_roundw;case rel=>exact⟨k+1,by omega,by go_num,HDe,JX⟩
     simp[intOf];omega
  ·have HD4:Hid (iH b b (P0+ah.bG ah.iO x.ai+ah.bG ah.ku (x.aN.take 0)) wo):=hid (by
    have:=HD.out
    rw[show k=x.ai.length by omega,List.take_length] at this
    simpa [ah.bG] using this)
   obtain⟨⟨z0,z1,z2,z3⟩, -⟩:=aW (HX.out wo HB.out);have f9:=hid HB.out;clear HD;go_upto_region 14 with fail;clear z0 z1 z2 z3;go_loopw [57] (fun i wr=>∃k:Nat,k<=x.aN.length/\i=.int .i64 (k:Int)/\Hid (iH b b (P0+ah.bG ah.iO x.ai+ah.bG ah.ku (x.aN.take k)) wr)/\Hid (Below b w1 wr)) (fun i _=>x.aN.length-(intOf i).toNat);case atStart=>exact⟨0,by omega,rfl,HD4,f9⟩
   case round=>
    obtain⟨k,hk,rfl,HD,HB⟩:=hrel;obtain⟨wl,rfl⟩:=aV (wr:World);by_cases hlt:k<x.aN.length
    ·have hk0:(0:Int)<=(k:Int):=by omega
     have hk1:(k:Int)<(x.aN.length:Int):=by omega
     obtain⟨nJ, -,v0,us1,us2,v1,v2,hst,hmv⟩:=HLw.out.at hlt;have Xf:=HE.out wl HB.out;have y0:=(Xf.cell (p:=⟨bD al,bJ al+k*3,none⟩) nJ).trans v0;have y1:=(Xf.cell (p:=⟨bD al,bJ al+k*3+1,none⟩) nJ).trans v1;have y2:=(Xf.cell (p:=⟨bD al,bJ al+k*3+2,none⟩) nJ).trans v2;clear v0 v1 v2 Xf;obtain⟨q1,q2,q3,q4,q5⟩:=zJ (IK.out _ (gY hlt));have q6:=eU q1;have q7:=(iL q2).2;have hsum:=mY ah.ku x.aN hlt;have hle:=jr ah.ku x.aN (k+1);obtain⟨N0,hN0⟩:=aV (P0+ah.bG ah.iO x.ai+ah.bG ah.ku (x.aN.take k));have hkN:ah.ku x.aN[k]=4+(1+x.aN[k].name.size)+(1+ah.dQ x.aN[k].dM.length)+ah.bG (fun s:ByteArray=>1+s.size) x.aN[k].dM+1+ah.bG oz x.aN[k].jd:=rfl;have HN:Hid (P0+ah.bG ah.iO x.ai+ah.bG ah.ku (x.aN.take (k+1))=N0+(4+(1+x.aN[k].name.size)+(1+ah.dQ x.aN[k].dM.length)+ah.bG (fun s:ByteArray=>1+s.size) x.aN[k].dM+1)+ah.bG oz x.aN[k].jd/\N0+(4+(1+x.aN[k].name.size)+(1+ah.dQ x.aN[k].dM.length)+ah.bG (fun s:ByteArray=>1+s.size) x.aN[k].dM+1)+ah.bG oz x.aN[k].jd<=8192):=hid XH;rw[<-hN0] at HD;clear hsum hle hN0 hkN q1 q2;generalize x.aN[k]=kd at*;obtain⟨nm,ss,ms⟩:=kd;simp only at y0 hst hmv q3 q4 q5 q6 q7 HN;obtain⟨a1,c1,rfl,hs1, -, -⟩:=hst.form;obtain⟨a2,c2,rfl,hs2, -, -⟩:=hmv.form;have HSs:Hid (∀W,Below b w1 W->gP S W (.slice a1 ss.length c1) ss):=hid (fun W hW=>hst.keep (aB.below (HE.out W hW)));have HMs:Hid (∀W,Below b w1 W->Ed S W (.slice a2 ms.length c2) ms):=hid (fun W hW=>dO.keep eA hmv (aB.below (HE.out W hW)));have AY:=hid q5;have hdn:=dw (ss.length:Int);clear hst hmv q3 q5;obtain⟨M0,UM⟩:=aV (4+(1+nm.size)+(1+ah.dQ ss.length)+ah.bG (fun s:ByteArray=>1+s.size) ss+1);rw[<-UM] at HN;have HM0:=hid UM;clear UM;obtain⟨w5,mq⟩:=aV (wl.alloc (.cells #[.string nm,.slice a1 ss.length c1,.slice a2 ms.length c2] 116));have fF:Hid (Below b w1 w5):=hid acn;have UG:Hid (iH b b N0 w5):=hid ab3;have rE:Hid (w5.heap[wl.heap.size]?=some (.cells #[.string nm,.slice a1 ss.length c1,.slice a2 ms.length c2] 116 (0,0))):=hid (by rw[mq];exact aP wl _ rfl);have K8:wl.heap.size≠b:=by have:=HB.out.size;omega
     obtain⟨u0,u1,u2⟩:=EO rE.out;obtain⟨w6,ni⟩:=aV (w5.alloc (.cells #[.iface 9 (.string nm),.iface 3 (.int .i64 (ss.length:Int))] 20));have jS:Hid (Below w5.heap.size w5 w6):=hid (by rw[ni];exact ay.alloc aH _);have HF6:Hid (mF (w5.heap.size<=·) w6 (.slice (some ⟨w5.heap.size,0,none⟩) 2 2) [.str nm,.num ss.length]):=hid (by rw[ni];exact ER w5 (.str nm) (.num ss.length));have AZ:=hid mq;have ET:=hid ni;have hbz5:b<w5.heap.size:=by have:=fF.out.size;omega
     clear mq ni;go_upto_region 16 with fail;rw[<-AZ.out];clear y0 y1 y2;go_upto_region 17 with fail;rw[<-ET.out];clear u0 u1 u2;obtain⟨u0,u1,u2⟩:=EO (show w6.heap[wl.heap.size]?=_ from (jS.out.block _ (aj rE.out)).trans rE.out);go_upto_region 18 with fail;clear u0 u1 u2;go_loopw [10,72] (fun s i wr=>∃(j:Nat) (xs:List Arg) (av:Option Addr) (cv:Nat),j<=ss.length/\i=.int .i64 (j:Int)/\s=.slice av xs.length cv/\Hid (xs=.str nm::.num ss.length::(ss.take j).map Arg.str)/\Hid (mF (w5.heap.size<=·) wr (.slice av xs.length cv) xs)/\Hid (BL w5 wr)) (fun _ i _=>ss.length-(intOf i).toNat);case atStart=>exact⟨0,[.str nm,.num ss.length],_,_,by omega,rfl,rfl,hid aZ,HF6,jS⟩
     case round=>
      obtain⟨j,xs,av,cv,hj,rfl,rfl,HXs,UO,K9⟩:=hrel;obtain⟨wi,rfl⟩:=aV (wr:World);have YO:Hid (Below b w1 wi):=hid (fF.out.trans (K9.out.mono aC));have hxl:xs.length<=1000:=by rw[HXs.out];simp;omega
      by_cases hjl:j<ss.length
      ·have hj0:(0:Int)<=(j:Int):=by omega
       have hj1:(j:Int)<(ss.length:Int):=by omega
       obtain⟨xw,hx, -,hx2⟩:=(HSs.out wi YO.out).at hjl;subst hx2
       have Rn:Hid (xs++[.str ss[j]]=.str nm::.num ss.length::(ss.take (j+1)).map Arg.str):=hid (by
        rw[HXs.out,Gu hjl,List.map_append];rfl)
       generalize ss[j]=sw at*;have HbA:Hid (BL wi (wi.alloc (.cells #[.iface 9 (.string sw)] 20))):=hid (ay.alloc aH _);have HvA:=hid (vf wi [.str sw] aZ 20);simp only[List.map_cons,List.map_nil,oe,List.length_cons,List.length_nil] at HvA;go_wp2_with (at_builtin;go_must (refine zN rfl _ _ rfl Tryz.afX rfl UO.out HbA.out rfl HvA.out mV ?_));intro v2 w3 BS ht3;obtain⟨z2,hz2⟩:=aV (xs++[.str sw]);rw[<-hz2] at BS Rn;have Na:Hid (mF (w5.heap.size<=·) w3 v2 z2):=hid (wN.mono BS (fun b _ hb=>gX K9.out.size b hb));have sH:Hid (BL w5 w3):=hid ((cO K9.out HbA.out).trans (ht3.below (by have:=HbA.out.size;have:=K9.out.size;omega) (fun b hb=>UO.out.2 b hb.symm)));obtain⟨a3,c3,rfl, -, -, -⟩:=(mF.sl Na.out).form;clear BS ht3 hz2 hx;go_wp2;go_roundw;case rel=>exact⟨j+1,z2,a3,c3,by omega,by go_num,rfl,Rn,Na,sH⟩
       simp[intOf];omega
      ·have HXE:Hid (xs=.str nm::.num ss.length::ss.map Arg.str):=hid (by rw[HXs.out,zTl aC])
       have mZ:Hid (CP 151 #[.string {data:=#[108,105,102,101]},.slice av xs.length cv] wi (IC M0 wi)):=hid (by
        have jI:ah.bG argN xs=(1+nm.size)+((1+ah.dQ ss.length)+ah.bG (fun s:ByteArray=>1+s.size) ss):=by rw[HXE.out,dx,dx,IG];rfl
        have h4:({data:=#[108,105,102,101]}:ByteArray).size=4:=rfl
        have hM:=HM0.out
        have hNb:=HN.out.2
        refine(BO _ xs (by
         rw[HXE.out]
         intro a ha
         rcases kM.1 ha with rfl|ha
         ·trivial
         ·rcases kM.1 ha with rfl|ha
          ·simp only[iT];omega
          ·obtain⟨y, -,rfl⟩:=List.mem_map.1 ha;trivial) aC _ _ wi (mF.sl UO.out) (xS.out wi YO.out)).mono ?_
        rintro e w' ⟨s,rfl,hs,hb'⟩
        exact⟨s,rfl,by rw[hs];omega,hb'⟩)
       have HDi:Hid (iH b b N0 wi):=hid (UG.out.below K9.out);have Ap:Hid (wi.heap[wl.heap.size]?=some (.cells #[.string nm,.slice a1 ss.length c1,.slice a2 ms.length c2] 116 (0,0))):=hid ((K9.out.block _ (aj rE.out)).trans rE.out);go_wp2_with fail;refine mZ.out.mono ?_;rintro e w7 ⟨s,rfl,hs,hb⟩;have HD7:=hid (HDi.out.below hb);have lM:Hid (Below b w1 w7):=hid (YO.out.trans (hb.mono (by have:=YO.out.size;omega)));have Gy:Hid (w7.heap[wl.heap.size]?=some (.cells #[.string nm,.slice a1 ss.length c1,.slice a2 ms.length c2] 116 (0,0))):=hid ((hb.block _ (aj Ap.out)).trans Ap.out);go_wp2_with fail;refine(dR b b N0 s w7 HD7.out GQ (by have:=lM.out.size;omega)).mono ?_;rintro e w8 ⟨rfl,hd,oU,hk8⟩;have oT:Hid (Below b w1 w8):=hid (lM.out.trans oU);have HD8:Hid (iH b b (N0+M0+ah.bG oz (ms.take 0)) w8):=hid ab7;have Hy:Hid (w8.heap[wl.heap.size]?=some (.cells #[.string nm,.slice a1 ss.length c1,.slice a2 ms.length c2] 116 (0,0))):=hid (hk8 _ _ Gy.out K8 (fun cs fr e=>by simp at e));clear hs hb hd oU hk8 mZ;obtain⟨u0,u1,u2⟩:=EO Hy.out;go_upto_region 24 with fail;clear u0 u1 u2;go_loopw [88] (fun i wr=>∃j:Nat,j<=ms.length/\i=.int .i64 (j:Int)/\Hid (iH b b (N0+M0+ah.bG oz (ms.take j)) wr)/\Hid (Below b w1 wr)) (fun i _=>ms.length-(intOf i).toNat);case atStart=>exact⟨0,by omega,rfl,HD8,oT⟩
       case round=>
        obtain⟨m,hm,rfl,HDm,HBm⟩:=hrel;obtain⟨wm,rfl⟩:=aV (wr:World);by_cases hml:m<ms.length
        ·have hm0:(0:Int)<=(m:Int):=by omega
         have hm1:(m:Int)<(ms.length:Int):=by omega
         obtain⟨-, -,y0,y1⟩:=(HMs.out wm HBm.out).at hml;have hmb:=AY.out _ (gY hml);have hsum:=mY oz ms hml;have hle:=jr oz ms (m+1);obtain⟨N2,hN2⟩:=aV (N0+M0+ah.bG oz (ms.take m));have Dl:Hid (N0+M0+ah.bG oz (ms.take (m+1))=N2+oz ms[m]/\N2+oz ms[m]<=8192):=hid GQ;rw[<-hN2] at HDm;clear hsum hle hN2;generalize ms[m]=mv at*;obtain⟨m1,m2⟩:=mv;simp only at y0 y1
         have hmr:0<=m1/\m1<=100/\0<=m2/\m2<=100:=by
          unfold ah.Bf at hmb;obtain⟨g1,g2⟩:=Bool.and_eq_true_iff.1 hmb;have g3:=iL g1;have g4:=iL g2;simp only at g3 g4;omega
         have hd1:=dw m1;have hd2:=dw m2;obtain⟨w9,Xh⟩:=aV (wm.alloc (.cells #[.int .i64 m1,.int .i64 m2] 117));have hal:BL wm w9:=by rw[Xh];exact ay.alloc aH _
         have Bv:Hid (Below b w1 w9):=hid (HBm.out.trans (hal.mono (by have:=HBm.out.size;omega)));have HD9:Hid (iH b b N2 w9):=hid (HDm.out.below hal);have u0:w9.cell? ⟨wm.heap.size,0,none⟩=some (.int .i64 m1):=by rw[Xh];simp
         have u1:w9.cell? ⟨wm.heap.size,1,none⟩=some (.int .i64 m2):=by rw[Xh];simp
         have hmd:=gD {data:=#[109,111,118,101]} [.num m1,.num m2] (by intro a ha;simp only[kM,vE,or_false] at ha;rcases ha with rfl|rfl<;>(simp only[iT];omega)) (by simp only[dx,fT,argN];have:({data:=#[109,111,118,101]}:ByteArray).size=4:=rfl;omega) aZ w9 20 (xS.out w9 Bv.out) w9 ay (oz (m1,m2)) (by simp only[dx,fT,argN,oz];have:({data:=#[109,111,118,101]}:ByteArray).size=4:=rfl;omega);simp only[List.map_cons,List.map_nil,oe,List.length_cons,List.length_nil] at hmd;have mZ:=hid hmd;have HW9:=hid Xh;clear hmd hmb hmr hd1 hd2 hal Xh;go_upto_region 26 with fail;rw[<-HW9.out];clear y0 y1;go_wp2_with fail;refine mZ.out.mono ?_;rintro e oh ⟨s,rfl,hs,hb⟩;have BV:=hid (HD9.out.below hb);have BU:Hid (Below b w1 oh):=hid (Bv.out.trans (hb.mono (by have:=Bv.out.size;omega)));go_wp2_with fail;refine(dR b b N2 s oh BV.out (by have:=Dl.out;omega) (by have:=BU.out.size;omega)).mono ?_;rintro e Tw ⟨rfl,hd,Pv, -⟩;have adD:Hid (Below b w1 Tw):=hid (BU.out.trans Pv);have La:Hid (iH b b (N0+M0+ah.bG oz (ms.take (m+1))) Tw):=hid (by rw[Dl.out.1,<-hs];exact hd);clear hs hb hd Pv u0 u1 mZ;go_wp2;go_roundw;case rel=>exact⟨m+1,by omega,by go_num,La,adD⟩
         simp[intOf];omega
        ·have hmm:m=ms.length:=by omega
         have HDe:Hid (iH b b (P0+ah.bG ah.iO x.ai+ah.bG ah.ku (x.aN.take (k+1))) wm):=hid (by
          have:=HDm.out
          rw[hmm,List.take_length] at this
          rw[HN.out.1];exact this)
         go_wp2;go_roundw;case rel=>exact⟨k+1,by omega,by go_num,HDe,HBm⟩
         simp[intOf];omega
    ·have HD6:Hid (iH b b (P0+ah.bG ah.iO x.ai+ah.bG ah.ku x.aN+ah.bG ah.mE (x.aO.take 0)) wl):=hid (by
      have:=HD.out
      rw[show k=x.aN.length by omega,List.take_length] at this
      simpa [ah.bG] using this)
     obtain⟨⟨z0,z1,z2,z3⟩, -⟩:=aW (HX.out wl HB.out);have jS:=hid HB.out;clear HD;go_upto_region 30 with fail;clear z0 z1 z2 z3;go_loopw [106] (fun i wr=>∃k:Nat,k<=x.aO.length/\i=.int .i64 (k:Int)/\Hid (iH b b (P0+ah.bG ah.iO x.ai+ah.bG ah.ku x.aN+ah.bG ah.mE (x.aO.take k)) wr)/\Hid (Below b w1 wr)) (fun i _=>x.aO.length-(intOf i).toNat);case atStart=>exact⟨0,by omega,rfl,HD6,jS⟩
     case round=>
      obtain⟨k,hk,rfl,HD,HB⟩:=hrel;obtain⟨wq,rfl⟩:=aV (wr:World);by_cases hlt:k<x.aO.length
      ·have hk0:(0:Int)<=(k:Int):=by omega
       have hk1:(k:Int)<(x.aO.length:Int):=by omega
       obtain⟨-, -,y0,y1,y2,y3,y4⟩:=vY.at (IJ.out wq HB.out) hlt;obtain⟨q1,q2,q3,q4, -,q6⟩:=zK (K7.out _ (gY hlt));have q1:=eU q1;have q2:=eU q2;have q3:=nI (wP q3);have q4:=nI (wP q4);have q6:=iL q6;have hsum:=mY ah.mE x.aO hlt;have hle:=jr ah.mE x.aO (k+1);obtain⟨N0,hN0⟩:=aV (P0+ah.bG ah.iO x.ai+ah.bG ah.ku x.aN+ah.bG ah.mE (x.aO.take k));have HN:Hid (P0+ah.bG ah.iO x.ai+ah.bG ah.ku x.aN+ah.bG ah.mE (x.aO.take (k+1))=N0+ah.mE x.aO[k]/\N0+ah.mE x.aO[k]<=8192):=hid XH;rw[<-hN0] at HD;clear hsum hle hN0;generalize x.aO[k]=rd at*;obtain⟨nm,kn,ra,rb,rn⟩:=rd;simp only at y0 y1 y2 y3 y4 q1 q2 q3 q4 q6;obtain⟨M0,UM⟩:=aV (ah.mE ⟨nm,kn,ra,rb,rn⟩);rw[<-UM] at HN;have hMe:M0=4+(1+nm.size)+(1+kn.size)+(1+ah.eP ra)+(1+ah.eP rb)+(1+ah.dQ rn)+1:=UM;obtain⟨w5,mq⟩:=aV (wq.alloc (.cells #[.string nm,.string kn,.string ra,.string rb,.int .i64 rn] 119));have fF:Hid (Below b w1 w5):=hid acn;have UG:Hid (iH b b N0 w5):=hid ab3;have rE:Hid (w5.heap[wq.heap.size]?=some (.cells #[.string nm,.string kn,.string ra,.string rb,.int .i64 rn] 119 (0,0))):=hid (by rw[mq];exact aP wq _ rfl);have hbz5:b<w5.heap.size:=by have:=fF.out.size;omega
       obtain⟨⟨u0,u1,u2,u3,u4⟩, -⟩:=mL rE.out;have hna:=l5 ra;have hnb:=l5 rb;have hdn:=dw rn;have mZ:=hid (fun(W:World) (hb:BL w5 W)=>gD {data:=#[114,117,108,101]} [.str nm,.str kn,.str (jh ra),.str (jh rb),.num rn] (by intro a ha;simp only[kM,vE,or_false] at ha;rcases ha with rfl|rfl|rfl|rfl|rfl<;>first|trivial|(simp only[iT];omega)) aeJ aZ W 20 (xS.out W (fF.out.trans (hb.mono aC))) W ay M0 aeJ);simp only[List.map_cons,List.map_nil,oe,List.length_cons,List.length_nil] at mZ;have HNa:=hid (fun W=>yA ra W);have HNb:=hid (fun W=>yA rb W);generalize jh ra=na at*;generalize jh rb=nb at*;have AZ:=hid mq;clear hna hnb hdn hMe UM mq q1 q2 q3 q4 q6;go_upto_region 32 with fail;rw[<-AZ.out];clear y0 y1 y2 y3 y4;have Dk:=dL w5 ⟨wq.heap.size,0,none⟩ (.string nm) fun xh=>(xh.2.cell (p:=⟨wq.heap.size,0,none⟩) (aj rE.out)).trans u0;have hq1:=dL w5 ⟨wq.heap.size,1,none⟩ (.string kn) fun xh=>(xh.2.cell (p:=⟨wq.heap.size,1,none⟩) (aj rE.out)).trans u1;have uE:=dL w5 ⟨wq.heap.size,2,none⟩ (.string ra) fun xh=>(xh.2.cell (p:=⟨wq.heap.size,2,none⟩) (aj rE.out)).trans u2;have hq3:=dL w5 ⟨wq.heap.size,3,none⟩ (.string rb) fun xh=>(xh.2.cell (p:=⟨wq.heap.size,3,none⟩) (aj rE.out)).trans u3;have MJ:=dL w5 ⟨wq.heap.size,4,none⟩ (.int .i64 rn) fun xh=>(xh.2.cell (p:=⟨wq.heap.size,4,none⟩) (aj rE.out)).trans u4;refine dS 17 (.quiet 0 (.quiet 1 (.quiet 2 (.quiet 3 (.quiet 4 (.quiet 5 (.quiet 6 (.quiet 7 (.quiet 10 (.quiet 11 (.quiet 14 (.quiet 15 (.quiet 16 (.one 8 (.quiet 9 (.one 12 (.quiet 13 .done))))))))))))))))) (BL w5) lN (by kernel_rfl) (aG ay 1) ?_;have uZ:=hid (aG (Below.refl w5.heap.size w5) 1);generalize w5.drewN 1=w6 at*;clear u0 u1 u2 u3 u4
       iterate 13 refine eB ?_
       refine aM rfl ?_;go_wp2_with fail;refine(HNa.out w6).mono ?_;rintro e w7 ⟨rfl,mr⟩;have lM:=hid (cO uZ.out mr);clear mr;go_wp2_with fail;refine aD (BL w5) (fun _ h=>h) lM.out ?_;refine eB ?_;refine aM rfl ?_;go_wp2_with fail;refine(HNb.out w7).mono ?_;rintro e w8 ⟨rfl,oU⟩;have oT:=aJ lM oU;clear oU;go_wp2_with fail;refine aD (BL w5) (fun _ h=>h) oT.out ?_;refine eB ?_;have HLn8:=hid (mZ.out w8 oT.out);have HD8:Hid (iH b b N0 w8):=hid (UG.out.below oT.out);have afY:Hid (Below b w1 w8):=hid (fF.out.trans (oT.out.mono aC));refine aT ?_;try simp only[iW,iX]
       clear Dk hq1 uE hq3 MJ;go_wp2_with fail;refine HLn8.out.mono ?_;rintro e w9 ⟨s,rfl,hs,hb⟩;have HD9:=hid (HD8.out.below hb);have Bv:Hid (Below b w1 w9):=hid (afY.out.trans (hb.mono (by have:=afY.out.size;omega)));go_wp2_with fail;refine(dR b b N0 s w9 HD9.out GQ (by have:=Bv.out.size;omega)).mono ?_;rintro e oh ⟨rfl,hd,UN, -⟩;have BU:Hid (Below b w1 oh):=hid (Bv.out.trans UN);have BV:Hid (iH b b (P0+ah.bG ah.iO x.ai+ah.bG ah.ku x.aN+ah.bG ah.mE (x.aO.take (k+1))) oh):=hid (by rw[HN.out.1,<-hs];exact hd);clear hs hb hd UN;go_wp2;go_roundw;case rel=>exact⟨k+1,by omega,by go_num,BV,BU⟩
       simp[intOf];omega
      ·have HDt:Hid (iH b b T wq):=hid (by
        have:=HD.out
        rw[show k=x.aO.length by omega,List.take_length] at this
        rw[HT.out.1];exact this)
       have rJ:=hid (BN b b T wq HDt.out aeM);go_wp2_with fail;refine rJ.out.mono ?_;rintro e w3 ⟨s,rfl,hs,hb3⟩;have HS:=hid hs;have HBe:=hid (HE.out w3 (HB.out.trans hb3));clear hs hb3;go_wp2;go_ret;exact⟨s,rfl,HS.out,HBe.out⟩
theorem adE{a b:ByteArray}(h:¬(a=ah.nil/\b=ah.nil)):(a++b).toList.isEmpty=false:=by
 refine sI fun e=>h ?_;have hs:(a++b).size=0:=by rw[e];rfl
 rw[ByteArray.size_append] at hs;have ha:a.size=0:=by omega
 have hb:b.size=0:=by omega
 exact⟨ByteArray.ext (Array.eq_empty_of_size_eq_zero ha),ByteArray.ext (Array.eq_empty_of_size_eq_zero hb)⟩
theorem aa4{p:Prop}(h:p:=by
  rintro e w4 ⟨rfl,hb⟩
  have f9:=aJ bZ hb
  have jM:=aJ gj hb
  clear hb y0 y1 y2 y3 y4
  obtain⟨⟨y0,y1,y2,y3,y4⟩, -⟩:=mL (HK.out w4 jM.out)
  go_wp2_with fail
  refine(H6.out _).mono ?_
  rintro e w' ⟨rfl,rfl⟩
  go_wp2
  go_ret
  exact⟨rfl,f9.out⟩):p:=h
theorem Lb(r:ah.xX)(hr:ah.vU r=true)(w:World):
  Calls Tryz.prog 123 #[.agg #[.string r.name,.string r.kind,.string r.a,.string r.b,.int .i64 r.n]] w fun e w'=>e=.returned (.bool true)/\BL w w':=by
 obtain⟨q1,q2,q3,q4,q5,q6⟩:=zK hr;obtain⟨nm,kn,ra,rb,rn⟩:=r;simp only at q1 q2 q3 q4 q5 q6 ⊢;have H1:=hid (fun W=>dA nm W);have H2:=hid (fun W=>dA kn W);have H6:=hid (fun W=>gK rn (-1048576) 1048576 W);rw[q1] at H1;rw[q2] at H2;rw[q6] at H6;have hcat:=adE q5;have hra:=wP q3;have hrb:=wP q4;obtain⟨w1,hw1⟩:=aV (w.alloc (.cells #[.string nm,.string kn,.string ra,.string rb,.int .i64 rn] 119));have bf:Hid (Below w.heap.size w w1):=hid ud;have HK:Hid (∀W,BL w1 W->W.heap[w.heap.size]?=some (.cells #[.string nm,.string kn,.string ra,.string rb,.int .i64 rn] 119 (0,0))):=hid (fun W hW=>(hW.block _ tr).trans Oh);have HW:=hid hw1;clear hw1 hr q1 q2 q6;obtain⟨⟨y0,y1,y2,y3,y4⟩, -⟩:=mL (HK.out w1 ay);have Dp:Hid (BL w1 w1):=hid ay;by_cases ha:ra=ah.nil
 ·have hb:¬rb=ah.nil:=fun e=>q5 ⟨ha,e⟩
  subst ha;have hbe:=sI hb;have Rq:=hid (fun W=>dA rb W);rw[q4.resolve_left hb] at Rq;clear q3 q4 q5;unfold ah.nil at*;go_enter Tryz.func123,Tryz.ntmps123;go_upto_region 1 with fail;rw[<-HW.out];go_wp2_with fail;refine(H1.out _).mono ?_;rintro e w2 ⟨rfl,hb⟩;have bK:=aJ bf hb;have eC:=aJ Dp hb;clear hb y0 y1 y2 y3 y4;obtain⟨⟨y0,y1,y2,y3,y4⟩, -⟩:=mL (HK.out w2 eC.out);go_wp2_with fail;refine(H2.out _).mono ?_;rintro e w3 ⟨rfl,hb⟩;have bZ:=aJ bK hb;have gj:=aJ eC hb;clear hb y0 y1 y2 y3 y4;obtain⟨⟨y0,y1,y2,y3,y4⟩, -⟩:=mL (HK.out w3 gj.out);go_wp2_with fail;refine(Rq.out _).mono ?_;exact aa4
 ·by_cases hb:rb=ah.nil
  ·have hae:=sI ha
   have HA:=hid (fun W=>dA ra W);rw[q3.resolve_left ha] at HA;subst hb;clear q3 q4 q5;unfold ah.nil at*;go_enter Tryz.func123,Tryz.ntmps123;go_upto_region 1 with fail;rw[<-HW.out];go_wp2_with fail;refine(H1.out _).mono ?_;rintro e w2 ⟨rfl,hb⟩;have bK:=aJ bf hb;have eC:=aJ Dp hb;clear hb y0 y1 y2 y3 y4;obtain⟨⟨y0,y1,y2,y3,y4⟩, -⟩:=mL (HK.out w2 eC.out);go_wp2_with fail;refine(H2.out _).mono ?_;rintro e w3 ⟨rfl,hb⟩;have bZ:=aJ bK hb;have gj:=aJ eC hb;clear hb y0 y1 y2 y3 y4;obtain⟨⟨y0,y1,y2,y3,y4⟩, -⟩:=mL (HK.out w3 gj.out);go_wp2_with fail;refine(HA.out _).mono ?_;exact aa4
  ·have hae:=sI ha
   have HA:=hid (fun W=>dA ra W);rw[q3.resolve_left ha] at HA;have hbe:=sI hb;have Rq:=hid (fun W=>dA rb W);rw[q4.resolve_left hb] at Rq;clear q3 q4 q5;go_enter Tryz.func123,Tryz.ntmps123;go_upto_region 1 with fail;rw[<-HW.out];go_wp2_with fail;refine(H1.out _).mono ?_;rintro e w2 ⟨rfl,hb⟩;have bK:=aJ bf hb;have eC:=aJ Dp hb;clear hb y0 y1 y2 y3 y4;obtain⟨⟨y0,y1,y2,y3,y4⟩, -⟩:=mL (HK.out w2 eC.out);go_wp2_with fail;refine(H2.out _).mono ?_;rintro e w3 ⟨rfl,hb⟩;have bZ:=aJ bK hb;have gj:=aJ eC hb;clear hb y0 y1 y2 y3 y4;obtain⟨⟨y0,y1,y2,y3,y4⟩, -⟩:=mL (HK.out w3 gj.out);go_wp2_with fail;refine(HA.out _).mono ?_;rintro e w4 ⟨rfl,hb⟩;have f9:=aJ bZ hb;have jM:=aJ gj hb;clear hb y0 y1 y2 y3 y4;obtain⟨⟨y0,y1,y2,y3,y4⟩, -⟩:=mL (HK.out w4 jM.out);go_wp2_with fail;refine(Rq.out _).mono ?_;rintro e w5 ⟨rfl,hb⟩;have fF:=aJ f9 hb;have jQ:=aJ jM hb;clear hb y0 y1 y2 y3 y4;obtain⟨⟨y0,y1,y2,y3,y4⟩, -⟩:=mL (HK.out w5 jQ.out);go_wp2_with fail;refine(H6.out _).mono ?_;rintro e w' ⟨rfl,rfl⟩;go_wp2;go_ret;exact⟨rfl,fF.out⟩
theorem UQ{p:Prop}(h:p:=by
  have:ks.all (fun _=>true)=true:=by simp
  rwa [this] at H):p:=h
theorem Pw(ks:List ah.eZ)(hk:∀k∈ks,ah.qU k=true)(v:Value)(S:Nat->Prop)(w:World)(hv:gJ S w v ks):
  Calls Tryz.prog 118 #[v,.func (.func 119) #[] #[]] w fun e w'=>e=.returned (.bool true)/\BL w w':=by
 have H:=adk cT ks (fun _=>true) v S w hv 119 #[] (bE Tryz.func119 (by kernel_rfl) rfl) (fun X _ j hj us _ hu=>by
  obtain⟨uf,rfl,h1⟩:=hu;exact KZ ks[j] (hk _ (gY hj)) uf S X h1)
 exact UQ
theorem Px(ks:List ah.Gv)(hk:∀k∈ks,ah.vR k=true)(v:Value)(S:Nat->Prop)(w:World)(hv:ux S w v ks):
  Calls Tryz.prog 120 #[v,.func (.func 121) #[] #[]] w fun e w'=>e=.returned (.bool true)/\BL w w':=by
 have H:=adl dn ks (fun _=>true) v S w hv 121 #[] (bE Tryz.func121 (by kernel_rfl) rfl) (fun X _ j hj us _ hu=>by
  obtain⟨u1,u2,rfl,h1,h2⟩:=hu;exact K0 ks[j] (hk _ (gY hj)) u1 u2 S X h1 h2)
 exact UQ
theorem Py(ks:List ah.xX)(hk:∀k∈ks,ah.vU k=true)(v:Value)(S:Nat->Prop)(w:World)(hv:vY S w v ks):
  Calls Tryz.prog 122 #[v,.func (.func 123) #[] #[]] w fun e w'=>e=.returned (.bool true)/\BL w w':=by
 have H:=adn eT ks (fun _=>true) v S w hv 123 #[] (bE Tryz.func123 (by kernel_rfl) rfl) (fun X _ j hj us _ hu=>by
  have hu:us=[.string ks[j].name,.string ks[j].kind,.string ks[j].a,.string ks[j].b,.int .i64 ks[j].n]:=hu;subst hu;exact Lb ks[j] (hk _ (gY hj)) X)
 exact UQ
theorem Aq(x:ah.bF)(hx:ah.d9 x=0)(v:Value)(S:Nat->Prop)(w:World)(hv:fA S w v x)(Nv:LaidW w):
  Calls Tryz.prog 88 #[v] w fun e w'=>e=.returned (.int .i64 0)/\BL w w':=by
 have Pg:ah.rP x=true/\ah.G5 x<=8192:=by
  unfold ah.d9 at hx;split at hx
  ·rename_i h
   refine⟨h,?_⟩;split at hx
   ·omega
   ·omega
  ·omega
 obtain⟨p1,p2,p3,p4,p5,p6,p7⟩:=wO Pg.1;have hv0:=hv;obtain⟨ak,ck,al,cl,ar,cr,rfl,hk,hl,hr,hsk,hsl,hsr⟩:=hv.form;obtain⟨w1,hw1⟩:=aV (di w x.aI (.slice ak x.ai.length ck) (.slice al x.aN.length cl) (.slice ar x.aO.length cr));have bf:=r9 hw1;have HX:=wv hw1;have H1:=hid (fun W=>gK x.aI 0 1048576 W);rw[p1] at H1;have HKs:=hid (fun(W:World) (hW:BL w W)=>Pw x.ai p5 _ S W (hk.keep (aB.below hW)));have II:=hid (fun(W:World) (hW:BL w W)=>Px x.aN p6 _ S W (dO.keep dn hl (aB.below hW)));have IJ:=hid (fun(W:World) (hW:BL w W)=>Py x.aO p7 _ S W (dO.keep eT hr (aB.below hW)));have HSo:=hid (fun(W:World) (hW:BL w W)=>K6 x Pg.1 Pg.2 _ S W (hv0.keep (aB.below hW)) (Nv.next hW));have HT:=hid Pg.2;unfold di at hw1;have HW:=hid hw1;clear hx hv Nv hk hl hr p1 p5 p6 p7 hw1 hv0 Pg;have h2:¬(6:Int)<x.ai.length:=by omega
 have h3:¬(6:Int)<x.aN.length:=by omega
 have h4:¬(16:Int)<x.aO.length:=by omega
 generalize ah.G5 x=T at*;generalize x.ai.length=nk at*;generalize x.aN.length=nl at*;generalize x.aO.length=nr at*;generalize x.aI=ver at*;obtain⟨⟨y0,y1,y2,y3⟩, -⟩:=aW (HX.out w1 ay);go_enter Tryz.func88,Tryz.ntmps88;go_upto_region 1 with fail;rw[<-HW.out];go_wp2_with fail;refine(H1.out _).mono ?_;rintro e w' ⟨rfl,rfl⟩;go_wp2_with fail;refine(HKs.out _ bf.out).mono ?_;rintro e w2 ⟨rfl,hb⟩;have eC:=hid hb;have bK:=aJ bf hb;clear hb y0 y1 y2 y3;obtain⟨⟨y0,y1,y2,y3⟩, -⟩:=aW (HX.out w2 eC.out);go_wp2_with fail;refine(II.out _ bK.out).mono ?_;rintro e w3 ⟨rfl,hb⟩;have gj:=aJ eC hb;have bZ:=aJ bK hb;clear hb y0 y1 y2 y3;obtain⟨⟨y0,y1,y2,y3⟩, -⟩:=aW (HX.out w3 gj.out);go_wp2_with fail;refine(IJ.out _ bZ.out).mono ?_;rintro e w4 ⟨rfl,hb⟩;have jM:=aJ gj hb;have f9:=aJ bZ hb;clear hb y0 y1 y2 y3;obtain⟨⟨y0,y1,y2,y3⟩, -⟩:=aW (HX.out w4 jM.out);go_wp2_with fail;refine(HSo.out _ f9.out).mono ?_;rintro e w5 ⟨s,rfl,hs,hb⟩;have fF:=aJ f9 hb;have h8:¬(8192:Int)<s.size:=by have:=HT.out;omega
 clear hb hs y0 y1 y2 y3;go_wp2;go_ret;exact⟨rfl,fF.out⟩
theorem IL{p:Prop}(h:p:=by
  go_wp2
  go_ret
  exact⟨by rw[<-HD.out];rfl,ay.alloc aH _⟩):p:=h
theorem Lc(nm s:ByteArray)(lo hi:Int)(uf:Value)(b:Nat)(w:World)(hb:w.cell? ⟨b,0,none⟩=some (.string s)):
  Calls Tryz.prog 156 #[.agg #[.string nm,.int .i64 lo,.int .i64 hi,uf],.pointer (some ⟨b,0,none⟩)] w fun e w'=>e=.returned (.bool (decide (nm=s)))/\BL w w':=by
 have hz:b<w.heap.size:=xN w _ hb;have HD:Hid ((nm.toList==s.toList)=decide (nm=s)):=hid Kj;go_enter Tryz.func156,Tryz.ntmps156;exact IL
theorem IQ(f:ah.dh)(s:ByteArray)(uw ug:Value)(b:Nat)(w:World)(hb:w.cell? ⟨b,0,none⟩=some (.string s)):
  Calls Tryz.prog 128 #[.agg (cV f uw ug).toArray,.pointer (some ⟨b,0,none⟩)] w fun e w'=>e=.returned (.bool (decide (f.name=s)))/\BL w w':=by
 have hz:b<w.heap.size:=xN w _ hb;have HD:Hid ((f.name.toList==s.toList)=decide (f.name=s)):=hid Kj;obtain⟨nm,o,up,k,lo,hi,ws,gs⟩:=f;simp only[cV] at HD ⊢;go_enter Tryz.func128,Tryz.ntmps128;exact IL
theorem aa5{p:Prop}(h:p:=by
  go_upto_region 1 with fail
  rw[<-HW.out]
  go_wp2_with fail
  refine HK.out.mono ?_
  rintro e w' ⟨rfl,hb⟩
  have HB:=aJ bf hb
  clear hb
  go_wp2
  go_ret
  exact⟨rfl,HB.out⟩):p:=h
theorem pS(x:ah.bF)(s:ByteArray)(v:Value)(S:Nat->Prop)(w:World)(hv:fA S w v x):
  Calls Tryz.prog 126 #[v,.string s] w fun e w'=>e=.returned (.int .i64 (ah.cU x s))/\BL w w':=by
 obtain⟨ak,ck,al,cl,ar,cr,rfl,hk,hl,hr,hsk,hsl,hsr⟩:=hv.form;obtain⟨w1,hw1⟩:=aV ((di w x.aI (.slice ak x.ai.length ck) (.slice al x.aN.length cl) (.slice ar x.aO.length cr)).alloc (.cells #[.string s] 9));have bf:Hid (Below w.heap.size w w1):=hid Oi;have HX:Hid (w1.heap[w.heap.size]?=some (.cells #[.int .i64 x.aI,.slice ak x.ai.length ck,.slice al x.aN.length cl,.slice ar x.aO.length cr] 27 (0,0))):=hid Xw;have HC:Hid (w1.cell? ⟨w.heap.size+1,0,none⟩=some (.string s)):=hid (by rw[hw1];unfold di;simp);have hz:w.heap.size+1<w1.heap.size:=by rw[hw1];simp[di]
 have HK:=hid (Uc cT x.ai (fun k:ah.eZ=>decide (k.name=s)) _ S w1 (hk.keep (aB.below bf.out)) 156 #[.pointer (some ⟨w.heap.size+1,0,none⟩)] (bE Tryz.func156 (by kernel_rfl) rfl) (fun X hX j hj us _ hu=>by
  obtain⟨uf,rfl,h1⟩:=hu;exact Lc _ s _ _ uf _ X ((hX.cell (p:=⟨w.heap.size+1,0,none⟩) hz).trans HC.out)))
 have HI:Hid (ah.fV (fun k:ah.eZ=>decide (k.name=s)) x.ai 0=ah.cU x s):=hid rfl;rw[HI.out] at HK;generalize ah.cU x s=z at*;unfold di at hw1;have HW:=hid hw1;clear hv hk hl hr hw1;obtain⟨⟨y0,y1,y2,y3⟩, -⟩:=aW HX.out;go_enter Tryz.func126,Tryz.ntmps126;exact aa5
theorem lg(k:ah.eZ)(s:ByteArray)(uf:Value)(S:Nat->Prop)(w:World)(hv:dJ S w uf k.aA):
  Calls Tryz.prog 94 #[.agg (lU k uf).toArray,.string s] w fun e w'=>e=.returned (.int .i64 (ah.bB k s))/\BL w w':=by
 obtain⟨af,cf,rfl,hsf, -, -⟩:=hv.form;obtain⟨w1,hw1⟩:=aV ((w.alloc (.cells (lU k (.slice af k.aA.length cf)).toArray 95)).alloc (.cells #[.string s] 9));have bf:Hid (Below w.heap.size w w1):=hid aci;have HX:Hid (w1.heap[w.heap.size]?=some (.cells (lU k (.slice af k.aA.length cf)).toArray 95 (0,0))):=hid ab4;have HC:Hid (w1.cell? ⟨w.heap.size+1,0,none⟩=some (.string s)):=hid tr;have hz:w.heap.size+1<w1.heap.size:=by rw[hw1];simp
 have HK:=hid (Ub bg k.aA (fun f:ah.dh=>decide (f.name=s)) _ S w1 (hv.keep (aB.below bf.out)) 128 #[.pointer (some ⟨w.heap.size+1,0,none⟩)] (bE Tryz.func128 (by kernel_rfl) rfl) (fun X hX j hj us _ hu=>by
  obtain⟨uw,ug,rfl,h1,h2⟩:=hu;exact IQ k.aA[j] s uw ug _ X ((hX.cell (p:=⟨w.heap.size+1,0,none⟩) hz).trans HC.out)))
 have HI:Hid (ah.fV (fun f:ah.dh=>decide (f.name=s)) k.aA 0=ah.bB k s):=hid rfl;rw[HI.out] at HK;generalize ah.bB k s=z at*;clear hv;obtain⟨nm,lo,hi,fs⟩:=k;simp only[lU] at hw1 HX HK ⊢;generalize fs.length=n at*;have HW:=hid hw1;clear hw1;obtain⟨⟨y0,y1,y2,y3⟩, -⟩:=aW HX.out;go_enter Tryz.func94,Tryz.ntmps94;exact aa5
def jZ(x:ah.bF)(i j:Int):ah.dh:=if ah.hasB x i j=true then ah.fd x i j else ah.vQ
def AtP(x:ah.bF)(i j:Int)(S:Nat->Prop)(w:World)(e:Ending)(w':World):Prop:=
 ∃a1 n1 c1 a2 n2 c2,e=.returned (.tuple #[.agg (cV (jZ x i j) (.slice a1 n1 c1) (.slice a2 n2 c2)).toArray,.bool (ah.hasB x i j)])/\
  (∀W,BL w W->gP S W (.slice a1 n1 c1) (jZ x i j).dc/\cH S W (.slice a2 n2 c2) (jZ x i j).bX)/\BL w w'
theorem F3{w:World}{g:Nat}{x0 x1 x2 x3 x4 x5 x6 x7 bd:Value}{tmps:Array Value}(h:w.heap[g]?=some (.cells #[x0,x1,x2,x3,x4,x5,x6,x7] 92 (0,0)))(hp:tmps[6]?=some (.pointer (some ⟨g,0,none⟩)))(hq:tmps[7]?=some bd):
  (results Tryz.f131 tmps).run Tryz.prog w=.ok (.tuple #[.agg #[x0,x1,x2,x3,x4,x5,x6,x7],bd]) w:=by
 obtain⟨⟨h0,h1,h2,h3,h4,h5,h6,h7⟩, -⟩:=dY h;simp[results,Tryz.results131,go_sem,hp,hq,h0,h1,h2,h3,h4,h5,h6,h7]
theorem Nx{x:ah.bF}{i j:Int}{S:Nat->Prop}{w w':World}(h:ah.hasB x i j=false)(hb:BL w w'):
  AtP x i j S w (.returned (.tuple #[.agg #[.string {data:=#[]},.string {data:=#[]},.string {data:=#[]},.int .i64 0,.int .i64 0,.int .i64 0,.slice none 0 0,.slice none 0 0],.bool false])) w':=by
 have e:jZ x i j=ah.vQ:=by unfold jZ;rw[h];rfl
 refine⟨none,0,0,none,0,0,?_,fun W _=>?_,hb⟩
 ·rw[e,h];rfl
 ·rw[e];exact⟨gQ.nil _ _ _,gQ.nil _ _ _⟩
theorem UR{p:Prop}(h:p:=by
  go_enter Tryz.func131,Tryz.ntmps131
  go_upto_region 1 with fail
  rw[<-HW.out]
  go_wp2
  exact bodyPost_ret (F3 (UU.out _ _ _ _ _ _ _ _) rfl rfl) rfl (Nx HA.out (rJ.out _ _ _ _ _ _ _ _))):p:=h
theorem mN(x:ah.bF)(i j:Int)(v:Value)(S:Nat->Prop)(w:World)(hv:fA S w v x):
  Calls Tryz.prog 131 #[v,.int .i64 i,.int .i64 j] w (AtP x i j S w):=by
 obtain⟨ak,ck,al,cl,ar,cr,rfl,hk,hl,hr,hsk,hsl,hsr⟩:=hv.form;obtain⟨w1,hw1⟩:=aV ((di w x.aI (.slice ak x.ai.length ck) (.slice al x.aN.length cl) (.slice ar x.aO.length cr)).alloc (.cells #[.string {data:=#[]},.string {data:=#[]},.string {data:=#[]},.int .i64 0,.int .i64 0,.int .i64 0,.slice none 0 0,.slice none 0 0] 92));have bf:Hid (Below w.heap.size w w1):=hid Oi;have HX:Hid (w1.heap[w.heap.size]?=some (.cells #[.int .i64 x.aI,.slice ak x.ai.length ck,.slice al x.aN.length cl,.slice ar x.aO.length cr] 27 (0,0))):=hid Xw;have HG:Hid (w1.heap[w.heap.size+1]?=some (.cells #[.string {data:=#[]},.string {data:=#[]},.string {data:=#[]},.int .i64 0,.int .i64 0,.int .i64 0,.slice none 0 0,.slice none 0 0] 92 (0,0))):=hid Ke;have Yz:=hid (hk.keep (aB.below bf.out));have Pu:=hid hk;unfold di at hw1;have HW:=hid hw1
 have rJ:Hid (∀y0 y1 y2 y3 y4 y5 y6 y7:Value,BL w ((((((((w1.setCell ⟨w.heap.size+1,0,none⟩ y0).setCell ⟨w.heap.size+1,1,none⟩ y1).setCell ⟨w.heap.size+1,2,none⟩ y2).setCell ⟨w.heap.size+1,3,none⟩ y3).setCell ⟨w.heap.size+1,4,none⟩ y4).setCell ⟨w.heap.size+1,5,none⟩ y5).setCell ⟨w.heap.size+1,6,none⟩ y6).setCell ⟨w.heap.size+1,7,none⟩ y7)):=hid (fun y0 y1 y2 y3 y4 y5 y6 y7=>by
  have:=Kh HG.out y0 y1 y2 y3 y4 y5 y6 y7;exact bf.out.trans (Turns.below this.2 bf.out.size (fun b hb=>by omega)))
 clear hv hk hl hr hw1;obtain⟨⟨y0,y1,y2,y3⟩, -⟩:=aW HX.out;obtain⟨⟨g0,g1,g2,g3,g4,g5,g6,g7⟩,gf⟩:=dY HG.out;obtain⟨n,hn⟩:=aV x.ai.length;have HN:=hid hn;rw[<-hn] at y1 hsk Yz Pu HX HW ⊢;clear hn;have hset:=fun y0 y1 y2 y3 y4 y5 y6 y7=>(Kh HG.out y0 y1 y2 y3 y4 y5 y6 y7).1;have UU:=hid hset;clear hset;by_cases h1:i<0
 ·have HA:Hid (ah.hasB x i j=false):=hid aeQ
  exact UR
 ·by_cases h2:(n:Int)<=i
  ·have HA:Hid (ah.hasB x i j=false):=hid (by unfold ah.hasB;rw[decide_eq_false (show ¬i<x.ai.length by rw[<-HN.out];omega)];simp)
   exact UR
  ·by_cases h3:j<0
   ·have HA:Hid (ah.hasB x i j=false):=hid aeN
    exact UR
   ·obtain⟨m,rfl⟩:∃m:Nat,i=(m:Int):=⟨i.toNat,by omega⟩
    have hm:m<x.ai.length:=by rw[<-HN.out];omega
    have hm0:(0:Int)<=m:=by omega
    have hm1:(m:Int)<n:=by omega
    have HA:Hid (ah.hasB x m j=decide (j<(x.ai[m].aA.length:Int))):=hid (by
     unfold ah.hasB
     rw[decide_eq_true hm0,decide_eq_true (show (m:Int)<x.ai.length by rw[<-HN.out];omega),decide_eq_true (show 0<=j by omega),gm hm];rfl)
    obtain⟨nJ, -, -, -, -,uf,v3,hf⟩:=Pu.out.at hm;obtain⟨a,cap,rfl,hsa, -, -⟩:=hf.form;have c3:=(bf.out.cell (p:=⟨bD ak,bJ ak+m*4+3,none⟩) nJ).trans v3;clear v3;by_cases h4:(x.ai[m].aA.length:Int)<=j
    ·have uG:Hid (ah.hasB x m j=false):=hid (by rw[HA.out];exact decide_eq_false aC)
     clear hf;generalize x.ai[m].aA.length=q at*;go_enter Tryz.func131,Tryz.ntmps131;go_upto_region 1 with fail;rw[<-HW.out];go_wp2;exact bodyPost_ret (F3 (UU.out _ _ _ _ _ _ _ _) rfl rfl) rfl (Nx uG.out (rJ.out _ _ _ _ _ _ _ _))
    ·obtain⟨p,rfl⟩:∃p:Nat,j=(p:Int):=⟨j.toNat,by omega⟩
     have hp:p<x.ai[m].aA.length:=by omega
     have hp0:(0:Int)<=p:=by omega
     have hp1:(p:Int)<x.ai[m].aA.length:=by omega
     have uG:Hid (ah.hasB x m p=true):=hid (by rw[HA.out];exact decide_eq_true aC);have HF:Hid (jZ x m p=x.ai[m].aA[p]):=hid (by unfold jZ;rw[uG.out];exact uF hm hp);obtain⟨J2, -,d0,d1,d2,d3,d4,d5,uw,ug,d6,d7,hu1,lF⟩:=hf.at hp;obtain⟨a1,n1,e1,rfl⟩:∃a n c,uw=.slice a n c:=by obtain⟨a,c,e, -⟩:=hu1.form;exact⟨_,_,_,e⟩
     obtain⟨a2,n2,e2,rfl⟩:∃a n c,ug=.slice a n c:=by obtain⟨a,c,e, -⟩:=lF.form;exact⟨_,_,_,e⟩
     have d0:=(bf.out.cell (p:=⟨bD a,bJ a+p*8,none⟩) J2).trans d0;have d1:=(bf.out.cell (p:=⟨bD a,bJ a+p*8+1,none⟩) J2).trans d1;have d2:=(bf.out.cell (p:=⟨bD a,bJ a+p*8+2,none⟩) J2).trans d2;have d3:=(bf.out.cell (p:=⟨bD a,bJ a+p*8+3,none⟩) J2).trans d3;have d4:=(bf.out.cell (p:=⟨bD a,bJ a+p*8+4,none⟩) J2).trans d4;have d5:=(bf.out.cell (p:=⟨bD a,bJ a+p*8+5,none⟩) J2).trans d5;have d6:=(bf.out.cell (p:=⟨bD a,bJ a+p*8+6,none⟩) J2).trans d6;have d7:=(bf.out.cell (p:=⟨bD a,bJ a+p*8+7,none⟩) J2).trans d7
     have pH:Hid (∀w',BL w w'->AtP x m p S w (.returned (.tuple #[.agg (cV x.ai[m].aA[p] (.slice a1 n1 e1) (.slice a2 n2 e2)).toArray,.bool true])) w'):=hid (fun w' hb=>
      ⟨a1,n1,e1,a2,n2,e2,by rw[HF.out,uG.out],fun W hW=>by rw[HF.out];exact⟨hu1.keep (aB.below hW),lF.keep (aB.below hW)⟩,hb⟩)
     clear hf hu1 lF;generalize x.ai[m].aA[p]=f at*;obtain⟨fn1,fo,fu,fk,fl,fh,JY,JZ⟩:=f;simp only[cV] at pH;simp only at d0 d1 d2 d3 d4 d5;clear hp;generalize x.ai[m].aA.length=q at*;go_enter Tryz.func131,Tryz.ntmps131;go_upto_region 1 with fail;rw[<-HW.out];go_wp2;exact bodyPost_ret (F3 (UU.out _ _ _ _ _ _ _ _) rfl rfl) rfl (pH.out _ (rJ.out _ _ _ _ _ _ _ _))
theorem adF{x:ah.bF}{i j:Int}(h:ah.hasB x i j=false):ah.dV x i j= -1:=by unfold ah.dV;rw[h];rfl
theorem Pz{x:ah.bF}{i j:Int}(h:ah.hasB x i j=true)(h7:¬(ah.fd x i j).kind=7)(h8:¬(ah.fd x i j).kind=8)(h1:¬(ah.fd x i j).kind=1):ah.dV x i j= -1:=by
 unfold ah.dV;rw[if_pos h];simp only;rw[if_neg aC,if_neg h1]
theorem IU{x:ah.bF}{i j:Int}(h:ah.hasB x i j=true)(h1:(ah.fd x i j).kind=1):ah.dV x i j=ah.tU x i (ah.fd x i j):=by
 unfold ah.dV;rw[if_pos h];simp only;rw[if_neg aC,if_pos h1]
theorem PA{x:ah.bF}{i j:Int}(h:ah.hasB x i j=true)(h7:(ah.fd x i j).kind=7\/(ah.fd x i j).kind=8):ah.dV x i j=if ah.hasB x i (ah.bB (ah.kd x i) (ah.fd x i j).up)=true/\ah.bB (ah.kd x i) (ah.fd x i j).up<j/\(ah.fd x i (ah.bB (ah.kd x i) (ah.fd x i j).up)).kind=1 then ah.tU x i (ah.fd x i (ah.bB (ah.kd x i) (ah.fd x i j).up)) else -1:=by
 unfold ah.dV;rw[if_pos h];simp only;rw[if_pos h7]
theorem wQ{x:ah.bF}{i j:Int}(h:ah.hasB x i j=true):jZ x i j=ah.fd x i j:=by unfold jZ;rw[if_pos h]
theorem Ny(x:ah.bF)(i j:Int)(h7:¬(jZ x i j).kind=7)(h8:¬(jZ x i j).kind=8)(v:Value)(S:Nat->Prop)(w:World)(hv:fA S w v x):
  Calls Tryz.prog 101 #[v,.int .i64 i,.int .i64 j] w fun e w'=>e=.returned (.int .i64 (ah.dV x i j))/\BL w w':=by
 obtain⟨ak,ck,al,cl,ar,cr,rfl,hk,hl,hr,hsk,hsl,hsr⟩:=hv.form;have HV:=hid (fun(W:World) (hW:BL w W)=>hv.keep (aB.below hW));have Pu:=hid hk;obtain⟨w1,hw1⟩:=aV (di w x.aI (.slice ak x.ai.length ck) (.slice al x.aN.length cl) (.slice ar x.aO.length cr));have bf:=r9 hw1;have HX:=wv hw1;unfold di at hw1;have HW:=hid hw1;clear hv hk hl hr hw1;obtain⟨⟨y0,y1,y2,y3⟩, -⟩:=aW (HX.out w1 ay);cases hb:ah.hasB x i j with
 |false=>
  have HE:=hid (adF hb)
  go_enter Tryz.func101,Tryz.ntmps101
  go_upto_region 1 with fail
  rw[<-HW.out]
  go_wp2_with fail
  refine(mN x i j _ S w1 (HV.out w1 bf.out)).mono ?_
  rintro e w2 ⟨a1,n1,c1,a2,n2,c2,rfl, -,hb2⟩
  have eC:Hid (BL w1 w2):=hid hb2
  have bK:=aJ bf hb2
  clear hb2 y0 y1 y2 y3
  rw[hb]
  clear hb
  have HBf:Hid (∀o,BL w (w2.alloc o)):=hid fun o=>bK.out.alloc bK.out.size _
  generalize jZ x i j=f at*
  obtain⟨fn1,fo,fu,fk,fl,fh,JY,JZ⟩:=f
  simp only[cV]
  go_wp2
  go_ret
  exact⟨by rw[HE.out];rfl,HBf.out _⟩
 |true=>
  have hat:=wQ hb
  by_cases h1:(jZ x i j).kind=1
  ·have HE:Hid (ah.dV x i j=ah.tU x i (jZ x i j)):=hid (by rw[hat] at h1 ⊢;exact IU hb h1)
   go_enter Tryz.func101,Tryz.ntmps101;go_upto_region 1 with fail;rw[<-HW.out];go_wp2_with fail;refine(mN x i j _ S w1 (HV.out w1 bf.out)).mono ?_;rintro e w2 ⟨a1,n1,c1,a2,n2,c2,rfl, -,hb2⟩;have eC:Hid (BL w1 w2):=hid hb2;have bK:=aJ bf hb2;clear hb2 y0 y1 y2 y3;rw[hb];clear hb hat;obtain⟨f,hf⟩:=aV (jZ x i j);rw[<-hf];have HF:=hid hf;clear hf;obtain⟨w3,hw3⟩:=aV (w2.alloc (.cells (cV f (.slice a1 n1 c1) (.slice a2 n2 c2)).toArray 92));have gj:Hid (Below w1.heap.size w1 w3):=hid J9;have bZ:Hid (Below w.heap.size w w3):=hid QZ;have uD:Hid (w3.heap[w2.heap.size]?=some (.cells (cV f (.slice a1 n1 c1) (.slice a2 n2 c2)).toArray 92 (0,0))):=hid RL;have HW3:=hid hw3;clear hw3;rw[<-HF.out] at h1 h7 h8 HE;obtain⟨fn1,fo,fu,fk,fl,fh,JY,JZ⟩:=f;simp only[cV] at uD HW3 ⊢;obtain⟨⟨u0,u1,u2,u3,u4,u5,u6,u7⟩, -⟩:=dY uD.out;obtain⟨⟨y0,y1,y2,y3⟩, -⟩:=aW (HX.out w3 gj.out);simp only at h1 h7 h8;subst h1;have Ap:=hid (pS x fo _ S w3 (HV.out w3 bZ.out));have HR:Hid (ah.dV x i j=if ah.cU x fo<i then ah.cU x fo else -1):=hid (by rw[HE.out];rfl);have hkr: -1<=ah.cU x fo:=ah.jq _ _ _;generalize ah.cU x fo=kz at*;go_upto_region 2 with fail;rw[<-HW3.out];go_wp2_with fail;refine Ap.out.mono ?_;rintro e w4 ⟨rfl,hb4⟩;have f9:=aJ bZ hb4;clear hb4;by_cases hlt:kz<i
   ·have Dm:Hid (ah.dV x i j=kz):=hid (by rw[HR.out,if_pos hlt])
    go_wp2;go_ret;exact⟨by rw[Dm.out];rfl,f9.out⟩
   ·have Dm:Hid (ah.dV x i j= -1):=hid (by rw[HR.out,if_neg hlt])
    go_wp2;go_ret;exact⟨by rw[Dm.out];rfl,f9.out⟩
  ·have HE:Hid (ah.dV x i j= -1):=hid (by rw[hat] at h1 h7 h8;exact Pz hb h7 h8 h1)
   go_enter Tryz.func101,Tryz.ntmps101;go_upto_region 1 with fail;rw[<-HW.out];go_wp2_with fail;refine(mN x i j _ S w1 (HV.out w1 bf.out)).mono ?_;rintro e w2 ⟨a1,n1,c1,a2,n2,c2,rfl, -,hb2⟩;have eC:Hid (BL w1 w2):=hid hb2;have bK:=aJ bf hb2;clear hb2 y0 y1 y2 y3;rw[hb];clear hb hat;obtain⟨f,hf⟩:=aV (jZ x i j);rw[<-hf];have HF:=hid hf;clear hf;obtain⟨w3,hw3⟩:=aV (w2.alloc (.cells (cV f (.slice a1 n1 c1) (.slice a2 n2 c2)).toArray 92));have gj:Hid (Below w1.heap.size w1 w3):=hid J9;have bZ:Hid (Below w.heap.size w w3):=hid QZ;have uD:Hid (w3.heap[w2.heap.size]?=some (.cells (cV f (.slice a1 n1 c1) (.slice a2 n2 c2)).toArray 92 (0,0))):=hid RL;have HW3:=hid hw3;clear hw3;rw[<-HF.out] at h1 h7 h8;obtain⟨fn1,fo,fu,fk,fl,fh,JY,JZ⟩:=f;simp only[cV] at uD HW3 ⊢;obtain⟨⟨u0,u1,u2,u3,u4,u5,u6,u7⟩, -⟩:=dY uD.out;obtain⟨⟨y0,y1,y2,y3⟩, -⟩:=aW (HX.out w3 gj.out);simp only at h1 h7 h8;have e1:(fk==7)=false:=by simpa using h7
   have e2:(fk==8)=false:=by simpa using h8
   have e3:(fk !=1)=true:=by simpa using h1
   go_upto_region 2 with fail;rw[<-HW3.out];go_wp2;go_ret;exact⟨by rw[HE.out];rfl,bZ.out⟩
theorem F4(x:ah.bF)(i j:Int)(v:Value)(S:Nat->Prop)(w:World)(hv:fA S w v x):
  Calls Tryz.prog 101 #[v,.int .i64 i,.int .i64 j] w fun e w'=>e=.returned (.int .i64 (ah.dV x i j))/\BL w w':=by
 by_cases hsh:(jZ x i j).kind=7\/(jZ x i j).kind=8
 ·have hb:ah.hasB x i j=true:=by
   cases hb:ah.hasB x i j
   ·unfold jZ at hsh
    rw[hb] at hsh;simp[ah.vQ] at hsh
   ·rfl
  have hat:=wQ hb;obtain⟨m,p,rfl,rfl,hm,hp⟩:=Ib hb
  have hUp:ah.dV x (m:Int) (p:Int)=if ah.hasB x m (ah.bB (ah.kd x m) (jZ x m p).up)=true/\ah.bB (ah.kd x m) (jZ x m p).up<p/\(ah.fd x m (ah.bB (ah.kd x m) (jZ x m p).up)).kind=1 then ah.tU x m (ah.fd x m (ah.bB (ah.kd x m) (jZ x m p).up)) else -1:=by
   rw[hat] at hsh ⊢;exact PA hb hsh
  have Nz:=hid hUp;clear hUp;obtain⟨ak,ck,al,cl,ar,cr,rfl,hk,hl,hr,hsk,hsl,hsr⟩:=hv.form;have HV:=hid (fun(W:World) (hW:BL w W)=>hv.keep (aB.below hW));have Pu:=hid hk;obtain⟨w1,hw1⟩:=aV (di w x.aI (.slice ak x.ai.length ck) (.slice al x.aN.length cl) (.slice ar x.aO.length cr));have bf:=r9 hw1;have HX:=wv hw1;unfold di at hw1;have HW:=hid hw1;clear hv hk hl hr hw1;obtain⟨⟨y0,y1,y2,y3⟩, -⟩:=aW (HX.out w1 ay);obtain⟨nJ, -,k0,k1,k2,uf,k3,oK⟩:=Pu.out.at hm;obtain⟨af,cf,rfl, -, -, -⟩:=oK.form
  have vG:Hid (∀W,BL w W->W.cell? ⟨bD ak,bJ ak+m*4,none⟩=some (.string x.ai[m].name)/\W.cell? ⟨bD ak,bJ ak+m*4+1,none⟩=some (.int .i64 x.ai[m].lo)/\W.cell? ⟨bD ak,bJ ak+m*4+2,none⟩=some (.int .i64 x.ai[m].hi)/\W.cell? ⟨bD ak,bJ ak+m*4+3,none⟩=some (.slice af x.ai[m].aA.length cf)):=hid (fun W hW=>
   ⟨(hW.cell (p:=⟨bD ak,bJ ak+m*4,none⟩) nJ).trans k0,(hW.cell (p:=⟨bD ak,bJ ak+m*4+1,none⟩) nJ).trans k1,(hW.cell (p:=⟨bD ak,bJ ak+m*4+2,none⟩) nJ).trans k2,(hW.cell (p:=⟨bD ak,bJ ak+m*4+3,none⟩) nJ).trans k3⟩)
  have GH:=hid (fun(s:ByteArray) (W:World) (hW:BL w W)=>lg x.ai[m] s _ S W (oK.keep (aB.below hW)));rw[<-gm hm] at GH;have hm0:(0:Int)<=m:=by omega
  have hm1:(m:Int)<x.ai.length:=by omega
  have Rs:Hid ((ah.kd x m).aA.length=x.ai[m].aA.length):=hid (by rw[gm hm]);clear k0 k1 k2 k3 oK;go_enter Tryz.func101,Tryz.ntmps101;go_upto_region 1 with fail;rw[<-HW.out];go_wp2_with fail;refine(mN x (m:Int) (p:Int) _ S w1 (HV.out w1 bf.out)).mono ?_;rintro e w2 ⟨a1,n1,c1,a2,n2,c2,rfl, -,hb2⟩;have eC:Hid (BL w1 w2):=hid hb2;have bK:=aJ bf hb2;clear hb2 y0 y1 y2 y3;rw[hb];clear hb hat;obtain⟨f,hf⟩:=aV (jZ x (m:Int) (p:Int));rw[<-hf];have HF:=hid hf;clear hf;obtain⟨w3,hw3⟩:=aV (w2.alloc (.cells (cV f (.slice a1 n1 c1) (.slice a2 n2 c2)).toArray 92));have gj:Hid (Below w1.heap.size w1 w3):=hid J9;have bZ:Hid (Below w.heap.size w w3):=hid QZ;have uD:Hid (w3.heap[w2.heap.size]?=some (.cells (cV f (.slice a1 n1 c1) (.slice a2 n2 c2)).toArray 92 (0,0))):=hid RL;have HW3:=hid hw3;clear hw3;rw[<-HF.out] at hsh Nz;obtain⟨fn1,fo,fu,fk,fl,fh,JY,JZ⟩:=f;simp only[cV] at uD HW3 ⊢;obtain⟨⟨u0,u1,u2,u3,u4,u5,u6,u7⟩, -⟩:=dY uD.out;obtain⟨⟨y0,y1,y2,y3⟩, -⟩:=aW (HX.out w3 gj.out);simp only at hsh Nz;obtain⟨uz,huz⟩:=aV (ah.bB (ah.kd x m) fu);have KR: -1<=uz:=by rw[huz];exact ah.jq _ _ _
  rw[<-huz] at Nz;have xT:=hid (fun(X:nX w3)=>Calls.qi (x:=X) (GH.out fu X.1 (cO bZ.out X.2)));rw[<-huz] at xT;clear huz;have hzw:w2.heap.size<w3.heap.size:=aj uD.out;have hzw0:w.heap.size<w3.heap.size:=aj (HX.out w3 gj.out);have hzka:bD ak<w3.heap.size:=by have:=bZ.out.size;omega
  obtain⟨YP,YQ,YR,YS⟩:=vG.out w3 bZ.out
  have hd:∀k,k=fk->(k==7||k==8)=true:=fun k e=>by
   subst e;rcases hsh with h|h<;>rw[h]<;>rfl
  have Rt:Hid (fk=7\/fk=8):=hid hsh;clear hsh hd;generalize (ah.kd x m).name=kn at*;rw[gm hm] at xT;obtain⟨kdd,hkd⟩:=aV (x.ai[m]);rw[<-hkd] at xT YP YQ YR YS;clear hkd;obtain⟨kn2,EU,EV,DU⟩:=kdd;simp only[lU] at xT;simp only at YP YQ YR YS;generalize DU.length=nf at*;have go5:∀(Q:Prop),(fk=7->Q)->(fk=8->Q)->Q:=fun Q h1 h2=>Rt.out.elim h1 h2;refine go5 _ ?_ ?_
  all_goals
   intro UW
   subst UW
   clear go5
   go_upto_region 2 with fail
   rw[<-HW3.out]
   go_wp2
   have hg:=nX.cell (w:=w3)
   refine fQ (by kernel_rfl) (by kernel_rfl) ?_
   repeat (go_big_quiet_step ((exact xT.out _)))
   refine fS ?_
   intro w4 hx
   have hb4:=ny hx
   have jM:=aJ gj hb4
   have f9:=aJ bZ hb4
   clear hx hg hb4 y0 y1 y2 y3 u0 u1 u2 u3 u4 u5 u6 u7 YP YQ YR YS
   obtain⟨⟨y0,y1,y2,y3⟩, -⟩:=aW (HX.out w4 jM.out)
   go_wp2_with fail
   refine(mN x (m:Int) uz _ S w4 (HV.out w4 f9.out)).mono ?_
   rintro e w5 ⟨b1,m1,d1,b2,m2,d2,rfl, -,jR⟩
   have jQ:=aJ jM jR
   have fF:=aJ f9 jR
   clear jR y0 y1 y2 y3
   cases hb2:ah.hasB x (m:Int) uz with
   |false=>
    have HE:Hid (ah.dV x (m:Int) (p:Int)= -1):=hid (by rw[Nz.out,if_neg (by rw[hb2];simp)])
    clear hb2
    obtain⟨f2,hf2⟩:=aV (jZ x (m:Int) uz)
    rw[<-hf2]
    have D9:=hid hf2
    clear hf2
    obtain⟨w6,ni⟩:=aV (w5.alloc (.cells (cV f2 (.slice b1 m1 d1) (.slice b2 m2 d2)).toArray 92))
    have BW:Hid (Below w1.heap.size w1 w6):=hid Xx
    have jS:Hid (Below w.heap.size w w6):=hid Xy
    have Dg:Hid (w6.heap[w5.heap.size]?=some (.cells (cV f2 (.slice b1 m1 d1) (.slice b2 m2 d2)).toArray 92 (0,0))):=hid XB
    have ET:=hid ni
    clear ni
    obtain⟨gn1,go,gu,gk,gl,gh,J3,ggs⟩:=f2
    simp only[cV] at Dg ET ⊢
    obtain⟨⟨u0,u1,u2,u3,u4,u5,u6,u7⟩, -⟩:=dY Dg.out
    obtain⟨⟨y0,y1,y2,y3⟩, -⟩:=aW (HX.out w6 BW.out)
    go_upto_region 7 with fail
    rw[<-ET.out]
    go_wp2
    go_ret
    exact⟨by rw[HE.out];rfl,jS.out⟩
   |true=>
    have IV:=wQ hb2
    by_cases hlt:uz<(p:Int)
    ·by_cases h1:(jZ x (m:Int) uz).kind=1
     ·have HE:Hid (ah.dV x (m:Int) (p:Int)=ah.dV x (m:Int) uz):=hid (by
       have h1':=h1
       rw[IV] at h1'
       rw[Nz.out,if_pos ⟨hb2,hlt,h1'⟩,IU hb2 h1'])
      have HU1:=hid (fun W (hW:BL w W)=>Ny x (m:Int) uz aC aC _ S W (HV.out W hW));clear hb2 IV;obtain⟨f2,hf2⟩:=aV (jZ x (m:Int) uz);rw[<-hf2];have D9:=hid hf2;rw[<-hf2] at h1;clear hf2;obtain⟨w6,ni⟩:=aV (w5.alloc (.cells (cV f2 (.slice b1 m1 d1) (.slice b2 m2 d2)).toArray 92));have BW:Hid (Below w1.heap.size w1 w6):=hid Xx;have jS:Hid (Below w.heap.size w w6):=hid Xy;have Dg:Hid (w6.heap[w5.heap.size]?=some (.cells (cV f2 (.slice b1 m1 d1) (.slice b2 m2 d2)).toArray 92 (0,0))):=hid XB;have ET:=hid ni;clear ni;obtain⟨gn1,go,gu,gk,gl,gh,J3,ggs⟩:=f2;simp only[cV] at Dg ET ⊢;obtain⟨⟨u0,u1,u2,u3,u4,u5,u6,u7⟩, -⟩:=dY Dg.out;obtain⟨⟨y0,y1,y2,y3⟩, -⟩:=aW (HX.out w6 BW.out);go_upto_region 7 with fail;rw[<-ET.out];simp only at h1;subst h1;have HU6:=hid (HU1.out w6 jS.out);generalize ah.dV x (m:Int) uz=rz at*;go_wp2_with fail;refine HU6.out.mono ?_;rintro e w7 ⟨rfl,mr⟩;have lM:=aJ jS mr;clear mr;go_wp2;go_ret;exact⟨by rw[HE.out];rfl,lM.out⟩
     ·have HE:Hid (ah.dV x (m:Int) (p:Int)= -1):=hid (by
       have h1':=h1
       rw[IV] at h1'
       rw[Nz.out,if_neg (fun h=>h1' h.2.2)])
      clear hb2 IV;obtain⟨f2,hf2⟩:=aV (jZ x (m:Int) uz);rw[<-hf2];have D9:=hid hf2;rw[<-hf2] at h1;clear hf2;obtain⟨w6,ni⟩:=aV (w5.alloc (.cells (cV f2 (.slice b1 m1 d1) (.slice b2 m2 d2)).toArray 92));have BW:Hid (Below w1.heap.size w1 w6):=hid Xx;have jS:Hid (Below w.heap.size w w6):=hid Xy;have Dg:Hid (w6.heap[w5.heap.size]?=some (.cells (cV f2 (.slice b1 m1 d1) (.slice b2 m2 d2)).toArray 92 (0,0))):=hid XB;have ET:=hid ni;clear ni;obtain⟨gn1,go,gu,gk,gl,gh,J3,ggs⟩:=f2;simp only[cV] at Dg ET ⊢;obtain⟨⟨u0,u1,u2,u3,u4,u5,u6,u7⟩, -⟩:=dY Dg.out;obtain⟨⟨y0,y1,y2,y3⟩, -⟩:=aW (HX.out w6 BW.out);go_upto_region 7 with fail;rw[<-ET.out];simp only at h1;have e1:(gk==1)=false:=by simpa using h1
      go_wp2;go_ret;exact⟨by rw[HE.out];rfl,jS.out⟩
    ·have HE:Hid (ah.dV x (m:Int) (p:Int)= -1):=hid (by rw[Nz.out,if_neg (fun h=>hlt h.2.1)])
     clear hb2 IV;obtain⟨f2,hf2⟩:=aV (jZ x (m:Int) uz);rw[<-hf2];have D9:=hid hf2;clear hf2;obtain⟨w6,ni⟩:=aV (w5.alloc (.cells (cV f2 (.slice b1 m1 d1) (.slice b2 m2 d2)).toArray 92));have BW:Hid (Below w1.heap.size w1 w6):=hid Xx;have jS:Hid (Below w.heap.size w w6):=hid Xy;have Dg:Hid (w6.heap[w5.heap.size]?=some (.cells (cV f2 (.slice b1 m1 d1) (.slice b2 m2 d2)).toArray 92 (0,0))):=hid XB;have ET:=hid ni;clear ni;obtain⟨gn1,go,gu,gk,gl,gh,J3,ggs⟩:=f2;simp only[cV] at Dg ET ⊢;obtain⟨⟨u0,u1,u2,u3,u4,u5,u6,u7⟩, -⟩:=dY Dg.out;obtain⟨⟨y0,y1,y2,y3⟩, -⟩:=aW (HX.out w6 BW.out);go_upto_region 7 with fail;rw[<-ET.out];go_wp2;go_ret;exact⟨by rw[HE.out];rfl,jS.out⟩
 ·exact Ny x i j (fun h=>hsh (.inl h)) (fun h=>hsh (.inr h)) v S w hv
theorem yC(n:Nat)(cs:Nat->Int)(g cap:Nat)(w:World)(hn:n<=100)(hg:g<w.heap.size)(hc:∀i,i<n->w.cell? ⟨g,i*2,none⟩=some (.bool false)/\w.cell? ⟨g,i*2+1,none⟩=some (.int .i64 (cs i))):
  Calls Tryz.prog 92 #[.slice (some ⟨g,0,none⟩) n cap] w fun e w'=>e=.returned (.int .i64 0)/\BL w w':=by
 have HC:=hid hc;have HG:=hid hg;have hok:dI (some ⟨g,0,none⟩) n:=fun _=>⟨_,_,rfl⟩;clear hc hg;go_enter Tryz.func92,Tryz.ntmps92;go_wp2;go_loopw [7] (fun i wr=>∃k:Nat,k<=n/\i=.int .i64 k/\Hid (BL w wr)) (fun i _=>n-(intOf i).toNat);case atStart=>exact⟨0,Nat.zero_le _,rfl,hid ay⟩
 case round=>
  obtain⟨k,hk,rfl,hb⟩:=hrel;by_cases hlt:k<n
  ·have hk0:(0:Int)<=(k:Int):=by omega
   have hk1:(k:Int)<(n:Int):=by omega
   have y0:wr.cell? ⟨g,k*2,none⟩=some (.bool false):=(hb.out.cell (p:=⟨g,k*2,none⟩) HG.out).trans (HC.out k hlt).1;have y1:wr.cell? ⟨g,k*2+1,none⟩=some (.int .i64 (cs k)):=(hb.out.cell (p:=⟨g,k*2+1,none⟩) HG.out).trans (HC.out k hlt).2;have bK:Hid (∀o,BL w (wr.alloc o)):=hid fun o=>hb.out.alloc hb.out.size _;go_wp2;go_roundw;case rel=>exact⟨k+1,by omega,by go_num,hid (bK.out _)⟩
   simp[intOf];omega
  ·obtain rfl:k=n:=by omega
   go_wp2;go_ret;exact⟨rfl,hb.out⟩
def UX(x:ah.bF)(i o:Int)(s:ah.Nm)(k:Nat):List Int:=
 ((List.range k).map fun j:Nat=>(j:Int)).filter fun j=>decide ((ah.fd x o j).kind=7)&&decide ((ah.fd x o j).of=s)&&decide (ah.dV x o j=i)
theorem IW(x:ah.bF)(i o:Int)(s:ah.Nm)(k:Nat):UX x i o s (k+1)=UX x i o s k++(if (decide ((ah.fd x o k).kind=7)&&decide ((ah.fd x o k).of=s)&&decide (ah.dV x o k=i))=true then [(k:Int)] else []):=by
 unfold UX;rw[List.range_succ,List.map_append,List.filter_append];congr 1;simp only[List.map_cons,List.map_nil,List.filter_cons,List.filter_nil]
theorem adG{x:ah.bF}{i o:Int}{s:ah.Nm}{k:Nat}(h:¬((ah.fd x o k).kind=7/\(ah.fd x o k).of=s/\ah.dV x o k=i)):UX x i o s (k+1)=UX x i o s k:=by
 rw[IW,if_neg,List.append_nil];simp only[kJ,lE,and_assoc];exact h
theorem YT{x:ah.bF}{i o:Int}{s:ah.Nm}{k:Nat}(h:(ah.fd x o k).kind=7/\(ah.fd x o k).of=s/\ah.dV x o k=i):UX x i o s (k+1)=UX x i o s k++[(k:Int)]:=by
 rw[IW,if_pos];simp only[kJ,lE,and_assoc];exact h
def tM(x:ah.bF)(i:Int)(f:ah.dh)(w:World)(e:Ending)(w':World):Prop:=
 ∃a cap,e=.returned (.tuple #[.int .i64 (ah.gq x i f),.slice a (ah.gy x i f).length cap])/\dr (w.heap.size<=·) w' (.slice a (ah.gy x i f).length cap) (ah.gy x i f)/\BL w w'
theorem IX{x:ah.bF}{i:Int}{f:ah.dh}{w w':World}(h:ah.gq x i f= -1)(hb:BL w w'):
  tM x i f w (.returned (.tuple #[.int .i64 (-1),.slice none 0 0])) w':=by
 have e:ah.gy x i f=[]:=by unfold ah.gy;rw[h];rfl
 refine⟨none,0,?_,?_,hb⟩
 ·rw[h,e];rfl
 ·rw[e];exact dr.nil _ _
theorem aa6{p:Prop}(h:p:=by
  go_wp2
  go_roundw
  case rel=>exact⟨k+1,a,c,l,by omega,by go_num,rfl,by omega,BX,HI3,gj⟩
  simp[intOf]
  omega):p:=h
theorem BZ(x:ah.bF)(i:Int)(hi:0<=i)(f:ah.dh)(v uw ug:Value)(S:Nat->Prop)(w:World)(hv:fA S w v x)(h6:x.ai.length<=1000)(h10:∀k∈x.ai,k.aA.length<=1000):
  Calls Tryz.prog 159 #[v,.int .i64 i,.agg (cV f uw ug).toArray] w (tM x i f w):=by
 obtain⟨ak,ck,al,cl,ar,cr,rfl,hk,hl,hr,hsk,hsl,hsr⟩:=hv.form;have HV:=hid (fun(W:World) (hW:BL w W)=>hv.keep (aB.below hW));have Pu:=hid hk;obtain⟨w1,hw1⟩:=aV ((di w x.aI (.slice ak x.ai.length ck) (.slice al x.aN.length cl) (.slice ar x.aO.length cr)).alloc (.cells (cV f uw ug).toArray 92));have bf:Hid (Below w.heap.size w w1):=hid Oi;have HX:Hid (∀W,BL w1 W->W.heap[w.heap.size]?=some (.cells #[.int .i64 x.aI,.slice ak x.ai.length ck,.slice al x.aN.length cl,.slice ar x.aO.length cr] 27 (0,0))):=hid (fun W hW=>(hW.block _ RO).trans Xw);have HF:Hid (∀W,BL w1 W->W.heap[w.heap.size+1]?=some (.cells (cV f uw ug).toArray 92 (0,0))):=hid (fun W hW=>(hW.block _ XI).trans Ke);unfold di at hw1;have HW:=hid hw1;clear hv hk hl hr hw1;have Ap:=hid (pS x f.of _ S w1 (HV.out w1 bf.out));have HO:Hid (ah.gq x i f=if f.kind=6/\i<ah.cU x f.of then ah.cU x f.of else -1):=hid rfl;have Ld:Hid (ah.gy x i f=if ah.gq x i f<0 then [] else ah.ql x i (ah.gq x i f) f.name):=hid rfl;have hkr: -1<=ah.cU x f.of:=ah.jq _ _ _
 have hkl:ah.cU x f.of<x.ai.length:=by
  rcases kE (fun k:ah.eZ=>decide (k.name=f.of)) x.ai with h|h
  ·exact h
  ·unfold ah.cU;rw[h];omega
 have aa7:=hid (fun(w':World) (h:ah.gq x i f= -1) (hb:BL w w')=>IX h hb);have HSP:Hid (∀e w',(∃a cap,e=.returned (.tuple #[.int .i64 (ah.gq x i f),.slice a (ah.gy x i f).length cap])/\dr (w.heap.size<=·) w' (.slice a (ah.gy x i f).length cap) (ah.gy x i f)/\BL w w')->tM x i f w e w'):=hid (fun _ _ h=>h);refine Calls.mono (R:=fun e w'=>Hid (tM x i f w e w')) ?_ (fun _ _ h=>h.out);generalize tM x i f w=SP at*;generalize ah.gq x i f=oi at*;generalize ah.gy x i f=sl at*;generalize ah.cU x f.of=ki at*;obtain⟨fn,fo,fu,fk,fl,fh,JY,JZ⟩:=f;simp only[cV] at HF HW HO Ld Ap ⊢;obtain⟨⟨y0,y1,y2,y3⟩, -⟩:=aW (HX.out w1 ay);obtain⟨⟨z0,z1,z2,z3,z4,z5,z6,z7⟩, -⟩:=dY (HF.out w1 ay);go_enter Tryz.func159,Tryz.ntmps159;go_upto_region 1 with fail;rw[<-HW.out];go_wp2_with fail;refine Ap.out.mono ?_;rintro e w2 ⟨rfl,hb2⟩;have eC:Hid (BL w1 w2):=hid hb2;have bK:=aJ bf hb2;clear hb2 y0 y1 y2 y3 z0 z1 z2 z3 z4 z5 z6 z7;obtain⟨⟨y0,y1,y2,y3⟩, -⟩:=aW (HX.out w2 eC.out);obtain⟨⟨z0,z1,z2,z3,z4,z5,z6,z7⟩, -⟩:=dY (HF.out w2 eC.out);by_cases hf6:fk=6
 ·by_cases hlt:i<ki
  ·subst hf6
   obtain⟨o,rfl⟩:∃o:Nat,ki=(o:Int):=⟨ki.toNat,by omega⟩;have ho:o<x.ai.length:=by omega
   have wR:Hid (oi=(o:Int)):=hid (by rw[HO.out,if_pos ⟨rfl,hlt⟩]);have AL:Hid (sl=UX x i o fn (ah.kd x o).aA.length):=hid (by rw[Ld.out,wR.out,if_neg aC];rfl);clear HO Ld;obtain⟨nJ, -,k0,k1,k2,uf,k3,oK⟩:=Pu.out.at ho;have JW:=hid oK;obtain⟨af,cf,rfl,hsf, -, -⟩:=oK.form;have HN:Hid ((ah.kd x o).aA.length=x.ai[o].aA.length):=hid (by rw[gm ho]);have xT:Hid (∀(j:Nat) (h:j<x.ai[o].aA.length),ah.fd x o j=x.ai[o].aA[j]):=hid (fun j h=>uF ho h);have Le:x.ai[o].aA.length<=1000:=h10 _ (gY ho);have u0:w2.cell? ⟨bD ak,bJ ak+o*4+3,none⟩=some (.slice af x.ai[o].aA.length cf):=(bK.out.cell (p:=⟨bD ak,bJ ak+o*4+3,none⟩) nJ).trans k3;have Ul:(0:Int)<=o:=by omega
   have Pp:(o:Int)<x.ai.length:=by omega
   have hle:¬((o:Int)<=i):=by omega
   have Nz:=hid (fun(j:Nat) (W:World) (hW:BL w W)=>F4 x o j _ S W (HV.out W hW));rw[HN.out] at AL;clear k0 k1 k2 k3 oK HN;generalize x.ai[o].aA=fs at*;obtain⟨nf,hnf⟩:=aV fs.length;have Lg:=hid hnf;rw[<-hnf] at u0 Le hsf AL JW;clear hnf;go_wp2;go_loopw [31,9] (fun k v wr=>∃(k':Nat) (a:Option Addr) (c:Nat) (l:List Int),k'<=nf/\k=.int .i64 k'/\v=.slice a l.length c/\l.length<=k'/\Hid (l=UX x i o fn k')/\Hid (dr (w1.heap.size<=·) wr (.slice a l.length c) l)/\Hid (BL w1 wr)) (fun k _ _=>nf-(intOf k).toNat);case atStart=>exact⟨0,none,0,[],Nat.zero_le _,rfl,rfl,aH,hid rfl,hid (dr.nil _ _),eC⟩
   case round=>
    obtain⟨k,a,c,l,hk,rfl,rfl,hlk,Gs,HI,nj⟩:=hrel;have qC:=aJ bf nj.out;by_cases hkn:k<nf
    ·have hk0:(0:Int)<=(k:Int):=by omega
     have hk1:(k:Int)<(nf:Int):=by omega
     obtain⟨J2, -,f0,f1,f2,f3,f4,f5,uw',ug',f6,f7,xR,hgs⟩:=dJ.at (JW.out.keep (aB.below qC.out)) (show k<fs.length by rw[<-Lg.out];exact hkn);obtain⟨aw,cw,rfl, -, -, -⟩:=xR.form;obtain⟨ag,cg,rfl, -, -, -⟩:=hgs.form;clear xR hgs;have HE:Hid (ah.fd x o k=fs[k]'(by rw[<-Lg.out];exact hkn)):=hid (xT.out k _);have YU:=hid (fun(W:World) (hW:BL w W)=>Nz.out k W hW);have HN:Hid (¬((ah.fd x o k).kind=7/\(ah.fd x o k).of=fn/\ah.dV x o k=i)->l=UX x i o fn (k+1)):=hid (fun h=>by rw[adG h];exact Gs.out);have HY:Hid (((ah.fd x o k).kind=7/\(ah.fd x o k).of=fn/\ah.dV x o k=i)->l++[(k:Int)]=UX x i o fn (k+1)):=hid (fun h=>by rw[YT h,Gs.out]);rw[HE.out] at HN HY;generalize fs[k]'(by rw[<-Lg.out];exact hkn)=g at*;clear HE;obtain⟨gn,go,gu,gk,gl,gh,J3,ggs⟩:=g;generalize J3.length=nw at*;generalize ggs.length=ng at*;simp only at f0 f1 f2 f3 f4 f5 f6 f7 HN HY;generalize ah.dV x o k=uz at*;obtain⟨⟨z0,z1,z2,z3,z4,z5,z6,z7⟩, -⟩:=dY (HF.out wr nj.out);obtain⟨w3,hw3⟩:=aV (wr.alloc (.cells #[.string gn,.string go,.string gu,.int .i64 gk,.int .i64 gl,.int .i64 gh,(.slice aw nw cw),(.slice ag ng cg)] 92));have gj:Hid (Below w1.heap.size w1 w3):=hid (by rw[hw3];exact nj.out.alloc nj.out.size _);have bZ:Hid (Below w.heap.size w w3):=hid (by rw[hw3];exact qC.out.alloc qC.out.size _);have uD:Hid (w3.heap[wr.heap.size]?=some (.cells #[.string gn,.string go,.string gu,.int .i64 gk,.int .i64 gl,.int .i64 gh,(.slice aw nw cw),(.slice ag ng cg)] 92 (0,0))):=hid (by rw[hw3];exact aP wr _ rfl);have HI3:Hid (dr (w1.heap.size<=·) w3 (.slice a l.length c) l):=hid (by rw[hw3];exact bP.keep HI.out (aB.below (ay.alloc aH _)));have HW3:=hid hw3;clear hw3;go_upto_region 8 with fail;rw[<-HW3.out];clear f0 f1 f2 f3 f4 f5 f6 f7 z0 z1 z2 z3 z4 z5 z6 z7 y0 y1 y2 y3;obtain⟨⟨f0,f1,f2,f3,f4,f5,f6,f7⟩, -⟩:=dY uD.out;obtain⟨⟨z0,z1,z2,z3,z4,z5,z6,z7⟩, -⟩:=dY (HF.out w3 gj.out);obtain⟨⟨y0,y1,y2,y3⟩, -⟩:=aW (HX.out w3 gj.out);by_cases h7:gk=7
     ·by_cases Ru:go=fn
      ·have es:(go.toList==fn.toList)=true:=by rw[Ru];simp
       have HU3:=hid (YU.out w3 bZ.out);have HY2:=hid (fun(h:uz=i)=>HY.out ⟨h7,Ru,h⟩);have HOf:=hid Ru;subst h7;clear Ru;go_wp2_with fail;refine HU3.out.mono ?_;rintro e w4 ⟨rfl,hb4⟩;have jM:=aJ gj hb4;have f9:=aJ bZ hb4;have HI4:Hid (dr (w1.heap.size<=·) w4 (.slice a l.length c) l):=hid (bP.keep HI3.out (aB.below hb4));clear hb4;by_cases hu:uz=i
       ·have BX:=hid (HY2.out hu)
        subst hu;clear HN HY HY2 Gs;go_wp2_with (at_builtin;go_must (refine lQ rfl _ _ rfl Tryz.MH rfl HI4.out (ay.alloc aH _) rfl (tA mJ w4 _ (k:Int) rfl trivial) aC ?_));intro v' w5 hI5 Ag;obtain⟨l2,hl2⟩:=aV (l++[(k:Int)]);rw[<-hl2] at hI5 BX;have hlen:l2.length<=k+1:=by rw[hl2];simp;omega
        obtain⟨a2,c2,rfl, -, -, -⟩:=(dr.sl hI5).form;have B6:Hid (dr (w1.heap.size<=·) w5 (.slice a2 l2.length c2) l2):=hid (bP.mono hI5 (fun b _ hb=>gX jM.out.size b hb));have jQ:Hid (BL w1 w5):=hid ((jM.out.alloc jM.out.size _).trans (Ag.below (by have:=jM.out.size;simp;omega) (fun b hb=>HI4.out.2 b hb.symm)));clear hI5 Ag hl2;go_wp2;go_roundw;case rel=>exact⟨k+1,a2,c2,l2,by omega,by go_num,rfl,hlen,BX,B6,jQ⟩
        simp[intOf];omega
       ·have eu:(uz==i)=false:=by simpa using hu
        have BX:=hid (HN.out (fun h=>hu h.2.2));clear HN HY HY2 Gs hu;go_wp2;go_roundw;case rel=>exact⟨k+1,a,c,l,by omega,by go_num,rfl,by omega,BX,HI4,jM⟩
        simp[intOf];omega
      ·have es:(go.toList==fn.toList)=false:=by rw[Kj];simpa using Ru
       have BX:=hid (HN.out (fun h=>Ru h.2.1));subst h7;clear HN HY Gs Ru;exact aa6
     ·have e7:(gk==7)=false:=by simpa using h7
      have BX:=hid (HN.out (fun h=>h7 h.1));clear HN HY Gs h7;exact aa6
    ·obtain rfl:k=nf:=by omega
     have HEl:Hid (sl=l):=hid (by rw[AL.out,Gs.out]);go_wp2;go_ret2;exact hid<|HSP.out _ _ ⟨a,c,by rw[HEl.out,wR.out];rfl,by rw[HEl.out];exact bP.mono HI.out (fun b _ hb=>Nat.le_trans bf.out.size hb),qC.out⟩
  ·have wR:Hid (oi= -1):=hid (by rw[HO.out,if_neg (fun h=>hlt h.2)])
   subst hf6;have hle:ki<=i:=by omega
   go_wp2;go_ret2;exact hid<|aa7.out _ wR.out bK.out
 ·have wR:Hid (oi= -1):=hid (by rw[HO.out,if_neg (fun h=>hf6 h.1)])
  have e6:(fk !=6)=true:=by simpa using hf6
  go_wp2;go_ret2;exact hid<|aa7.out _ wR.out bK.out
def jU(ver:Int)(ak:Option Addr)(nk ck:Nat)(al:Option Addr)(nl cl:Nat)(ar:Option Addr)(nr cr:Nat)(i j:Int)(f:ah.dh)(uw ug:Value):List Value:=
 [.int .i64 ver,.slice ak nk ck,.slice al nl cl,.slice ar nr cr,.int .i64 i,.int .i64 j,.string f.name,.string f.of,.string f.up,.int .i64 f.kind,.int .i64 f.lo,.int .i64 f.hi,uw,ug]
theorem fK{w:World}{F:Nat}{x0 x1 x2 x3 x4 x5 x6 x7 x8 x9 x10 x11 NA x13:Value}{t:TypeId}(h:w.heap[F]?=some (.cells #[x0,x1,x2,x3,x4,x5,x6,x7,x8,x9,x10,x11,NA,x13] t (0,0))):
  (w.cell? ⟨F,0,none⟩=some x0/\w.cell? ⟨F,1,none⟩=some x1/\w.cell? ⟨F,2,none⟩=some x2/\w.cell? ⟨F,3,none⟩=some x3/\w.cell? ⟨F,4,none⟩=some x4/\w.cell? ⟨F,5,none⟩=some x5/\w.cell? ⟨F,6,none⟩=some x6/\w.cell? ⟨F,7,none⟩=some x7/\w.cell? ⟨F,8,none⟩=some x8/\w.cell? ⟨F,9,none⟩=some x9/\w.cell? ⟨F,10,none⟩=some x10/\w.cell? ⟨F,11,none⟩=some x11/\w.cell? ⟨F,12,none⟩=some NA/\w.cell? ⟨F,13,none⟩=some x13)/\∀i,w.frozen? ⟨F,i,none⟩=false:=
 ⟨⟨aF h 0,aF h 1,aF h 2,aF h 3,aF h 4,aF h 5,aF h 6,aF h 7,aF h 8,aF h 9,aF h 10,aF h 11,aF h 12,aF h 13⟩,bh h⟩
theorem Ca(x:ah.bF)(i j:Int)(f:ah.dh)(ak al ar:Option Addr)(ck cl cr:Nat)(uw ug:Value)(S:Nat->Prop)(w:World)(hv:fA S w (.agg #[.int .i64 x.aI,.slice ak x.ai.length ck,.slice al x.aN.length cl,.slice ar x.aO.length cr]) x):
  Calls Tryz.prog 212 #[.agg (jU x.aI ak x.ai.length ck al x.aN.length cl ar x.aO.length cr i j f uw ug).toArray] w fun e w'=>e=.returned (.bool (decide (ah.dV x i j<0)))/\BL w w':=by
 have HV:=hid (fun(W:World) (hW:BL w W)=>hv.keep (aB.below hW));clear hv;obtain⟨fn,fo,fu,fk,fl,fh,JY,JZ⟩:=f;simp only[jU];obtain⟨w1,hw1⟩:=aV (w.alloc (.cells #[.int .i64 x.aI,.slice ak x.ai.length ck,.slice al x.aN.length cl,.slice ar x.aO.length cr,.int .i64 i,.int .i64 j,.string fn,.string fo,.string fu,.int .i64 fk,.int .i64 fl,.int .i64 fh,uw,ug] 213));have bf:Hid (Below w.heap.size w w1):=hid ud;have HX:Hid (∀W,BL w1 W->W.heap[w.heap.size]?=some (.cells #[.int .i64 x.aI,.slice ak x.ai.length ck,.slice al x.aN.length cl,.slice ar x.aO.length cr,.int .i64 i,.int .i64 j,.string fn,.string fo,.string fu,.int .i64 fk,.int .i64 fl,.int .i64 fh,uw,ug] 213 (0,0))):=hid (fun W hW=>(hW.block _ tr).trans Oh);have HW:=hid hw1;clear hw1;have HU:=hid (F4 x i j _ S w1 (HV.out w1 bf.out));generalize ah.dV x i j=uz at*;obtain⟨⟨y0,y1,y2,y3,y4,y5,y6,y7,y8,y9,IY,IZ,I3,I4⟩, -⟩:=fK (HX.out w1 ay);go_enter Tryz.func212,Tryz.ntmps212;go_upto_region 1 with fail;rw[<-HW.out];go_wp2_with fail;refine HU.out.mono ?_;rintro e w2 ⟨rfl,hb2⟩;have bK:=aJ bf hb2;clear hb2;go_wp2;go_ret;exact⟨rfl,bK.out⟩
theorem UY{w:World}{g:Nat}{x0 x1 x2 x3 x4 x5 x6 x7 bd:Value}{tmps:Array Value}(h:w.heap[g]?=some (.cells #[x0,x1,x2,x3,x4,x5,x6,x7] 92 (0,0)))(hp:tmps[2]?=some (.pointer (some ⟨g,0,none⟩)))(hq:tmps[3]?=some bd):
  (results Tryz.f222 tmps).run Tryz.prog w=.ok (.tuple #[.agg #[x0,x1,x2,x3,x4,x5,x6,x7],bd]) w:=by
 obtain⟨⟨h0,h1,h2,h3,h4,h5,h6,h7⟩, -⟩:=dY h;simp[results,Tryz.results222,go_sem,hp,hq,h0,h1,h2,h3,h4,h5,h6,h7]
def kH(x:ah.bF)(i j:Int)(f:ah.dh):Int:=ah.bB (ah.kd x (ah.dV x i j)) f.of
def PB(x:ah.bF)(i j:Int)(f:ah.dh)(w:World)(e:Ending)(w':World):Prop:=
 ∃a1 n1 c1 a2 n2 c2,e=.returned (.tuple #[.agg (cV (jZ x (ah.dV x i j) (kH x i j f)) (.slice a1 n1 c1) (.slice a2 n2 c2)).toArray,.bool (ah.hasB x (ah.dV x i j) (kH x i j f))])/\BL w w'
theorem aa8{p:Prop}(h:p:=by
  simp only[Value.agg.injEq,Array.mk.injEq,List.cons.injEq,Value.slice.injEq] at hvf
  exact hvf.2.1.2.2):p:=h
theorem NC(x:ah.bF)(i j:Int)(f:ah.dh)(ak al ar:Option Addr)(ck cl cr:Nat)(uw ug:Value)(S:Nat->Prop)(w:World)(hv:fA S w (.agg #[.int .i64 x.aI,.slice ak x.ai.length ck,.slice al x.aN.length cl,.slice ar x.aO.length cr]) x)(hi:0<=i/\i<x.ai.length)(hup:0<=ah.dV x i j):
  Calls Tryz.prog 222 #[.agg (jU x.aI ak x.ai.length ck al x.aN.length cl ar x.aO.length cr i j f uw ug).toArray] w (PB x i j f w):=by
 refine Calls.mono (R:=fun e w'=>Hid (PB x i j f w e w')) ?_ (fun _ _ h=>h.out);have HV:=hid (fun(W:World) (hW:BL w W)=>hv.keep (aB.below hW));have hlt:=ah.uW x i j hi.1;obtain⟨o,ho⟩:∃o:Nat,ah.dV x i j=(o:Int):=⟨(ah.dV x i j).toNat,by omega⟩;have hok:o<x.ai.length:=by omega
 have HTP:Hid (∀e w' a1 n1 c1 a2 n2 c2,e=.returned (.tuple #[.agg (cV (jZ x o (ah.bB (ah.kd x o) f.of)) (.slice a1 n1 c1) (.slice a2 n2 c2)).toArray,.bool (ah.hasB x o (ah.bB (ah.kd x o) f.of))])->BL w w'->PB x i j f w e w'):=hid (fun e w' a1 n1 c1 a2 n2 c2 he hb=>⟨a1,n1,c1,a2,n2,c2,by unfold kH;rw[ho];exact he,hb⟩);generalize PB x i j f w=TP at*;obtain⟨ak',ck',al',cl',ar',cr',hvf,hk, -, -,hsk, -, -⟩:=hv.form
 obtain⟨-,e1, -, -⟩:x.aI=x.aI/\ak=ak'/\True/\True:=by
  simp only[Value.agg.injEq,Array.mk.injEq,List.cons.injEq,Value.slice.injEq] at hvf;exact⟨rfl,hvf.2.1.1,trivial,trivial⟩
 subst e1
 have e2:ck=ck':=by
  exact aa8
 subst e2;clear hvf hv;obtain⟨nJ, -,k0,k1,k2,uf,k3,oK⟩:=hk.at hok;obtain⟨af,cf,rfl, -, -, -⟩:=oK.form;have GH:=hid (fun(s:ByteArray) (W:World) (hW:BL w W)=>lg x.ai[o] s _ S W (oK.keep (aB.below hW)));have OP:Hid (ah.kd x o=x.ai[o]):=hid (gm hok)
 have vG:Hid (∀W,BL w W->W.cell? ⟨bD ak,bJ ak+o*4,none⟩=some (.string x.ai[o].name)/\W.cell? ⟨bD ak,bJ ak+o*4+1,none⟩=some (.int .i64 x.ai[o].lo)/\W.cell? ⟨bD ak,bJ ak+o*4+2,none⟩=some (.int .i64 x.ai[o].hi)/\W.cell? ⟨bD ak,bJ ak+o*4+3,none⟩=some (.slice af x.ai[o].aA.length cf)):=hid (fun W hW=>
   ⟨(hW.cell (p:=⟨bD ak,bJ ak+o*4,none⟩) nJ).trans k0,(hW.cell (p:=⟨bD ak,bJ ak+o*4+1,none⟩) nJ).trans k1,(hW.cell (p:=⟨bD ak,bJ ak+o*4+2,none⟩) nJ).trans k2,(hW.cell (p:=⟨bD ak,bJ ak+o*4+3,none⟩) nJ).trans k3⟩)
 rw[OP.out] at HTP;clear k0 k1 k2 k3 oK hk OP;generalize x.ai[o]=kd at*;obtain⟨kn,EU,EV,DU⟩:=kd;obtain⟨fn,fo,fu,fk,fl,fh,JY,JZ⟩:=f;simp only[lU] at GH;simp only at HTP vG;simp only[jU];have HFo:=hid (GH.out fo);generalize ah.bB ⟨kn,EU,EV,DU⟩ fo=tz at*;generalize DU.length=nf at*;clear GH;obtain⟨w1,hw1⟩:=aV ((w.alloc (.cells #[.int .i64 x.aI,.slice ak x.ai.length ck,.slice al x.aN.length cl,.slice ar x.aO.length cr,.int .i64 i,.int .i64 j,.string fn,.string fo,.string fu,.int .i64 fk,.int .i64 fl,.int .i64 fh,uw,ug] 213)).alloc (.cells #[.string {data:=#[]},.string {data:=#[]},.string {data:=#[]},.int .i64 0,.int .i64 0,.int .i64 0,.slice none 0 0,.slice none 0 0] 92));have bf:Hid (Below w.heap.size w w1):=hid aci;have HX:Hid (∀W,BL w1 W->W.heap[w.heap.size]?=some (.cells #[.int .i64 x.aI,.slice ak x.ai.length ck,.slice al x.aN.length cl,.slice ar x.aO.length cr,.int .i64 i,.int .i64 j,.string fn,.string fo,.string fu,.int .i64 fk,.int .i64 fl,.int .i64 fh,uw,ug] 213 (0,0))):=hid (fun W hW=>(hW.block _ (by rw[hw1];simp;omega)).trans ab4);have HG:Hid (∀W,BL w1 W->W.heap[w.heap.size+1]?=some (.cells #[.string {data:=#[]},.string {data:=#[]},.string {data:=#[]},.int .i64 0,.int .i64 0,.int .i64 0,.slice none 0 0,.slice none 0 0] 92 (0,0))):=hid (fun W hW=>(hW.block _ tr).trans (by rw[hw1];exact aP _ _ aZ));have HW:=hid hw1;clear hw1;have HU:=hid (F4 x i j _ S w1 (HV.out w1 bf.out));rw[ho] at HU;have hz1:w.heap.size<w1.heap.size:=aj (HX.out w1 ay);have Ul:(0:Int)<=o:=by omega
 have Pp:(o:Int)<x.ai.length:=by omega
 have hon:¬(o:Int)<0:=by omega
 have nF:=hid (fun(W:World) (hW:BL w W)=>mN x (o:Int) tz _ S W (HV.out W hW));have HTP2:Hid (∀e w' a1 n1 c1 a2 n2 c2,e=.returned (.tuple #[.agg (cV (jZ x o tz) (.slice a1 n1 c1) (.slice a2 n2 c2)).toArray,.bool (ah.hasB x o tz)])->BL w w'->TP e w'):=HTP;clear HTP hup hlt;clear ho;obtain⟨⟨y0,y1,y2,y3,y4,y5,y6,y7,y8,y9,IY,IZ,I3,I4⟩, -⟩:=fK (HX.out w1 ay);go_enter Tryz.func222,Tryz.ntmps222;go_upto_region 1 with fail;rw[<-HW.out];go_wp2_with fail;refine HU.out.mono ?_;rintro e w2 ⟨rfl,hb2⟩;have eC:Hid (BL w1 w2):=hid hb2;have bK:=aJ bf hb2;clear hb2 y0 y1 y2 y3 y4 y5 y6 y7 y8 y9 IY IZ I3 I4 HU;go_upto_region 4 with fail;have Dk:=dL w2 ⟨w.heap.size,0,none⟩ (.int .i64 x.aI) fun xh=>(fK (HX.out xh.1 (cO eC.out xh.2))).1.1;have hq1:=dL w2 ⟨w.heap.size,1,none⟩ (.slice ak x.ai.length ck) fun xh=>(fK (HX.out xh.1 (cO eC.out xh.2))).1.2.1;have uE:=dL w2 ⟨w.heap.size,2,none⟩ (.slice al x.aN.length cl) fun xh=>(fK (HX.out xh.1 (cO eC.out xh.2))).1.2.2.1;have hq3:=dL w2 ⟨w.heap.size,3,none⟩ (.slice ar x.aO.length cr) fun xh=>(fK (HX.out xh.1 (cO eC.out xh.2))).1.2.2.2.1;have hq7:=dL w2 ⟨w.heap.size,7,none⟩ (.string fo) fun xh=>(fK (HX.out xh.1 (cO eC.out xh.2))).1.2.2.2.2.2.2.2.1;have Lh:=dL w2 ⟨bD ak,bJ ak+o*4,none⟩ (.string kn) fun xh=>(vG.out xh.1 (cO bK.out xh.2)).1;have UZ:=dL w2 ⟨bD ak,bJ ak+o*4+1,none⟩ (.int .i64 EU) fun xh=>(vG.out xh.1 (cO bK.out xh.2)).2.1;have U0:=dL w2 ⟨bD ak,bJ ak+o*4+2,none⟩ (.int .i64 EV) fun xh=>(vG.out xh.1 (cO bK.out xh.2)).2.2.1;have Li:=dL w2 ⟨bD ak,bJ ak+o*4+3,none⟩ (.slice af nf cf) fun xh=>(vG.out xh.1 (cO bK.out xh.2)).2.2.2;refine dS 16 (.quiet 0 (.quiet 1 (.quiet 2 (.quiet 3 (.quiet 4 (.quiet 5 (.quiet 6 (.quiet 7 (.quiet 8 (.quiet 9 (.quiet 10 (.quiet 11 (.one 12 (.one 13 (.quiet 14 (.quiet 15 .done)))))))))))))))) (BL w2) lN (by kernel_rfl) (aG ay 1) ?_;have ND:=hid (aG (Below.refl w2.heap.size w2) 1);generalize w2.drewN 1=w3 at*
 iterate 12 refine eB ?_
 refine aM rfl ?_;go_wp2_with fail;refine(HFo.out w3 (cO bK.out ND.out)).mono ?_;rintro e w4 ⟨rfl,hb4⟩;have EW:=aJ ND hb4;clear hb4;go_wp2_with fail;refine aD (BL w2) (fun _ h=>h) EW.out ?_;refine aM rfl ?_;go_wp2_with fail;refine(nF.out w4 (cO bK.out EW.out)).mono ?_;rintro e w5 ⟨a1,n1,c1,a2,n2,c2,rfl, -,jR⟩;have I5:=aJ EW jR;clear jR;have pH:Hid (∀w',BL w w'->TP (.returned (.tuple #[.agg (cV (jZ x o tz) (.slice a1 n1 c1) (.slice a2 n2 c2)).toArray,.bool (ah.hasB x o tz)])) w'):=hid (fun w' hb=>HTP2.out _ _ a1 n1 c1 a2 n2 c2 rfl hb);generalize ah.hasB x o tz=hb at*;generalize jZ x o tz=g at*;obtain⟨gn,go,gu,gk,gl,gh,J3,ggs⟩:=g;simp only[cV] at pH ⊢;go_wp2_with fail;refine aD (BL w2) (fun _ h=>h) I5.out ?_
 iterate 2 refine eB ?_
 refine aT ?_;try simp only[iW,iX]
 clear Dk hq1 uE hq3 hq7 Lh UZ U0 Li;have jQ:=aJ eC I5.out;have fF:=aJ bf jQ.out;obtain⟨⟨g0,g1,g2,g3,g4,g5,g6,g7⟩,gf⟩:=dY (HG.out w5 jQ.out);have HS:=hid (Kh (HG.out w5 jQ.out) (.string gn) (.string go) (.string gu) (.int .i64 gk) (.int .i64 gl) (.int .i64 gh) (.slice a1 n1 c1) (.slice a2 n2 c2));go_wp2;exact bodyPost_ret (UY HS.out.1 rfl rfl) rfl (hid (pH.out _ (fF.out.trans (Turns.below HS.out.2 fF.out.size (fun b hb=>by omega)))))
end Go.Proofs.YteiakkfdchnddaaGreatDoor
