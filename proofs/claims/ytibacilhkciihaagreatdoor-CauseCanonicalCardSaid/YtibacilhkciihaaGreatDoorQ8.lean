/- Part 8 of the walks and plain laws that the proof needs (packed). -/
import Derived.Test.YtibacilhkciihaaGreatDoorQ1
import Derived.Test.YtibacilhkciihaaGreatDoorQ4
import Derived.Test.YtibacilhkciihaaGreatDoorQ6
import Derived.Test.YtibacilhkciihaaGreatDoorQ7
set_option linter.all false
set_option maxRecDepth 100000
set_option maxHeartbeats 8000000
namespace Go.Proofs.YtibacilhkciihaaGreatDoor
open Go.RowKit
def dash:ByteArray:=⟨#[45]⟩
def iB(s:ByteArray):ByteArray:=if s=ah.nil then dash else s
theorem kr(s:ByteArray):(iB s).size=ah.dR s:=by
 unfold iB ah.dR;split<;>rfl
theorem aai(s:ByteArray)(g:Nat)(w:World)(h0:w.cell? ⟨g,0,none⟩=some (.string s))(h1:w.cell? ⟨g,1,none⟩=some (.string {data:=#[45]})):
  Calls Tryz.prog 149 #[.slice (some ⟨g,0,none⟩) 2 2] w fun e w'=>e=.returned (.string (iB s))/\w=w':=by
 go_enter Tryz.func149,Tryz.ntmps149;go_upto_region 3 with fail;go_loopw [8] (fun i wr=>∃k:Nat,k<=1/\i=.int .i64 (k:Int)/\Hid (k=1->s=ah.nil)/\w=wr) (fun i _=>2-(intOf i).toNat);case atStart=>exact⟨0,aB,rfl,hid fun h=>absurd h aB,rfl⟩
 case round=>
  obtain⟨k,hk,rfl,HK,rfl⟩:=hrel;have hk2:k=0\/k=1:=aB
  rcases hk2 with rfl|rfl
  ·by_cases hs:s=ah.nil
   ·subst hs
    unfold ah.nil at*;go_wp2;go_roundw;case rel=>exact⟨1,aB,by first|trivial|rfl,by first|exact hid trivial|exact hid (fun _=>trivial)|exact hid (fun _=>rfl),by first|trivial|rfl⟩
    simp[intOf]
   ·have he:=pZ hs
    have HE:Hid (iB s=s):=hid (if_neg hs);go_wp2;go_ret;exact⟨qU,rfl⟩
  ·have hs:=HK.out rfl
   have HE:Hid (iB s={data:=#[45]}):=hid (if_pos hs);clear hs;go_wp2;go_ret;exact⟨qU,rfl⟩
theorem uo(s:ByteArray)(w:World):Calls Tryz.prog 116 #[.string s] w fun e w'=>e=.returned (.string (iB s))/\BL w w':=by
 have HO:=hid (aai s w.heap.size (w.alloc (.cells #[.string s,.string {data:=#[45]}] 9)) bp bp);go_enter Tryz.func116,Tryz.ntmps116;go_wp2_with fail;refine HO.out.mono ?_;rintro e w' ⟨rfl,rfl⟩;go_wp2;go_ret;exact⟨rfl,aF.alloc aH _⟩
theorem rH(W:World)(l:List Arg)(hl:l.length<=1000)(T:TypeId):vJ (fun _=>True) (W.alloc (.cells (l.map l5).toArray T)) (.slice (some ⟨W.heap.size,0,none⟩) l.length l.length) l:=by
 refine⟨some ⟨W.heap.size,0,none⟩,l.length,rfl,fun _=>⟨_,_,rfl⟩,aH,xJ,fun _=>trivial,fun j hj=>⟨l5 l[j],?_,rfl⟩⟩;have e:(⟨bL (some ⟨W.heap.size,0,none⟩),bP (some ⟨W.heap.size,0,none⟩)+j,none⟩:Addr)=⟨W.heap.size,j,none⟩:=by simp[bL,bP]
 rw[e,aN (aW W _ rfl)];simp[lE hj]
theorem E9:∀(f n:Nat),ah.xT f n<=f+1
 |0,n=>by unfold ah.xT;omega
 |f+1,n=>by
  unfold ah.xT;split
  ·omega
  ·have:=E9 f (n / 10);omega
theorem cN(n:Int):ah.dx n<=42:=by
 unfold ah.dx;have:=E9 40 n.natAbs;split<;>omega
theorem dS{s:ByteArray}(h:ah.aY s=true):s.size<=12:=ah.gE h
theorem lP{s:ByteArray}(h:s.size<=12):ah.dR s<=12:=ah.nD h
def Fa(n:Nat)(w:World)(e:Ending)(w':World):Prop:=∃s:ByteArray,e=.returned (.string s)/\s.size=n/\BL w w'
theorem fG(word:ByteArray)(l:List Arg)(hok:∀a∈l,gV a)(hlen:word.size+ah.bK argN l<=1000000000)(h9:l.length<=1000)(W:World)(T:TypeId)(hw:LaidW W)(w:World)(hb:BL w W)(n:Nat)(hn:word.size+ah.bK argN l+1=n):
  Calls Tryz.prog 114 #[.string word,.slice (some ⟨W.heap.size,0,none⟩) l.length l.length] (W.alloc (.cells (l.map l5).toArray T)) (Fa n w):=by
 refine(yN word l hok hlen _ (fun _=>True) _ (rH W l h9 T) (hw.next (aF.alloc aH _))).mono ?_;rintro e w' ⟨s,rfl,hs,hb'⟩;exact⟨s,rfl,by rw[<-hn];exact hs,(hb.alloc hb.size _).trans (hb'.mono (by have:=hb.size;simp;omega))⟩
theorem jV{α:Type}(g:α->Nat):ah.bK g []=0:=rfl
theorem XC{p:Prop}(h:p:=by
  rw[hs,hw,hF]
  refine⟨fun a ha=>?_,aB,aB⟩
  simp only[kD,GI,or_false] at ha
  rcases ha with rfl|rfl<;>first|trivial|(simp only[gV];omega)):p:=h
theorem aaj(nm o up _od:ByteArray)(lo hi:Int)(ws:List ByteArray)(gs:List Int)(hz:nm.size<=12)(h1: -1048576<=lo)(h2:lo<=1048576):(∀a∈([.str nm,.num lo]:List Arg),gV a)/\({data:=#[107,101,121]}:ByteArray).size+ah.bK argN [.str nm,.num lo]<=1000000000/\({data:=#[107,101,121]}:ByteArray).size+ah.bK argN [.str nm,.num lo]+1=ah.bZ ⟨nm,o,up,0,lo,hi,ws,gs⟩:=by
 have hs:ah.bK argN [.str nm,.num lo]=(1+nm.size)+((1+ah.dx lo)):=Wn
 have hw:({data:=#[107,101,121]}:ByteArray).size=3:=rfl;have hd1:=cN lo;have hd2:=cN hi;have hF:ah.bZ ⟨nm,o,up,0,lo,hi,ws,gs⟩=3+1+nm.size+1+(1+ah.dx lo):=rfl;exact XC
theorem XD{p:Prop}(h:p:=by
  rw[hs,hw,hF]
  refine⟨fun a ha=>?_,aB,aB⟩
  simp only[kD,GI,or_false] at ha
  rcases ha with rfl|rfl|rfl<;>first|trivial|(simp only[gV];omega)):p:=h
theorem aak(nm o up _od:ByteArray)(lo hi:Int)(ws:List ByteArray)(gs:List Int)(hz:nm.size<=12)(h1: -1048576<=lo)(h2:lo<=hi)(h3:hi<=1048576):(∀a∈([.str nm,.num lo,.num hi]:List Arg),gV a)/\({data:=#[110,117,109]}:ByteArray).size+ah.bK argN [.str nm,.num lo,.num hi]<=1000000000/\({data:=#[110,117,109]}:ByteArray).size+ah.bK argN [.str nm,.num lo,.num hi]+1=ah.bZ ⟨nm,o,up,2,lo,hi,ws,gs⟩:=by
 have hs:ah.bK argN [.str nm,.num lo,.num hi]=(1+nm.size)+((1+ah.dx lo)+((1+ah.dx hi))):=Wn
 have hw:({data:=#[110,117,109]}:ByteArray).size=3:=rfl;have hd1:=cN lo;have hd2:=cN hi;have hF:ah.bZ ⟨nm,o,up,2,lo,hi,ws,gs⟩=3+1+nm.size+1+(1+ah.dx lo+(1+ah.dx hi)):=rfl;exact XD
theorem aal(nm o up _od:ByteArray)(lo hi:Int)(ws:List ByteArray)(gs:List Int)(hz:nm.size<=12)(ho:o.size<=12):(∀a∈([.str nm,.str o]:List Arg),gV a)/\({data:=#[115,117,109]}:ByteArray).size+ah.bK argN [.str nm,.str o]<=1000000000/\({data:=#[115,117,109]}:ByteArray).size+ah.bK argN [.str nm,.str o]+1=ah.bZ ⟨nm,o,up,6,lo,hi,ws,gs⟩:=by
 have hs:ah.bK argN [.str nm,.str o]=(1+nm.size)+((1+o.size)):=Wn
 have hw:({data:=#[115,117,109]}:ByteArray).size=3:=rfl;have hd1:=cN lo;have hd2:=cN hi;have hF:ah.bZ ⟨nm,o,up,6,lo,hi,ws,gs⟩=3+1+nm.size+1+(1+o.size):=rfl;exact XC
theorem aam(nm o up _od:ByteArray)(lo hi:Int)(ws:List ByteArray)(gs:List Int)(hz:nm.size<=12)(ho:o.size<=12)(hu:up.size<=12)(h1:0<=lo)(h2:lo<=hi)(h3:hi<=1048576):(∀a∈([.str nm,.str up,.str o,.num lo,.num hi]:List Arg),gV a)/\({data:=#[115,104,97,114,101]}:ByteArray).size+ah.bK argN [.str nm,.str up,.str o,.num lo,.num hi]<=1000000000/\({data:=#[115,104,97,114,101]}:ByteArray).size+ah.bK argN [.str nm,.str up,.str o,.num lo,.num hi]+1=ah.bZ ⟨nm,o,up,7,lo,hi,ws,gs⟩:=by
 have hs:ah.bK argN [.str nm,.str up,.str o,.num lo,.num hi]=(1+nm.size)+((1+up.size)+((1+o.size)+((1+ah.dx lo)+((1+ah.dx hi))))):=Wn
 have hw:({data:=#[115,104,97,114,101]}:ByteArray).size=5:=rfl;have hd1:=cN lo;have hd2:=cN hi;have hF:ah.bZ ⟨nm,o,up,7,lo,hi,ws,gs⟩=5+1+nm.size+1+(1+up.size+(1+o.size)+(1+ah.dx lo)+(1+ah.dx hi)):=rfl;rw[hs,hw,hF];refine⟨fun a ha=>?_,aB,aB⟩;simp only[kD,GI,or_false] at ha;rcases ha with rfl|rfl|rfl|rfl|rfl<;>first|trivial|(simp only[gV];omega)
theorem aan(nm o up _od:ByteArray)(lo hi:Int)(ws:List ByteArray)(gs:List Int)(hz:nm.size<=12)(ho:o.size<=12)(hu:up.size<=12):(∀a∈([.str nm,.str up,.str o]:List Arg),gV a)/\({data:=#[99,111,112,121]}:ByteArray).size+ah.bK argN [.str nm,.str up,.str o]<=1000000000/\({data:=#[99,111,112,121]}:ByteArray).size+ah.bK argN [.str nm,.str up,.str o]+1=ah.bZ ⟨nm,o,up,8,lo,hi,ws,gs⟩:=by
 have hs:ah.bK argN [.str nm,.str up,.str o]=(1+nm.size)+((1+up.size)+((1+o.size))):=Wn
 have hw:({data:=#[99,111,112,121]}:ByteArray).size=4:=rfl;have hd1:=cN lo;have hd2:=cN hi;have hF:ah.bZ ⟨nm,o,up,8,lo,hi,ws,gs⟩=4+1+nm.size+1+(1+up.size+(1+o.size)):=rfl;exact XD
theorem QB{p:Prop}(h:p:=by
  rw[hs,hw,hF]
  refine⟨fun a ha=>?_,aB,aB⟩
  simp only[kD,GI,or_false] at ha
  rcases ha with rfl|rfl|rfl|rfl<;>first|trivial|(simp only[gV];omega)):p:=h
theorem aao(nm o up od:ByteArray)(lo hi:Int)(ws:List ByteArray)(gs:List Int)(hz:nm.size<=12)(ho:ah.dR o<=12)(hod:od.size=ah.dR o)(h1: -1048576<=lo)(h2:lo<=hi)(h3:hi<=1048576):(∀a∈([.str nm,.str od,.num lo,.num hi]:List Arg),gV a)/\({data:=#[114,101,102]}:ByteArray).size+ah.bK argN [.str nm,.str od,.num lo,.num hi]<=1000000000/\({data:=#[114,101,102]}:ByteArray).size+ah.bK argN [.str nm,.str od,.num lo,.num hi]+1=ah.bZ ⟨nm,o,up,1,lo,hi,ws,gs⟩:=by
 have hs:ah.bK argN [.str nm,.str od,.num lo,.num hi]=(1+nm.size)+((1+od.size)+((1+ah.dx lo)+((1+ah.dx hi)))):=Wn
 have hw:({data:=#[114,101,102]}:ByteArray).size=3:=rfl;have hd1:=cN lo;have hd2:=cN hi;have hF:ah.bZ ⟨nm,o,up,1,lo,hi,ws,gs⟩=3+1+nm.size+1+(1+ah.dR o+(1+ah.dx lo)+(1+ah.dx hi)):=rfl;exact QB
theorem aap(nm o up od:ByteArray)(lo hi:Int)(ws:List ByteArray)(gs:List Int)(hz:nm.size<=12)(ho:ah.dR o<=12)(hod:od.size=ah.dR o)(h1: -1048576<=lo)(h2:lo<=hi)(h3:hi<=1048576):(∀a∈([.str nm,.str od,.num lo,.num hi]:List Arg),gV a)/\({data:=#[100,97,121]}:ByteArray).size+ah.bK argN [.str nm,.str od,.num lo,.num hi]<=1000000000/\({data:=#[100,97,121]}:ByteArray).size+ah.bK argN [.str nm,.str od,.num lo,.num hi]+1=ah.bZ ⟨nm,o,up,4,lo,hi,ws,gs⟩:=by
 have hs:ah.bK argN [.str nm,.str od,.num lo,.num hi]=(1+nm.size)+((1+od.size)+((1+ah.dx lo)+((1+ah.dx hi)))):=Wn
 have hw:({data:=#[100,97,121]}:ByteArray).size=3:=rfl;have hd1:=cN lo;have hd2:=cN hi;have hF:ah.bZ ⟨nm,o,up,4,lo,hi,ws,gs⟩=3+1+nm.size+1+(1+ah.dR o+(1+ah.dx lo)+(1+ah.dx hi)):=rfl;exact QB
theorem aaq(nm o up od:ByteArray)(lo hi:Int)(ws:List ByteArray)(gs:List Int)(hz:nm.size<=12)(ho:ah.dR o<=12)(hod:od.size=ah.dR o)(h1: -1048576<=lo)(h2:lo<=hi)(h3:hi<=1048576):(∀a∈([.str nm,.str od,.num lo,.num hi]:List Arg),gV a)/\({data:=#[115,116,101,112]}:ByteArray).size+ah.bK argN [.str nm,.str od,.num lo,.num hi]<=1000000000/\({data:=#[115,116,101,112]}:ByteArray).size+ah.bK argN [.str nm,.str od,.num lo,.num hi]+1=ah.bZ ⟨nm,o,up,5,lo,hi,ws,gs⟩:=by
 have hs:ah.bK argN [.str nm,.str od,.num lo,.num hi]=(1+nm.size)+((1+od.size)+((1+ah.dx lo)+((1+ah.dx hi)))):=Wn
 have hw:({data:=#[115,116,101,112]}:ByteArray).size=4:=rfl;have hd1:=cN lo;have hd2:=cN hi;have hF:ah.bZ ⟨nm,o,up,5,lo,hi,ws,gs⟩=4+1+nm.size+1+(1+ah.dR o+(1+ah.dx lo)+(1+ah.dx hi)):=rfl;exact QB
def kN(S:Nat->Prop)(w:World)(v:Value)(xs:List Arg):Prop:=
 w.ownsRow 0 20 1 v xs.length (xs.map l5)/\∀b,v.ownBlock=some b->S b
theorem sO:eY (α:=List Arg) kN:=
 ⟨fun h k=>⟨cQ h.1 h.2 k,h.2⟩,fun h k=>⟨h.1,fun b hb=>k b (h.1.lt b hb).2 (h.2 b hb)⟩⟩
theorem kN.sl{S:Nat->Prop}{w:World}{v:Value}{xs:List Arg}(h:kN S w v xs):vJ S w v xs:=
 lF h.1 h.2 bp (fun j h1 h2=>by simp)
theorem Tryz.ac3:jh Tryz.prog 198 20 1 16:=ji (z:=.nilIface) (by kernel_rfl) (by kernel_rfl) rfl aB aB
theorem QC(a:Arg):(l5 a).oneCell'=true:=by cases a<;>rfl
theorem BW(w:World)(x y:Arg):kN (w.heap.size<=·) (w.alloc (.cells #[l5 x,l5 y] 20)) (.slice (some ⟨w.heap.size,0,none⟩) 2 2) [x,y]:=by
 refine⟨⟨bp,.inr ⟨w.heap.size,2,#[l5 x,l5 y],rfl,Nat.zero_le _,heap_alloc_new w _,aH,xJ,bp,?_⟩⟩,fun b hb=>by simp[Value.ownBlock] at hb;omega⟩;simp
section
variable {P:Program} {t e:TypeId} {bytes:Nat} {α:Type} {RR:(Nat->Prop)->World->Value->α->Prop} {w:World} {ops:Array Oper} {rest:List Oper} {o:Oper} {a:Act} {Q:Exit->Act->World->Prop}
theorem vN(hgd:o.guard=none)(s x:Operand)
  (ho:o.op=.call {callee:=.builtin .append,args:=#[s,x],argTypes:=#[t,t]})(hT:jh P t 20 1 bytes)
  {S:Nat->Prop}{w1:World}{v:Value}{xs:List Arg}(hs:a.eval s=v)(hown:kN S w1 v xs)(hb:BL w1 w)
  {ao:Option Addr}{m c:Nat}(hx:a.eval x=.slice ao m c){T:Nat->Prop}{ys:List Arg}(hy:vJ T w (.slice ao m c) ys)
  (hsmall:xs.length+m<=1000000000)
  (h:∀v' w',kN (Grow S w1.heap.size) w' v' (xs++ys)->Turns (fun b=>some b=v.ownBlock) w w'->wpList P ops Q rest (a.put o.dst v') w'):
  wpList P ops Q (o::rest) a w:=by
 obtain⟨rfl,hok,us,l1,l2,l3⟩:=eU.news hy
 have qF:us=ys.map l5:=by
  exact OL
 have hsz:=hb.size;have f2':w.ownsRow 0 20 1 v xs.length (xs.map l5):=cQ (S:=fun _=>True) hown.1 (fun _ _=>trivial) (aD.below hb);refine gB hgd s x ho hT hs f2' ao ys.length c hx hok us (by simpa using l1) l2 ?_ hsmall (Nat.zero_le _) (fun v' w' g1 g2 g3=>h v' w' ⟨?_,fun b hb'=>?_⟩ (Turns.fI g2 fun b hb'=>hb'.symm))
 ·rw[qF];intro u hu;obtain⟨y,_,rfl⟩:=List.mem_map.1 hu;exact QC y
 ·rw[xP,List.map_append,<-qF];exact g1
 ·rcases g3 with g3|g3
  ·rw[g3] at hb';exact .inl ⟨hown.2 b hb',(hown.1.lt b hb').2⟩
  ·rw[g3] at hb';exact .inr (by have:=mM hb';omega)
end
def eX:List ByteArray->List Int->List Arg
 |w::ws,g::gs=>.str w::.num g::eX ws gs
 |_,_=>[]
theorem yO:∀(ws:List ByteArray) (gs:List Int),(eX ws gs).length<=2*ws.length
 |[],_=>by simp[eX]
 |w::ws,[]=>by simp[eX]
 |w::ws,g::gs=>by have:=yO ws gs;simp[eX];omega
theorem vQ:∀(ws:List ByteArray) (gs:List Int) (x:ByteArray) (y:Int),ws.length=gs.length->eX (ws++[x]) (gs++[y])=eX ws gs++[.str x,.num y]
 |[],[],x,y,_=>rfl
 |[],g::gs,_,_,h=>by simp at h
 |w::ws,[],_,_,h=>by simp at h
 |w::ws,g::gs,x,y,h=>by
  have:=vQ ws gs x y lD;simp only[List.cons_append,eX,this]
theorem Fb(ws:List ByteArray)(gs:List Int){k:Nat}(h1:k<ws.length)(h2:k<gs.length):eX (ws.take (k+1)) (gs.take (k+1))=eX (ws.take k) (gs.take k)++[.str ws[k],.num gs[k]]:=by
 rw[CY h1,CY h2,vQ _ _ _ _ lC]
theorem yP:∀(ws:List ByteArray) (gs:List Int),ah.bK argN (eX ws gs)=ah.jo ws gs
 |[],_=>rfl
 |w::ws,[]=>rfl
 |w::ws,g::gs=>by
  have:=yP ws gs;simp only[eX,eB,this,argN,ah.jo];omega
theorem BX:∀(ws:List ByteArray) (gs:List Int),(∀g∈gs,ah.qA g 0 1048576=true)->∀a∈eX ws gs,gV a
 |[],_,_,a,ha=>by simp[eX] at ha
 |w::ws,[],_,a,ha=>by simp[eX] at ha
 |w::ws,g::gs,h,a,ha=>by
  simp only[eX,kD] at ha;rcases ha with rfl|rfl|ha
  ·trivial
  ·have:=gJ (h g bp);simp only[gV];omega
  ·exact BX ws gs (fun g hg=>h g (by simp[hg])) a ha
theorem yQ:∀(ws:List ByteArray) (gs:List Int),(∀w∈ws,w.size<=12)->ah.jo ws gs<=60*ws.length
 |[],_,_=>by simp[ah.jo]
 |w::ws,[],_=>by simp[ah.jo]
 |w::ws,g::gs,h=>by
  have:=yQ ws gs (fun w hw=>h w (by simp[hw]));have h1:=h w bp;have h2:=cN g;simp only[ah.jo,List.length_cons];omega
theorem QD(nm o up:ByteArray)(ws:List ByteArray)(gs:List Int)(lo hi:Int)(hz:nm.size<=12)(h:ah.jR ws gs=true):
  (∀a∈(.str nm::.num ws.length::eX ws gs:List Arg),gV a)/\({data:=#[112,105,99,107]}:ByteArray).size+ah.bK argN (.str nm::.num ws.length::eX ws gs)<=1000000000/\({data:=#[112,105,99,107]}:ByteArray).size+ah.bK argN (.str nm::.num ws.length::eX ws gs)+1=ah.bZ ⟨nm,o,up,3,lo,hi,ws,gs⟩:=by
 obtain⟨p1,p2,p3,p4,p5⟩:=oy h;have UL:=(gJ p2).2;have hs:ah.bK argN (.str nm::.num ws.length::eX ws gs)=1+nm.size+(1+ah.dx ws.length+ah.jo ws gs):=by simp only[eB,argN,yP]
 have hw:({data:=#[112,105,99,107]}:ByteArray).size=4:=rfl;have hd:=cN ws.length;have hp:=yQ ws gs (fun w hw=>dS (List.all_eq_true.1 p5 w hw));have hF:ah.bZ ⟨nm,o,up,3,lo,hi,ws,gs⟩=4+1+nm.size+1+(1+ah.dx ws.length+ah.jo ws gs):=rfl;rw[hs,hw,hF];refine⟨fun a ha=>?_,aB,aB⟩;rcases kD.1 ha with rfl|ha
 ·trivial
 ·rcases kD.1 ha with rfl|ha
  ·simp only[gV];omega
  ·exact BX ws gs p1 a ha
theorem jM{lo hi a b:Int}(h:ah.fJ lo hi a b=true):a<=lo/\lo<=hi/\hi<=b:=by
 unfold ah.fJ at h;simp only[pF,qZ] at h;exact⟨h.1.1,h.1.2,h.2⟩
theorem QE{p:Prop}(h:p:=by
  clear g1 g2 g3
  simp only[List.map_cons,List.map_nil,l5,List.length_cons,List.length_nil] at qC
  have HNd:=hid (fun W=>uo o W)
  generalize iB o=od at*
  clear hnd Md
  go_enter Tryz.func115,Tryz.ntmps115
  go_upto_region 1 with fail
  rw[<-HW.out]
  go_upto_region 21 with fail
  have wR:=eO w1 ⟨w.heap.size,0,none⟩ (.string nm) fun xh=>(xh.2.cell (p:=⟨w.heap.size,0,none⟩) hz1).trans y0;have hq1:=eO w1 ⟨w.heap.size,1,none⟩ (.string o) fun xh=>(xh.2.cell (p:=⟨w.heap.size,1,none⟩) hz1).trans y1;have WB:=eO w1 ⟨w.heap.size,4,none⟩ (.int .i64 lo) fun xh=>(xh.2.cell (p:=⟨w.heap.size,4,none⟩) hz1).trans y4;have hq5:=eO w1 ⟨w.heap.size,5,none⟩ (.int .i64 hi) fun xh=>(xh.2.cell (p:=⟨w.heap.size,5,none⟩) hz1).trans y5;refine aZ 15 (.quiet 0 (.quiet 1 (.quiet 2 (.quiet 3 (.quiet 4 (.quiet 5 (.quiet 8 (.quiet 9 (.quiet 10 (.quiet 11 (.quiet 12 (.quiet 13 (.one 6 (.quiet 7 (.one 14 .done))))))))))))))) (BL w1) oL (by kernel_rfl) (aI aF 1) ?_;have bX:=hid (aI (Below.refl w1.heap.size w1) 1);generalize w1.drewN 1=w2 at*;clear y0 y1 y2 y3 y4 y5 y6 y7 hwd
  iterate 12 refine fE ?_
  refine aT rfl ?_
  go_wp2_with fail
  refine(HNd.out w2).mono ?_
  rintro e w3 ⟨rfl,hb3⟩
  have cE:=aU bX hb3
  clear hb3
  go_wp2_with fail
  refine aJ (BL w1) (fun _ h=>h) cE.out ?_
  refine fE ?_
  have HLn3:=hid (qC.out w3 (cG bT.out cE.out))
  refine aT rfl ?_
  go_wp2_with fail
  refine aJ (BL w1) (fun _ h=>h) (cE.out.alloc cE.out.size _) ?_
  refine bh ?_
  try simp only[jZ,jP]
  clear wR hq1 WB hq5
  go_wp2_with fail
  refine HLn3.out.mono ?_
  rintro e w4 ⟨s,rfl,hs,hb4⟩
  have HS:=hid hs
  have gK:=hid hb4
  clear hs hb4
  go_wp2
  go_ret
  exact⟨s,rfl,HS.out,gK.out⟩):p:=h
theorem Fc{p:Prop}(h:p:=by
  clear g1 g2 g3
  simp only[List.map_cons,List.map_nil,l5,List.length_cons,List.length_nil] at qC
  go_enter Tryz.func115,Tryz.ntmps115
  go_upto_region 1 with fail
  rw[<-HW.out]
  go_wp2_with fail
  refine qC.out.mono ?_
  rintro e w3 ⟨s,rfl,hs,hb3⟩
  have HS:=hid hs
  have cE:=hid hb3
  clear hs hb3
  go_wp2
  go_ret
  exact⟨s,rfl,HS.out,cE.out⟩):p:=h
theorem Me(f:ah.cD)(hf:ah.cV f=true)(uw ug:Value)(S T:Nat->Prop)(w:World)(h1:fP S w uw f.cB)(h2:bq T w ug f.bO)(hl:LaidW w):
  Calls Tryz.prog 115 #[.agg (cF f uw ug).toArray] w (Fa (ah.bZ f) w):=by
 obtain⟨hnm,hcase⟩:=vE hf;obtain⟨kk0,kk8⟩:=ah.sG hf;have hnz:=dS hnm;obtain⟨aw,cw,rfl,hsw, -, -⟩:=h1.form;obtain⟨ag,cg,rfl,hsg, -, -⟩:=h2.form;have Ai:=fun k (h:k<9)=>hl.cB k h;obtain⟨w1,hw1⟩:=bB (w.alloc (.cells (cF f (.slice aw f.cB.length cw) (.slice ag f.bO.length cg)).toArray 46));have bT:Hid (Below w.heap.size w w1):=hid Ab;have vR:Hid (LaidW w1):=hid (hl.next bT.out);have HK:Hid (∀W,BL w1 W->W.heap[w.heap.size]?=some (.cells (cF f (.slice aw f.cB.length cw) (.slice ag f.bO.length cg)).toArray 46 (0,0))):=hid (fun W hW=>(hW.block _ jH).trans wI);have HV1:=hid (h1.keep (aD.below bT.out));have HV2:=hid (h2.keep (aD.below bT.out));have hz1:w.heap.size<w1.heap.size:=jH
 have Xk:Hid (LaidW w):=hid hl;have h51:5<=w1.heap.size:=vR.out.size;obtain⟨FN,hFN⟩:=bB (ah.bZ f);rw[<-hFN];clear h1 h2 hl hnm Ai;obtain⟨nm,o,up,k,lo,hi,ws,gs⟩:=f;simp only[cF] at hw1 HK kk0 kk8 hnz HV1 HV2 hsw hsg ⊢;have HW:=hid hw1;clear hw1;obtain⟨⟨y0,y1,y2,y3,y4,y5,y6,y7⟩, -⟩:=dK (HK.out w1 aF);have Ao:=hid hcase;have HFB:=hid hf;clear hcase hf;have:k=0\/k=1\/k=2\/k=3\/k=4\/k=5\/k=6\/k=7\/k=8:=aB
 rcases this with rfl|rfl|rfl|rfl|rfl|rfl|rfl|rfl|rfl
 ·have hwd:w1.cell? ⟨1,0,none⟩=some (.string {data:=#[107,101,121]}):=vR.out.cB 0 aB
  have hc:ah.qA lo (-1048576) 1048576=true:=Ao.out;have hcn:=gJ hc;obtain⟨g1,g2,g3⟩:=aaj nm o up o lo hi ws gs hnz hcn.1 hcn.2;have qC:=hid (fG {data:=#[107,101,121]} [.str nm,.num lo] g1 g2 bp w1 20 vR.out w bT.out FN Eg);exact Fc
 ·have hwd:w1.cell? ⟨1,1,none⟩=some (.string {data:=#[114,101,102]}):=vR.out.cB 1 aB
  have hc:(ah.aY o&&ah.fJ lo hi 0 65536)=true:=Ao.out;obtain⟨hc1,hc2⟩:=Bool.and_eq_true_iff.1 hc;have hcn:=jM hc2;have QF:o.size<=12:=dS hc1;have hnd:=kr o;have Md:ah.dR o<=12:=lP QF;obtain⟨g1,g2,g3⟩:=aao nm o up (iB o) lo hi ws gs hnz Md hnd aB hcn.2.1 aB;have qC:=hid (fun(W:World) (hb:BL w W)=>fG {data:=#[114,101,102]} [.str nm,.str (iB o),.num lo,.num hi] g1 g2 bp W 20 (Xk.out.next hb) w hb FN Eg);exact QE
 ·have hwd:w1.cell? ⟨1,2,none⟩=some (.string {data:=#[110,117,109]}):=vR.out.cB 2 aB
  have hc:ah.fJ lo hi (-1048576) 1048576=true:=Ao.out;have hcn:=jM hc;obtain⟨g1,g2,g3⟩:=aak nm o up o lo hi ws gs hnz hcn.1 hcn.2.1 hcn.2.2;have qC:=hid (fG {data:=#[110,117,109]} [.str nm,.num lo,.num hi] g1 g2 bp w1 20 vR.out w bT.out FN Eg);exact Fc
 ·have hwd:w1.cell? ⟨1,3,none⟩=some (.string {data:=#[112,105,99,107]}):=vR.out.cB 3 aB
  have hc:ah.jR ws gs=true:=Ao.out;obtain⟨p1,p2,p3,p4,p5⟩:=oy hc;have UL:=(gJ p2).2;have HA:=hid (QD nm o up ws gs lo hi hnz hc);have HG:=hid p3;obtain⟨n,hn⟩:=bB ws.length;have hng:n=gs.length:=hn.trans p3;rw[<-hn] at hsw HV1 HK y6 UL HA;rw[<-hng] at hsg HV2 HK y7;have HN:=hid hn;have HNG:=hid hng;clear hn hng p1 p2 p3 p4 p5 hc;obtain⟨w2,hw2⟩:=bB (w1.alloc (.cells #[.iface 9 (.string nm),.iface 3 (.int .i64 (n:Int))] 20));have bX:Hid (Below w1.heap.size w1 w2):=hid Zf;have DZ:Hid (kN (w1.heap.size<=·) w2 (.slice (some ⟨w1.heap.size,0,none⟩) 2 2) [.str nm,.num n]):=hid (by rw[hw2];exact BW w1 (.str nm) (.num n));have HW2:=hid hw2;clear hw2;rw[<-HN.out,<-HNG.out] at HW ⊢;go_enter Tryz.func115,Tryz.ntmps115;go_upto_region 1 with fail;rw[<-HW.out];go_upto_region 9 with fail;rw[<-HW2.out];clear y0 y1 y2 y3 y4 y5 y6 y7 hwd;obtain⟨⟨y0,y1,y2,y3,y4,y5,y6,y7⟩, -⟩:=dK (HK.out w2 bX.out);go_upto_region 10 with fail;clear y0 y1 y2 y3 y4 y5 y6 y7;go_loopw [4,51] (fun s i wr=>∃(k:Nat) (xs:List Arg) (av:Option Addr) (cv:Nat),k<=n/\i=.int .i64 (k:Int)/\s=.slice av xs.length cv/\Hid (xs=.str nm::.num n::eX (ws.take k) (gs.take k))/\Hid (kN (w1.heap.size<=·) wr (.slice av xs.length cv) xs)/\Hid (BL w1 wr)) (fun _ i _=>n-(intOf i).toNat);case atStart=>exact⟨0,[.str nm,.num n],_,_,aB,rfl,rfl,hid (by simp[eX]),DZ,bX⟩
  case round=>
   obtain⟨k,xs,av,cv,hk,rfl,rfl,HX,HF,HB⟩:=hrel;obtain⟨wo,rfl⟩:=bB (wr:World);have hxl:xs.length<=1000:=by rw[HX.out];have:=yO (ws.take k) (gs.take k);simp at this ⊢;omega
   by_cases hlt:k<n
   ·have hk0:(0:Int)<=(k:Int):=by omega
    have hk1:(k:Int)<(n:Int):=aB
    have hkw:k<ws.length:=TJ
    have hkg:k<gs.length:=by rw[<-HNG.out];exact hlt
    obtain⟨x,hx, -,hx2⟩:=(fP.keep HV1.out (aD.below (HB.out.mono aB|>fun h=>HB.out))).at hkw;obtain⟨y,hy, -,hy2⟩:=(bq.keep HV2.out (aD.below HB.out)).at hkg;subst hx2;subst hy2
    have Ap:Hid (xs++[.str ws[k],.num gs[k]]=.str nm::.num n::eX (ws.take (k+1)) (gs.take (k+1))):=hid (by
     rw[HX.out,Fb ws gs hkw hkg];rfl)
    generalize ws[k]=xw at*;generalize gs[k]=xg at*;obtain⟨⟨y0,y1,y2,y3,y4,y5,y6,y7⟩, -⟩:=dK (HK.out wo HB.out);have UQ:Hid (BL wo (wo.alloc (.cells #[.iface 9 (.string xw),.iface 3 (.int .i64 xg)] 20))):=hid (aF.alloc aH _);have HvA:=hid (rH wo [.str xw,.num xg] bp 20);simp only[List.map_cons,List.map_nil,l5,List.length_cons,List.length_nil] at HvA;go_wp2_with (at_builtin;go_must (refine vN rfl _ _ rfl Tryz.ac3 rfl HF.out UQ.out rfl HvA.out lC ?_));intro v2 w3 yR ht3;obtain⟨z2,hz2⟩:=bB (xs++[.str xw,.num xg]);rw[<-hz2] at yR Ap;have EU:Hid (kN (w1.heap.size<=·) w3 v2 z2):=hid (sO.mono yR (fun b _ hb=>gM HB.out.size b hb));have cE:Hid (BL w1 w3):=hid ((cG HB.out UQ.out).trans (ht3.below (by have:=UQ.out.size;have:=HB.out.size;omega) (fun b hb=>HF.out.2 b hb.symm)));obtain⟨a2,c2,rfl, -, -, -⟩:=(kN.sl EU.out).form;clear yR ht3 hz2 y0 y1 y2 y3 y4 y5 y6 y7;go_wp2;go_roundw;case rel=>exact⟨k+1,z2,a2,c2,aB,by go_num,rfl,Ap,EU,cE⟩
    simp[intOf];omega
   ·have hkn:k=n:=by omega
    have HXE:Hid (xs=.str nm::.num n::eX ws gs):=hid (by rw[HX.out,zTl (by rw[<-HN.out];omega),zTl (by rw[<-HNG.out];omega)])
    have qC:Hid (CP 114 #[.string {data:=#[112,105,99,107]},.slice av xs.length cv] wo (Fa FN w)):=hid (by
     obtain⟨g1,g2,g3⟩:=HA.out
     rw[<-HXE.out] at g1 g2 g3
     refine(yN _ xs g1 g2 _ _ wo (kN.sl HF.out) (vR.out.next HB.out)).mono ?_
     rintro e w' ⟨s,rfl,hs,hb'⟩
     exact⟨s,rfl,by rw[hs,hFN];exact g3,(cG bT.out HB.out).trans (hb'.mono (by have:=bT.out.size;have:=HB.out.size;omega))⟩)
    go_wp2_with fail;refine qC.out.mono ?_;rintro e w4 ⟨s,rfl,hs,hb4⟩;have HS:=hid hs;have gK:=hid hb4;clear hs hb4;go_wp2;go_ret;exact⟨s,rfl,HS.out,gK.out⟩
 ·have hwd:w1.cell? ⟨1,4,none⟩=some (.string {data:=#[100,97,121]}):=vR.out.cB 4 aB
  have hc:((decide (o=ah.nil)||ah.aY o)&&ah.fJ lo hi (-1048576) 1048576)=true:=Ao.out;obtain⟨hc1,hc2⟩:=Bool.and_eq_true_iff.1 hc;have hcn:=jM hc2
  have QF:o.size<=12:=by
   rcases Bool.or_eq_true_iff.1 hc1 with h|h
   ·rw[of_decide_eq_true h];decide
   ·exact dS h
  have hnd:=kr o;have Md:ah.dR o<=12:=lP QF;obtain⟨g1,g2,g3⟩:=aap nm o up (iB o) lo hi ws gs hnz Md hnd aB hcn.2.1 aB;have qC:=hid (fun(W:World) (hb:BL w W)=>fG {data:=#[100,97,121]} [.str nm,.str (iB o),.num lo,.num hi] g1 g2 bp W 20 (Xk.out.next hb) w hb FN Eg);exact QE
 ·have hwd:w1.cell? ⟨1,5,none⟩=some (.string {data:=#[115,116,101,112]}):=vR.out.cB 5 aB
  have hc:(ah.aY o&&ah.fJ lo hi 0 32)=true:=Ao.out;obtain⟨hc1,hc2⟩:=Bool.and_eq_true_iff.1 hc;have hcn:=jM hc2;have QF:o.size<=12:=dS hc1;have hnd:=kr o;have Md:ah.dR o<=12:=lP QF;obtain⟨g1,g2,g3⟩:=aaq nm o up (iB o) lo hi ws gs hnz Md hnd aB hcn.2.1 aB;have qC:=hid (fun(W:World) (hb:BL w W)=>fG {data:=#[115,116,101,112]} [.str nm,.str (iB o),.num lo,.num hi] g1 g2 bp W 20 (Xk.out.next hb) w hb FN Eg);exact QE
 ·have hwd:w1.cell? ⟨1,6,none⟩=some (.string {data:=#[115,117,109]}):=vR.out.cB 6 aB
  have hc:ah.aY o=true:=Ao.out;have QF:o.size<=12:=dS hc;obtain⟨g1,g2,g3⟩:=aal nm o up o lo hi ws gs hnz QF;have qC:=hid (fG {data:=#[115,117,109]} [.str nm,.str o] g1 g2 bp w1 20 vR.out w bT.out FN Eg);exact Fc
 ·have hwd:w1.cell? ⟨1,7,none⟩=some (.string {data:=#[115,104,97,114,101]}):=vR.out.cB 7 aB
  have hc:(ah.aY o&&ah.aY up&&ah.fJ lo hi 0 1048576)=true:=Ao.out;obtain⟨hc0,hc3⟩:=Bool.and_eq_true_iff.1 hc;obtain⟨hc1,hc2⟩:=Bool.and_eq_true_iff.1 hc0;have hcn:=jM hc3;have QF:o.size<=12:=dS hc1;have XE:up.size<=12:=dS hc2;obtain⟨g1,g2,g3⟩:=aam nm o up o lo hi ws gs hnz QF XE hcn.1 hcn.2.1 hcn.2.2;have qC:=hid (fG {data:=#[115,104,97,114,101]} [.str nm,.str up,.str o,.num lo,.num hi] g1 g2 bp w1 20 vR.out w bT.out FN Eg);exact Fc
 ·have hwd:w1.cell? ⟨1,8,none⟩=some (.string {data:=#[99,111,112,121]}):=vR.out.cB 8 aB
  have hc:(ah.aY o&&ah.aY up)=true:=Ao.out;obtain⟨hc1,hc2⟩:=Bool.and_eq_true_iff.1 hc;have QF:o.size<=12:=dS hc1;have XE:up.size<=12:=dS hc2;obtain⟨g1,g2,g3⟩:=aan nm o up o lo hi ws gs hnz QF XE;have qC:=hid (fG {data:=#[99,111,112,121]} [.str nm,.str up,.str o] g1 g2 bp w1 20 vR.out w bT.out FN Eg);exact Fc
theorem Fe{α β:Type}(f:α->β)(g:β->Nat):∀l:List α,ah.bK g (l.map f)=ah.bK (fun x=>g (f x)) l
 |[]=>rfl
 |x::l=>by rw[List.map_cons,eB,eB,Fe f g l]
theorem sP{x:ah.cA}(h:ah.pG x=true):ah.qA x.aL 0 1048576=true/\x.aA.length<=6/\x.aP.length<=6/\x.aR.length<=16/\(∀k∈x.aA,ah.oM k=true)/\(∀k∈x.aP,ah.r9 k=true)/\∀k∈x.aR,ah.si k=true:=by
 unfold ah.pG at h;simp only[pF,qZ,List.all_eq_true] at h;exact⟨h.1.1.1.1.1.1,h.1.1.1.1.1.2,h.1.1.1.1.2,h.1.1.1.2,h.1.1.2,h.1.2,h.2⟩
def mw(m:Int×Int):Nat:=4+(1+ah.dx m.1)+(1+ah.dx m.2)+1
theorem sQ{s:ByteArray}(h:s=ah.nil\/ah.aY s=true):s.size<=12:=by
 rcases h with rfl|h
 ·decide
 ·exact dS h
theorem Io(x:ah.cA)(hx:ah.pG x=true)(hsz:ah.Eu x<=8192)(v:Value)(S:Nat->Prop)(w:World)(hv:d9 S w v x)(D1:LaidW w):
  Calls Tryz.prog 74 #[v] w (Fa (ah.Eu x) w):=by
 obtain⟨p1,p2,p3,p4,p5,p6,p7⟩:=sP hx;obtain⟨ak,ck,al,cl,ar,cr,rfl,hk,hl,hr,hsk,hsl,hsr⟩:=hv.form;obtain⟨b,hb0⟩:=bB (w.heap.size+1);obtain⟨w1,hw1⟩:=bB ((dP w x.aL (.slice ak x.aA.length ck) (.slice al x.aP.length cl) (.slice ar x.aR.length cr)).alloc (.cells #[.pointer none,.slice none 0 0] 191));have bT:Hid (Below w.heap.size w w1):=hid Og;have HX:Hid (∀W,Below b w1 W->W.heap[w.heap.size]?=some (.cells #[.int .i64 x.aL,.slice ak x.aA.length ck,.slice al x.aP.length cl,.slice ar x.aR.length cr] 27 (0,0))):=hid (fun W hW=>(hW.block _ aB).trans Oj)
 have HD1:Hid (gF b b 0 w1):=hid (by
  have e:b=(dP w x.aL (.slice ak x.aA.length ck) (.slice al x.aP.length cl) (.slice ar x.aR.length cr)).heap.size:=by rw[hb0];simp[dP]
  rw[hw1,e]
  exact⟨[],rfl,Lib.fresh_isBuilder _ _ _⟩)
 have NW:b<w1.heap.size:=by rw[hw1,hb0];simp[dP]
 have hbw0:w.heap.size<b:=aB
 have h5:5<=w.heap.size:=D1.size;have Ac:Hid (∀W,Below b w1 W->LaidW W):=hid (fun W hW=>(D1.next bT.out).below hW aB);have QG:Hid (∀W,Below b w1 W->gU S W (.slice ak x.aA.length ck) x.aA):=hid (fun W hW=>hk.keep (aD.below (bT.out.trans (hW.mono aB))));have Mf:Hid (∀W,Below b w1 W->sA S W (.slice al x.aP.length cl) x.aP):=hid (fun W hW=>dQ.keep cW hl (aD.below (bT.out.trans (hW.mono aB))));have KM:Hid (∀W,Below b w1 W->uY S W (.slice ar x.aR.length cr) x.aR):=hid (fun W hW=>dQ.keep fe hr (aD.below (bT.out.trans (hW.mono aB))));have HE:Hid (∀W,Below b w1 W->BL w W):=hid (fun W hW=>bT.out.trans (hW.mono aB));have QH:=hid hk;have HLw:=hid hl;have HRw:=hid hr;have HP5:=hid p5;have HP6:=hid p6;have HP7:=hid p7;unfold dP at hw1;have HW:=hid hw1;have KN:=hid hb0;obtain⟨T,hT⟩:=bB (ah.Eu x);obtain⟨P0,hP0⟩:=bB (6+(1+ah.dx x.aL)+1);have HT:Hid (T=P0+ah.bK ah.gQ x.aA+ah.bK ah.jq x.aP+ah.bK ah.kM x.aR/\T<=8192):=hid ⟨by rw[hT,hP0];rfl,aB⟩;rw[<-hT];have hver:=gJ p1;have hdv:=cN x.aL;clear hx hsz hv D1 hk hl hr p1 p5 p6 p7 hw1 hb0 hT;obtain⟨⟨z0,z1,z2,z3⟩, -⟩:=bC (HX.out w1 aF);have hm:=fG {data:=#[115,99,104,101,109,97]} [.num x.aL] (by intro a ha;rw[mL.1 ha];simp only[gV];omega) (by rw[eB,jV];simp only[argN];have:({data:=#[115,99,104,101,109,97]}:ByteArray).size=6:=rfl;omega) bp w1 20 (Ac.out w1 aF) w1 aF P0 (by rw[eB,jV,hP0];simp only[argN];have:({data:=#[115,99,104,101,109,97]}:ByteArray).size=6:=rfl;omega);simp only[List.map_cons,List.map_nil,l5,List.length_cons,List.length_nil] at hm;have qC:=hid hm;clear hm hP0 hver hdv;generalize x.aL=ver at*;go_enter Tryz.func74,Tryz.ntmps74;go_upto_region 2 with fail;rw[<-HW.out,<-KN.out];go_wp2_with fail;refine qC.out.mono ?_;rintro e w2 ⟨s,rfl,hs,hb⟩;have XB:=hid (HD1.out.below hb);have bX:Hid (Below b w1 w2):=hid (hb.mono aB);go_wp2_with fail;refine(dH b b 0 s w2 XB.out Ow (by have:=bX.out.size;omega)).mono ?_;rintro e w3 ⟨rfl,hd,hb3, -⟩;have cE:Hid (Below b w1 w3):=hid (bX.out.trans hb3);have UN:Hid (gF b b (P0+ah.bK ah.gQ (x.aA.take 0)) w3):=hid Ze;clear hs hb hd hb3 z0 z1 z2 z3;obtain⟨⟨z0,z1,z2,z3⟩, -⟩:=bC (HX.out w3 cE.out);go_upto_region 4 with fail;clear z0 z1 z2 z3;go_loopw [26] (fun i wr=>∃k:Nat,k<=x.aA.length/\i=.int .i64 (k:Int)/\Hid (gF b b (P0+ah.bK ah.gQ (x.aA.take k)) wr)/\Hid (Below b w1 wr)) (fun i _=>x.aA.length-(intOf i).toNat);case atStart=>exact⟨0,aB,rfl,UN,cE⟩
 case round=>
  obtain⟨k,hk,rfl,HD,HB⟩:=hrel;obtain⟨wo,rfl⟩:=bB (wr:World);by_cases hlt:k<x.aA.length
  ·have hk0:(0:Int)<=(k:Int):=by omega
   have hk1:(k:Int)<(x.aA.length:Int):=aB
   obtain⟨nK, -,v0,v1,v2,uf,v3,hf⟩:=QH.out.at hlt;have Tb:=HE.out wo HB.out;have y0:=(Tb.cell (p:=⟨bL ak,bP ak+k*4,none⟩) nK).trans v0;have y1:=(Tb.cell (p:=⟨bL ak,bP ak+k*4+1,none⟩) nK).trans v1;have y2:=(Tb.cell (p:=⟨bL ak,bP ak+k*4+2,none⟩) nK).trans v2;have y3:=(Tb.cell (p:=⟨bL ak,bP ak+k*4+3,none⟩) nK).trans v3;clear v0 v1 v2 v3 Tb;obtain⟨q1,q2,q3,q4⟩:=vF (HP5.out _ (gm hlt));have q5:=dS q1;have q6:=jM q2;have hsum:=lu ah.gQ x.aA hlt;have hle:=iJ ah.gQ x.aA (k+1);obtain⟨N0,XF⟩:=bB (P0+ah.bK ah.gQ (x.aA.take k));have hkN:ah.gQ x.aA[k]=4+(1+x.aA[k].name.size)+(1+ah.dx x.aA[k].lo)+(1+ah.dx x.aA[k].hi)+1+ah.bK ah.bZ x.aA[k].aG:=rfl;have HN:Hid (P0+ah.bK ah.gQ (x.aA.take (k+1))=N0+(4+(1+x.aA[k].name.size)+(1+ah.dx x.aA[k].lo)+(1+ah.dx x.aA[k].hi)+1)+ah.bK ah.bZ x.aA[k].aG/\N0+(4+(1+x.aA[k].name.size)+(1+ah.dx x.aA[k].lo)+(1+ah.dx x.aA[k].hi)+1)+ah.bK ah.bZ x.aA[k].aG<=8192):=hid Ow;rw[<-XF] at HD;clear hsum hle XF hkN q1 q2;generalize x.aA[k]=kd at*;obtain⟨nm,lo,hi,fs⟩:=kd;simp only at y0 y1 y2 hf q3 q4 q5 q6 HN;obtain⟨af,cf,rfl,hsf, -, -⟩:=hf.form;have HF:Hid (∀W,Below b w1 W->dh S W (.slice af fs.length cf) fs):=hid (fun W hW=>hf.keep (aD.below (HE.out W hW)));have HP4:=hid q4;have hd1:=cN lo;have hd2:=cN hi;clear hf q4;obtain⟨M0,QI⟩:=bB (4+(1+nm.size)+(1+ah.dx lo)+(1+ah.dx hi)+1);rw[<-QI] at HN;obtain⟨w5,rV⟩:=bB (wo.alloc (.cells #[.string nm,.int .i64 lo,.int .i64 hi,.slice af fs.length cf] 49));have iD:Hid (Below b w1 w5):=hid OE;have UO:Hid (gF b b N0 w5):=hid Y5;have oU:Hid (w5.heap[wo.heap.size]?=some (.cells #[.string nm,.int .i64 lo,.int .i64 hi,.slice af fs.length cf] 49 (0,0))):=hid (by rw[rV];exact aW wo _ rfl);have A7:wo.heap.size≠b:=Tz
   obtain⟨⟨u0,u1,u2,u3⟩, -⟩:=bC oU.out;have hm:=fG {data:=#[107,105,110,100]} [.str nm,.num lo,.num hi] (by intro a ha;simp only[kD,GI,or_false] at ha;rcases ha with rfl|rfl|rfl<;>first|trivial|(simp only[gV];omega)) (by simp only[eB,jV,argN];have:({data:=#[107,105,110,100]}:ByteArray).size=4:=rfl;omega) bp w5 20 (Ac.out w5 iD.out) w5 aF M0 (by rw[QI];simp only[eB,jV,argN];have:({data:=#[107,105,110,100]}:ByteArray).size=4:=rfl;omega);simp only[List.map_cons,List.map_nil,l5,List.length_cons,List.length_nil] at hm;have qC:=hid hm;have Aq:=hid rV;clear hm QI hd1 hd2 q5 q6 rV;go_upto_region 6 with fail;rw[<-Aq.out];clear y0 y1 y2 y3;go_wp2_with fail;refine qC.out.mono ?_;rintro e w6 ⟨s,rfl,hs,hb⟩;have Tc:=hid (UO.out.below hb);have qp:Hid (Below b w1 w6):=hid (iD.out.trans (hb.mono (by have:=iD.out.size;omega)));have DY:Hid (w6.heap[wo.heap.size]?=some (.cells #[.string nm,.int .i64 lo,.int .i64 hi,.slice af fs.length cf] 49 (0,0))):=hid ((hb.block _ (aC oU.out)).trans oU.out);go_wp2_with fail;refine(dH b b N0 s w6 Tc.out Ee (by have:=qp.out.size;omega)).mono ?_;rintro e w7 ⟨rfl,hd,oV,LD⟩;have jT:Hid (Below b w1 w7):=hid (qp.out.trans oV);have HD7:Hid (gF b b (N0+M0+ah.bK ah.bZ (fs.take 0)) w7):=hid Ze;have EP:Hid (w7.heap[wo.heap.size]?=some (.cells #[.string nm,.int .i64 lo,.int .i64 hi,.slice af fs.length cf] 49 (0,0))):=hid (LD _ _ DY.out A7 (fun cs fr e=>by simp at e));clear hs hb hd oV LD u0 u1 u2 u3 qC;obtain⟨⟨u0,u1,u2,u3⟩, -⟩:=bC EP.out;go_upto_region 8 with fail;clear u0 u1 u2 u3;go_loopw [45] (fun i wr=>∃j:Nat,j<=fs.length/\i=.int .i64 (j:Int)/\Hid (gF b b (N0+M0+ah.bK ah.bZ (fs.take j)) wr)/\Hid (Below b w1 wr)) (fun i _=>fs.length-(intOf i).toNat);case atStart=>exact⟨0,aB,rfl,HD7,jT⟩
   case round=>
    obtain⟨j,hj,rfl,HDi,HBi⟩:=hrel;obtain⟨wi,rfl⟩:=bB (wr:World);by_cases hjl:j<fs.length
    ·have hj0:(0:Int)<=(j:Int):=by omega
     have hj1:(j:Int)<(fs.length:Int):=aB
     obtain⟨-, -,c0,c1,c2,c3,c4,c5,uw,ug,c6,c7,hu1,mU⟩:=(HF.out wi HBi.out).at hjl;have NX:=HP4.out _ (gm hjl);have hsum:=lu ah.bZ fs hjl;have hle:=iJ ah.bZ fs (j+1);obtain⟨N2,hN2⟩:=bB (N0+M0+ah.bK ah.bZ (fs.take j));have HN2:Hid (N0+M0+ah.bK ah.bZ (fs.take (j+1))=N2+ah.bZ fs[j]/\N2+ah.bZ fs[j]<=8192):=hid Ee;rw[<-hN2] at HDi;clear hsum hle hN2;obtain⟨a1,n1,d1,rfl⟩:∃a n c,uw=.slice a n c:=by obtain⟨a,c,e, -⟩:=hu1.form;exact⟨_,_,_,e⟩
     obtain⟨a2,n2,d2,rfl⟩:∃a n c,ug=.slice a n c:=by obtain⟨a,c,e, -⟩:=mU.form;exact⟨_,_,_,e⟩
     generalize fs[j]=fd at*;obtain⟨w8,hw8⟩:=bB (wi.alloc (.cells (cF fd (.slice a1 n1 d1) (.slice a2 n2 d2)).toArray 46));have hal:BL wi w8:=by rw[hw8];exact aF.alloc aH _
     have oW:Hid (Below b w1 w8):=hid (HBi.out.trans (hal.mono (by have:=HBi.out.size;omega)));have XG:Hid (gF b b N2 w8):=hid (HDi.out.below hal);have D2:=hid (Me fd NX _ _ S S w8 (hu1.keep (aD.below hal)) (mU.keep (aD.below hal)) (Ac.out w8 oW.out));have EQ:Hid (w8.heap[wi.heap.size]?=some (.cells (cF fd (.slice a1 n1 d1) (.slice a2 n2 d2)).toArray 46 (0,0))):=hid (by rw[hw8];exact aW wi _ rfl);obtain⟨FN,hFN⟩:=bB (ah.bZ fd);rw[<-hFN] at D2 HN2;clear hu1 mU NX hal hFN;obtain⟨fn1,fo,fu,fk,fl,fh,Ip,Iq⟩:=fd;simp only[cF] at hw8 EQ D2;simp only at c0 c1 c2 c3 c4 c5;obtain⟨⟨u0,u1,u2,u3,u4,u5,u6,u7⟩, -⟩:=dK EQ.out;have Ui:=hid hw8;clear hw8;go_upto_region 10 with fail;rw[<-Ui.out];clear c0 c1 c2 c3 c4 c5 c6 c7;go_wp2_with fail;refine D2.out.mono ?_;rintro e w9 ⟨s,rfl,hs,hb⟩;have HD9:=hid (XG.out.below hb);have mR:Hid (Below b w1 w9):=hid (oW.out.trans (hb.mono (by have:=oW.out.size;omega)));go_wp2_with fail;refine(dH b b N2 s w9 HD9.out (by have:=HN2.out;omega) Oy).mono ?_;rintro e lX ⟨rfl,hd,sR, -⟩;have ku:Hid (Below b w1 lX):=hid (mR.out.trans sR);have QJ:Hid (gF b b (N0+M0+ah.bK ah.bZ (fs.take (j+1))) lX):=hid (by rw[HN2.out.1,<-hs];exact hd);clear hs hb hd sR u0 u1 u2 u3 u4 u5 u6 u7;go_wp2;go_roundw;case rel=>exact⟨j+1,aB,by go_num,QJ,ku⟩
     simp[intOf];omega
    ·have hjj:j=fs.length:=by omega
     have HDe:Hid (gF b b (P0+ah.bK ah.gQ (x.aA.take (k+1))) wi):=hid (by
      have:=HDi.out
      rw[hjj,List.take_length] at this
      rw[HN.out.1];exact this)
     go_wp2;go_roundw;case rel=>exact⟨k+1,aB,by go_num,HDe,HBi⟩
     simp[intOf];omega
  ·have HD4:Hid (gF b b (P0+ah.bK ah.gQ x.aA+ah.bK ah.jq (x.aP.take 0)) wo):=hid (by
    have:=HD.out
    rw[show k=x.aA.length by omega,List.take_length] at this
    simpa [ah.bK] using this)
   obtain⟨⟨z0,z1,z2,z3⟩, -⟩:=bC (HX.out wo HB.out);have gK:=hid HB.out;clear HD;go_upto_region 14 with fail;clear z0 z1 z2 z3;go_loopw [57] (fun i wr=>∃k:Nat,k<=x.aP.length/\i=.int .i64 (k:Int)/\Hid (gF b b (P0+ah.bK ah.gQ x.aA+ah.bK ah.jq (x.aP.take k)) wr)/\Hid (Below b w1 wr)) (fun i _=>x.aP.length-(intOf i).toNat);case atStart=>exact⟨0,aB,rfl,HD4,gK⟩
   case round=>
    obtain⟨k,hk,rfl,HD,HB⟩:=hrel;obtain⟨wl,rfl⟩:=bB (wr:World);by_cases hlt:k<x.aP.length
    ·have hk0:(0:Int)<=(k:Int):=by omega
     have hk1:(k:Int)<(x.aP.length:Int):=aB
     obtain⟨nK, -,v0,us1,us2,v1,v2,hst,hmv⟩:=HLw.out.at hlt;have Tb:=HE.out wl HB.out;have y0:=(Tb.cell (p:=⟨bL al,bP al+k*3,none⟩) nK).trans v0;have y1:=(Tb.cell (p:=⟨bL al,bP al+k*3+1,none⟩) nK).trans v1;have y2:=(Tb.cell (p:=⟨bL al,bP al+k*3+2,none⟩) nK).trans v2;clear v0 v1 v2 Tb;obtain⟨q1,q2,q3,q4,q5⟩:=vG (HP6.out _ (gm hlt));have q6:=dS q1;have q7:=(gJ q2).2;have hsum:=lu ah.jq x.aP hlt;have hle:=iJ ah.jq x.aP (k+1);obtain⟨N0,XF⟩:=bB (P0+ah.bK ah.gQ x.aA+ah.bK ah.jq (x.aP.take k));have hkN:ah.jq x.aP[k]=4+(1+x.aP[k].name.size)+(1+ah.dx x.aP[k].dw.length)+ah.bK (fun s:ByteArray=>1+s.size) x.aP[k].dw+1+ah.bK mw x.aP[k].iw:=rfl;have HN:Hid (P0+ah.bK ah.gQ x.aA+ah.bK ah.jq (x.aP.take (k+1))=N0+(4+(1+x.aP[k].name.size)+(1+ah.dx x.aP[k].dw.length)+ah.bK (fun s:ByteArray=>1+s.size) x.aP[k].dw+1)+ah.bK mw x.aP[k].iw/\N0+(4+(1+x.aP[k].name.size)+(1+ah.dx x.aP[k].dw.length)+ah.bK (fun s:ByteArray=>1+s.size) x.aP[k].dw+1)+ah.bK mw x.aP[k].iw<=8192):=hid Ow;rw[<-XF] at HD;clear hsum hle XF hkN q1 q2;generalize x.aP[k]=kd at*;obtain⟨nm,ss,ms⟩:=kd;simp only at y0 hst hmv q3 q4 q5 q6 q7 HN;obtain⟨a1,c1,rfl,hs1, -, -⟩:=hst.form;obtain⟨a2,c2,rfl,hs2, -, -⟩:=hmv.form;have HSs:Hid (∀W,Below b w1 W->fP S W (.slice a1 ss.length c1) ss):=hid (fun W hW=>hst.keep (aD.below (HE.out W hW)));have HMs:Hid (∀W,Below b w1 W->Bu S W (.slice a2 ms.length c2) ms):=hid (fun W hW=>dQ.keep eZ hmv (aD.below (HE.out W hW)));have HQ5:=hid q5;have hdn:=cN (ss.length:Int);clear hst hmv q3 q5;obtain⟨M0,QI⟩:=bB (4+(1+nm.size)+(1+ah.dx ss.length)+ah.bK (fun s:ByteArray=>1+s.size) ss+1);rw[<-QI] at HN;have HM0:=hid QI;clear QI;obtain⟨w5,rV⟩:=bB (wl.alloc (.cells #[.string nm,.slice a1 ss.length c1,.slice a2 ms.length c2] 58));have iD:Hid (Below b w1 w5):=hid OE;have UO:Hid (gF b b N0 w5):=hid Y5;have oU:Hid (w5.heap[wl.heap.size]?=some (.cells #[.string nm,.slice a1 ss.length c1,.slice a2 ms.length c2] 58 (0,0))):=hid (by rw[rV];exact aW wl _ rfl);have A7:wl.heap.size≠b:=Tz
     obtain⟨u0,u1,u2⟩:=BU oU.out;obtain⟨w6,qE⟩:=bB (w5.alloc (.cells #[.iface 9 (.string nm),.iface 3 (.int .i64 (ss.length:Int))] 20));have qp:Hid (Below w5.heap.size w5 w6):=hid (by rw[qE];exact aF.alloc aH _);have HF6:Hid (kN (w5.heap.size<=·) w6 (.slice (some ⟨w5.heap.size,0,none⟩) 2 2) [.str nm,.num ss.length]):=hid (by rw[qE];exact BW w5 (.str nm) (.num ss.length));have Aq:=hid rV;have Ar:=hid qE;have hbz5:b<w5.heap.size:=by have:=iD.out.size;omega
     clear rV qE;go_upto_region 16 with fail;rw[<-Aq.out];clear y0 y1 y2;go_upto_region 17 with fail;rw[<-Ar.out];clear u0 u1 u2;obtain⟨u0,u1,u2⟩:=BU (show w6.heap[wl.heap.size]?=_ from (qp.out.block _ (aC oU.out)).trans oU.out);go_upto_region 18 with fail;clear u0 u1 u2;go_loopw [10,72] (fun s i wr=>∃(j:Nat) (xs:List Arg) (av:Option Addr) (cv:Nat),j<=ss.length/\i=.int .i64 (j:Int)/\s=.slice av xs.length cv/\Hid (xs=.str nm::.num ss.length::(ss.take j).map Arg.str)/\Hid (kN (w5.heap.size<=·) wr (.slice av xs.length cv) xs)/\Hid (BL w5 wr)) (fun _ i _=>ss.length-(intOf i).toNat);case atStart=>exact⟨0,[.str nm,.num ss.length],_,_,aB,rfl,rfl,hid bp,HF6,qp⟩
     case round=>
      obtain⟨j,xs,av,cv,hj,rfl,rfl,HXs,HFs,tJ⟩:=hrel;obtain⟨wi,rfl⟩:=bB (wr:World);have UR:Hid (Below b w1 wi):=hid (iD.out.trans (tJ.out.mono aB));have hxl:xs.length<=1000:=by rw[HXs.out];simp;omega
      by_cases hjl:j<ss.length
      ·have hj0:(0:Int)<=(j:Int):=by omega
       have hj1:(j:Int)<(ss.length:Int):=aB
       obtain⟨xw,hx, -,hx2⟩:=(HSs.out wi UR.out).at hjl;subst hx2
       have Ap:Hid (xs++[.str ss[j]]=.str nm::.num ss.length::(ss.take (j+1)).map Arg.str):=hid (by
        rw[HXs.out,CY hjl,List.map_append];rfl)
       generalize ss[j]=sw at*;have UQ:Hid (BL wi (wi.alloc (.cells #[.iface 9 (.string sw)] 20))):=hid (aF.alloc aH _);have HvA:=hid (rH wi [.str sw] bp 20);simp only[List.map_cons,List.map_nil,l5,List.length_cons,List.length_nil] at HvA;go_wp2_with (at_builtin;go_must (refine vN rfl _ _ rfl Tryz.ac3 rfl HFs.out UQ.out rfl HvA.out lC ?_));intro v2 w3 yR ht3;obtain⟨z2,hz2⟩:=bB (xs++[.str sw]);rw[<-hz2] at yR Ap;have EU:Hid (kN (w5.heap.size<=·) w3 v2 z2):=hid (sO.mono yR (fun b _ hb=>gM tJ.out.size b hb));have um:Hid (BL w5 w3):=hid ((cG tJ.out UQ.out).trans (ht3.below (by have:=UQ.out.size;have:=tJ.out.size;omega) (fun b hb=>HFs.out.2 b hb.symm)));obtain⟨a3,c3,rfl, -, -, -⟩:=(kN.sl EU.out).form;clear yR ht3 hz2 hx;go_wp2;go_roundw;case rel=>exact⟨j+1,z2,a3,c3,aB,by go_num,rfl,Ap,EU,um⟩
       simp[intOf];omega
      ·have HXE:Hid (xs=.str nm::.num ss.length::ss.map Arg.str):=hid (by rw[HXs.out,zTl aB])
       have qC:Hid (CP 114 #[.string {data:=#[108,105,102,101]},.slice av xs.length cv] wi (Fa M0 wi)):=hid (by
        have rQ:ah.bK argN xs=(1+nm.size)+((1+ah.dx ss.length)+ah.bK (fun s:ByteArray=>1+s.size) ss):=by rw[HXE.out,eB,eB,Fe];rfl
        have h4:({data:=#[108,105,102,101]}:ByteArray).size=4:=rfl
        have hM:=HM0.out
        have hNb:=HN.out.2
        refine(yN _ xs (by
         rw[HXE.out]
         intro a ha
         rcases kD.1 ha with rfl|ha
         ·trivial
         ·rcases kD.1 ha with rfl|ha
          ·simp only[gV];omega
          ·obtain⟨y, -,rfl⟩:=List.mem_map.1 ha;trivial) aB _ _ wi (kN.sl HFs.out) (Ac.out wi UR.out)).mono ?_
        rintro e w' ⟨s,rfl,hs,hb'⟩
        exact⟨s,rfl,by rw[hs];omega,hb'⟩)
       have HDi:Hid (gF b b N0 wi):=hid (UO.out.below tJ.out);have D3:Hid (wi.heap[wl.heap.size]?=some (.cells #[.string nm,.slice a1 ss.length c1,.slice a2 ms.length c2] 58 (0,0))):=hid ((tJ.out.block _ (aC oU.out)).trans oU.out);go_wp2_with fail;refine qC.out.mono ?_;rintro e w7 ⟨s,rfl,hs,hb⟩;have HD7:=hid (HDi.out.below hb);have jT:Hid (Below b w1 w7):=hid (UR.out.trans (hb.mono (by have:=UR.out.size;omega)));have EP:Hid (w7.heap[wl.heap.size]?=some (.cells #[.string nm,.slice a1 ss.length c1,.slice a2 ms.length c2] 58 (0,0))):=hid ((hb.block _ (aC D3.out)).trans D3.out);go_wp2_with fail;refine(dH b b N0 s w7 HD7.out Ee (by have:=jT.out.size;omega)).mono ?_;rintro e w8 ⟨rfl,hd,lZ,hk8⟩;have oW:Hid (Below b w1 w8):=hid (jT.out.trans lZ);have XG:Hid (gF b b (N0+M0+ah.bK mw (ms.take 0)) w8):=hid Ze;have EQ:Hid (w8.heap[wl.heap.size]?=some (.cells #[.string nm,.slice a1 ss.length c1,.slice a2 ms.length c2] 58 (0,0))):=hid (hk8 _ _ EP.out A7 (fun cs fr e=>by simp at e));clear hs hb hd lZ hk8 qC;obtain⟨u0,u1,u2⟩:=BU EQ.out;go_upto_region 24 with fail;clear u0 u1 u2;go_loopw [88] (fun i wr=>∃j:Nat,j<=ms.length/\i=.int .i64 (j:Int)/\Hid (gF b b (N0+M0+ah.bK mw (ms.take j)) wr)/\Hid (Below b w1 wr)) (fun i _=>ms.length-(intOf i).toNat);case atStart=>exact⟨0,aB,rfl,XG,oW⟩
       case round=>
        obtain⟨m,hm,rfl,HDm,HBm⟩:=hrel;obtain⟨wm,rfl⟩:=bB (wr:World);by_cases hml:m<ms.length
        ·have hm0:(0:Int)<=(m:Int):=by omega
         have hm1:(m:Int)<(ms.length:Int):=aB
         obtain⟨-, -,y0,y1⟩:=(HMs.out wm HBm.out).at hml;have hmb:=HQ5.out _ (gm hml);have hsum:=lu mw ms hml;have hle:=iJ mw ms (m+1);obtain⟨N2,hN2⟩:=bB (N0+M0+ah.bK mw (ms.take m));have HN2:Hid (N0+M0+ah.bK mw (ms.take (m+1))=N2+mw ms[m]/\N2+mw ms[m]<=8192):=hid Ee;rw[<-hN2] at HDm;clear hsum hle hN2;generalize ms[m]=mv at*;obtain⟨m1,m2⟩:=mv;simp only at y0 y1
         have hmr:0<=m1/\m1<=100/\0<=m2/\m2<=100:=by
          unfold ah.xS at hmb;obtain⟨g1,g2⟩:=Bool.and_eq_true_iff.1 hmb;have g3:=gJ g1;have g4:=gJ g2;simp only at g3 g4;omega
         have hd1:=cN m1;have hd2:=cN m2;obtain⟨w9,hw9⟩:=bB (wm.alloc (.cells #[.int .i64 m1,.int .i64 m2] 59));have hal:BL wm w9:=by rw[hw9];exact aF.alloc aH _
         have mR:Hid (Below b w1 w9):=hid (HBm.out.trans (hal.mono (by have:=HBm.out.size;omega)));have HD9:Hid (gF b b N2 w9):=hid (HDm.out.below hal);have u0:w9.cell? ⟨wm.heap.size,0,none⟩=some (.int .i64 m1):=by rw[hw9];simp
         have u1:w9.cell? ⟨wm.heap.size,1,none⟩=some (.int .i64 m2):=by rw[hw9];simp
         have hmd:=fG {data:=#[109,111,118,101]} [.num m1,.num m2] (by intro a ha;simp only[kD,GI,or_false] at ha;rcases ha with rfl|rfl<;>(simp only[gV];omega)) (by simp only[eB,jV,argN];have:({data:=#[109,111,118,101]}:ByteArray).size=4:=rfl;omega) bp w9 20 (Ac.out w9 mR.out) w9 aF (mw (m1,m2)) (by simp only[eB,jV,argN,mw];have:({data:=#[109,111,118,101]}:ByteArray).size=4:=rfl;omega);simp only[List.map_cons,List.map_nil,l5,List.length_cons,List.length_nil] at hmd;have qC:=hid hmd;have HW9:=hid hw9;clear hmd hmb hmr hd1 hd2 hal hw9;go_upto_region 26 with fail;rw[<-HW9.out];clear y0 y1;go_wp2_with fail;refine qC.out.mono ?_;rintro e lX ⟨s,rfl,hs,hb⟩;have QJ:=hid (HD9.out.below hb);have ku:Hid (Below b w1 lX):=hid (mR.out.trans (hb.mono Oy));go_wp2_with fail;refine(dH b b N2 s lX QJ.out (by have:=HN2.out;omega) (by have:=ku.out.size;omega)).mono ?_;rintro e AY ⟨rfl,hd,Mg, -⟩;have Ir:Hid (Below b w1 AY):=hid (ku.out.trans Mg);have HD11:Hid (gF b b (N0+M0+ah.bK mw (ms.take (m+1))) AY):=hid (by rw[HN2.out.1,<-hs];exact hd);clear hs hb hd Mg u0 u1 qC;go_wp2;go_roundw;case rel=>exact⟨m+1,aB,by go_num,HD11,Ir⟩
         simp[intOf];omega
        ·have hmm:m=ms.length:=by omega
         have HDe:Hid (gF b b (P0+ah.bK ah.gQ x.aA+ah.bK ah.jq (x.aP.take (k+1))) wm):=hid (by
          have:=HDm.out
          rw[hmm,List.take_length] at this
          rw[HN.out.1];exact this)
         go_wp2;go_roundw;case rel=>exact⟨k+1,aB,by go_num,HDe,HBm⟩
         simp[intOf];omega
    ·have Tc:Hid (gF b b (P0+ah.bK ah.gQ x.aA+ah.bK ah.jq x.aP+ah.bK ah.kM (x.aR.take 0)) wl):=hid (by
      have:=HD.out
      rw[show k=x.aP.length by omega,List.take_length] at this
      simpa [ah.bK] using this)
     obtain⟨⟨z0,z1,z2,z3⟩, -⟩:=bC (HX.out wl HB.out);have qp:=hid HB.out;clear HD;go_upto_region 30 with fail;clear z0 z1 z2 z3;go_loopw [106] (fun i wr=>∃k:Nat,k<=x.aR.length/\i=.int .i64 (k:Int)/\Hid (gF b b (P0+ah.bK ah.gQ x.aA+ah.bK ah.jq x.aP+ah.bK ah.kM (x.aR.take k)) wr)/\Hid (Below b w1 wr)) (fun i _=>x.aR.length-(intOf i).toNat);case atStart=>exact⟨0,aB,rfl,Tc,qp⟩
     case round=>
      obtain⟨k,hk,rfl,HD,HB⟩:=hrel;obtain⟨wq,rfl⟩:=bB (wr:World);by_cases hlt:k<x.aR.length
      ·have hk0:(0:Int)<=(k:Int):=by omega
       have hk1:(k:Int)<(x.aR.length:Int):=aB
       obtain⟨-, -,y0,y1,y2,y3,y4⟩:=uY.at (KM.out wq HB.out) hlt;obtain⟨q1,q2,q3,q4, -,q6⟩:=vH (HP7.out _ (gm hlt));have q1:=dS q1;have q2:=dS q2;have q3:=lP (sQ q3);have q4:=lP (sQ q4);have q6:=gJ q6;have hsum:=lu ah.kM x.aR hlt;have hle:=iJ ah.kM x.aR (k+1);obtain⟨N0,XF⟩:=bB (P0+ah.bK ah.gQ x.aA+ah.bK ah.jq x.aP+ah.bK ah.kM (x.aR.take k));have HN:Hid (P0+ah.bK ah.gQ x.aA+ah.bK ah.jq x.aP+ah.bK ah.kM (x.aR.take (k+1))=N0+ah.kM x.aR[k]/\N0+ah.kM x.aR[k]<=8192):=hid Ow;rw[<-XF] at HD;clear hsum hle XF;generalize x.aR[k]=rd at*;obtain⟨nm,kn,ra,rb,rn⟩:=rd;simp only at y0 y1 y2 y3 y4 q1 q2 q3 q4 q6;obtain⟨M0,QI⟩:=bB (ah.kM ⟨nm,kn,ra,rb,rn⟩);rw[<-QI] at HN;have hMe:M0=4+(1+nm.size)+(1+kn.size)+(1+ah.dR ra)+(1+ah.dR rb)+(1+ah.dx rn)+1:=QI;obtain⟨w5,rV⟩:=bB (wq.alloc (.cells #[.string nm,.string kn,.string ra,.string rb,.int .i64 rn] 61));have iD:Hid (Below b w1 w5):=hid OE;have UO:Hid (gF b b N0 w5):=hid Y5;have oU:Hid (w5.heap[wq.heap.size]?=some (.cells #[.string nm,.string kn,.string ra,.string rb,.int .i64 rn] 61 (0,0))):=hid (by rw[rV];exact aW wq _ rfl);have hbz5:b<w5.heap.size:=by have:=iD.out.size;omega
       obtain⟨⟨u0,u1,u2,u3,u4⟩, -⟩:=mE oU.out;have hna:=kr ra;have hnb:=kr rb;have hdn:=cN rn;have qC:=hid (fun(W:World) (hb:BL w5 W)=>fG {data:=#[114,117,108,101]} [.str nm,.str kn,.str (iB ra),.str (iB rb),.num rn] (by intro a ha;simp only[kD,GI,or_false] at ha;rcases ha with rfl|rfl|rfl|rfl|rfl<;>first|trivial|(simp only[gV];omega)) abF bp W 20 (Ac.out W (iD.out.trans (hb.mono aB))) W aF M0 abF);simp only[List.map_cons,List.map_nil,l5,List.length_cons,List.length_nil] at qC;have HNa:=hid (fun W=>uo ra W);have HNb:=hid (fun W=>uo rb W);generalize iB ra=na at*;generalize iB rb=nb at*;have Aq:=hid rV;clear hna hnb hdn hMe QI rV q1 q2 q3 q4 q6;go_upto_region 32 with fail;rw[<-Aq.out];clear y0 y1 y2 y3 y4;have wR:=eO w5 ⟨wq.heap.size,0,none⟩ (.string nm) fun xh=>(xh.2.cell (p:=⟨wq.heap.size,0,none⟩) (aC oU.out)).trans u0;have hq1:=eO w5 ⟨wq.heap.size,1,none⟩ (.string kn) fun xh=>(xh.2.cell (p:=⟨wq.heap.size,1,none⟩) (aC oU.out)).trans u1;have Ta:=eO w5 ⟨wq.heap.size,2,none⟩ (.string ra) fun xh=>(xh.2.cell (p:=⟨wq.heap.size,2,none⟩) (aC oU.out)).trans u2;have hq3:=eO w5 ⟨wq.heap.size,3,none⟩ (.string rb) fun xh=>(xh.2.cell (p:=⟨wq.heap.size,3,none⟩) (aC oU.out)).trans u3;have WB:=eO w5 ⟨wq.heap.size,4,none⟩ (.int .i64 rn) fun xh=>(xh.2.cell (p:=⟨wq.heap.size,4,none⟩) (aC oU.out)).trans u4;refine aZ 17 (.quiet 0 (.quiet 1 (.quiet 2 (.quiet 3 (.quiet 4 (.quiet 5 (.quiet 6 (.quiet 7 (.quiet 10 (.quiet 11 (.quiet 14 (.quiet 15 (.quiet 16 (.one 8 (.quiet 9 (.one 12 (.quiet 13 .done))))))))))))))))) (BL w5) oL (by kernel_rfl) (aI aF 1) ?_;have yK:=hid (aI (Below.refl w5.heap.size w5) 1);generalize w5.drewN 1=w6 at*;clear u0 u1 u2 u3 u4
       iterate 13 refine fE ?_
       refine aT rfl ?_;go_wp2_with fail;refine(HNa.out w6).mono ?_;rintro e w7 ⟨rfl,oV⟩;have jT:=hid (cG yK.out oV);clear oV;go_wp2_with fail;refine aJ (BL w5) (fun _ h=>h) jT.out ?_;refine fE ?_;refine aT rfl ?_;go_wp2_with fail;refine(HNb.out w7).mono ?_;rintro e w8 ⟨rfl,lZ⟩;have oW:=aU jT lZ;clear lZ;go_wp2_with fail;refine aJ (BL w5) (fun _ h=>h) oW.out ?_;refine fE ?_;have HLn8:=hid (qC.out w8 oW.out);have XG:Hid (gF b b N0 w8):=hid (UO.out.below oW.out);have ac4:Hid (Below b w1 w8):=hid (iD.out.trans (oW.out.mono aB));refine bh ?_;try simp only[jZ,jP]
       clear wR hq1 Ta hq3 WB;go_wp2_with fail;refine HLn8.out.mono ?_;rintro e w9 ⟨s,rfl,hs,hb⟩;have HD9:=hid (XG.out.below hb);have mR:Hid (Below b w1 w9):=hid (ac4.out.trans (hb.mono (by have:=ac4.out.size;omega)));go_wp2_with fail;refine(dH b b N0 s w9 HD9.out Ee Oy).mono ?_;rintro e lX ⟨rfl,hd,sR, -⟩;have ku:Hid (Below b w1 lX):=hid (mR.out.trans sR);have QJ:Hid (gF b b (P0+ah.bK ah.gQ x.aA+ah.bK ah.jq x.aP+ah.bK ah.kM (x.aR.take (k+1))) lX):=hid (by rw[HN.out.1,<-hs];exact hd);clear hs hb hd sR;go_wp2;go_roundw;case rel=>exact⟨k+1,aB,by go_num,QJ,ku⟩
       simp[intOf];omega
      ·have HDt:Hid (gF b b T wq):=hid (by
        have:=HD.out
        rw[show k=x.aR.length by omega,List.take_length] at this
        rw[HT.out.1];exact this)
       have vM:=hid (yM b b T wq HDt.out Tz);go_wp2_with fail;refine vM.out.mono ?_;rintro e w3 ⟨s,rfl,hs,hb3⟩;have HS:=hid hs;have Iu:=hid (HE.out w3 (HB.out.trans hb3));clear hs hb3;go_wp2;go_ret;exact⟨s,rfl,HS.out,Iu.out⟩
theorem aar{a b:ByteArray}(h:¬(a=ah.nil/\b=ah.nil)):(a++b).toList.isEmpty=false:=by
 refine pZ fun e=>h ?_;have hs:(a++b).size=0:=tL
 rw[ByteArray.size_append] at hs;have ha:a.size=0:=aB
 have hb:b.size=0:=aB
 exact⟨ByteArray.ext (Array.eq_empty_of_size_eq_zero ha),ByteArray.ext (Array.eq_empty_of_size_eq_zero hb)⟩
theorem XH{p:Prop}(h:p:=by
  rintro e w4 ⟨rfl,hb⟩
  have gK:=aU cE hb
  have lW:=aU jB hb
  clear hb y0 y1 y2 y3 y4
  obtain⟨⟨y0,y1,y2,y3,y4⟩, -⟩:=mE (HK.out w4 lW.out)
  go_wp2_with fail
  refine(H6.out _).mono ?_
  rintro e w' ⟨rfl,rfl⟩
  go_wp2
  go_ret
  exact⟨rfl,gK.out⟩):p:=h
theorem Iw(r:ah.tQ)(hr:ah.si r=true)(w:World):
  Calls Tryz.prog 73 #[.agg #[.string r.name,.string r.kind,.string r.a,.string r.b,.int .i64 r.n]] w fun e w'=>e=.returned (.bool true)/\BL w w':=by
 obtain⟨q1,q2,q3,q4,q5,q6⟩:=vH hr;obtain⟨nm,kn,ra,rb,rn⟩:=r;simp only at q1 q2 q3 q4 q5 q6 ⊢;have H1:=hid (fun W=>cO nm W);have H2:=hid (fun W=>cO kn W);have H6:=hid (fun W=>fL rn (-1048576) 1048576 W);rw[q1] at H1;rw[q2] at H2;rw[q6] at H6;have hcat:=aar q5;have hra:=sQ q3;have hrb:=sQ q4;obtain⟨w1,hw1⟩:=bB (w.alloc (.cells #[.string nm,.string kn,.string ra,.string rb,.int .i64 rn] 61));have bT:Hid (Below w.heap.size w w1):=hid Ab;have HK:Hid (∀W,BL w1 W->W.heap[w.heap.size]?=some (.cells #[.string nm,.string kn,.string ra,.string rb,.int .i64 rn] 61 (0,0))):=hid (fun W hW=>(hW.block _ jH).trans wI);have HW:=hid hw1;clear hw1 hr q1 q2 q6;obtain⟨⟨y0,y1,y2,y3,y4⟩, -⟩:=mE (HK.out w1 aF);have vR:Hid (BL w1 w1):=hid aF;by_cases ha:ra=ah.nil
 ·have hb:¬rb=ah.nil:=fun e=>q5 ⟨ha,e⟩
  subst ha;have hbe:=pZ hb;have Ff:=hid (fun W=>cO rb W);rw[q4.resolve_left hb] at Ff;clear q3 q4 q5;unfold ah.nil at*;go_enter Tryz.func73,Tryz.ntmps73;go_upto_region 1 with fail;rw[<-HW.out];go_wp2_with fail;refine(H1.out _).mono ?_;rintro e w2 ⟨rfl,hb⟩;have bX:=aU bT hb;have iE:=aU vR hb;clear hb y0 y1 y2 y3 y4;obtain⟨⟨y0,y1,y2,y3,y4⟩, -⟩:=mE (HK.out w2 iE.out);go_wp2_with fail;refine(H2.out _).mono ?_;rintro e w3 ⟨rfl,hb⟩;have cE:=aU bX hb;have jB:=aU iE hb;clear hb y0 y1 y2 y3 y4;obtain⟨⟨y0,y1,y2,y3,y4⟩, -⟩:=mE (HK.out w3 jB.out);go_wp2_with fail;refine(Ff.out _).mono ?_;exact XH
 ·by_cases hb:rb=ah.nil
  ·have hae:=pZ ha
   have HA:=hid (fun W=>cO ra W);rw[q3.resolve_left ha] at HA;subst hb;clear q3 q4 q5;unfold ah.nil at*;go_enter Tryz.func73,Tryz.ntmps73;go_upto_region 1 with fail;rw[<-HW.out];go_wp2_with fail;refine(H1.out _).mono ?_;rintro e w2 ⟨rfl,hb⟩;have bX:=aU bT hb;have iE:=aU vR hb;clear hb y0 y1 y2 y3 y4;obtain⟨⟨y0,y1,y2,y3,y4⟩, -⟩:=mE (HK.out w2 iE.out);go_wp2_with fail;refine(H2.out _).mono ?_;rintro e w3 ⟨rfl,hb⟩;have cE:=aU bX hb;have jB:=aU iE hb;clear hb y0 y1 y2 y3 y4;obtain⟨⟨y0,y1,y2,y3,y4⟩, -⟩:=mE (HK.out w3 jB.out);go_wp2_with fail;refine(HA.out _).mono ?_;exact XH
  ·have hae:=pZ ha
   have HA:=hid (fun W=>cO ra W);rw[q3.resolve_left ha] at HA;have hbe:=pZ hb;have Ff:=hid (fun W=>cO rb W);rw[q4.resolve_left hb] at Ff;clear q3 q4 q5;go_enter Tryz.func73,Tryz.ntmps73;go_upto_region 1 with fail;rw[<-HW.out];go_wp2_with fail;refine(H1.out _).mono ?_;rintro e w2 ⟨rfl,hb⟩;have bX:=aU bT hb;have iE:=aU vR hb;clear hb y0 y1 y2 y3 y4;obtain⟨⟨y0,y1,y2,y3,y4⟩, -⟩:=mE (HK.out w2 iE.out);go_wp2_with fail;refine(H2.out _).mono ?_;rintro e w3 ⟨rfl,hb⟩;have cE:=aU bX hb;have jB:=aU iE hb;clear hb y0 y1 y2 y3 y4;obtain⟨⟨y0,y1,y2,y3,y4⟩, -⟩:=mE (HK.out w3 jB.out);go_wp2_with fail;refine(HA.out _).mono ?_;rintro e w4 ⟨rfl,hb⟩;have gK:=aU cE hb;have lW:=aU jB hb;clear hb y0 y1 y2 y3 y4;obtain⟨⟨y0,y1,y2,y3,y4⟩, -⟩:=mE (HK.out w4 lW.out);go_wp2_with fail;refine(Ff.out _).mono ?_;rintro e w5 ⟨rfl,hb⟩;have iD:=aU gK hb;have jI:=aU lW hb;clear hb y0 y1 y2 y3 y4;obtain⟨⟨y0,y1,y2,y3,y4⟩, -⟩:=mE (HK.out w5 jI.out);go_wp2_with fail;refine(H6.out _).mono ?_;rintro e w' ⟨rfl,rfl⟩;go_wp2;go_ret;exact⟨rfl,iD.out⟩
theorem QK{p:Prop}(h:p:=by
  have:ks.all (fun _=>true)=true:=bp
  rwa [this] at H):p:=h
theorem Mh(ks:List ah.dZ)(hk:∀k∈ks,ah.oM k=true)(v:Value)(S:Nat->Prop)(w:World)(hv:gU S w v ks):
  Calls Tryz.prog 68 #[v,.func (.func 69) #[] #[]] w fun e w'=>e=.returned (.bool true)/\BL w w':=by
 have H:=Z9 cC ks (fun _=>true) v S w hv 69 #[] (bH Tryz.func69 (by kernel_rfl) rfl) (fun X _ j hj us _ hu=>by
  obtain⟨uf,rfl,h1⟩:=hu;exact Ih ks[j] (hk _ (gm hj)) uf S X h1)
 exact QK
theorem Mi(ks:List ah.DV)(hk:∀k∈ks,ah.r9 k=true)(v:Value)(S:Nat->Prop)(w:World)(hv:sA S w v ks):
  Calls Tryz.prog 70 #[v,.func (.func 71) #[] #[]] w fun e w'=>e=.returned (.bool true)/\BL w w':=by
 have H:=aac cW ks (fun _=>true) v S w hv 71 #[] (bH Tryz.func71 (by kernel_rfl) rfl) (fun X _ j hj us _ hu=>by
  obtain⟨u1,u2,rfl,h1,h2⟩:=hu;exact Ii ks[j] (hk _ (gm hj)) u1 u2 S X h1 h2)
 exact QK
theorem Mj(ks:List ah.tQ)(hk:∀k∈ks,ah.si k=true)(v:Value)(S:Nat->Prop)(w:World)(hv:uY S w v ks):
  Calls Tryz.prog 72 #[v,.func (.func 73) #[] #[]] w fun e w'=>e=.returned (.bool true)/\BL w w':=by
 have H:=aad fe ks (fun _=>true) v S w hv 73 #[] (bH Tryz.func73 (by kernel_rfl) rfl) (fun X _ j hj us _ hu=>by
  have hu:us=[.string ks[j].name,.string ks[j].kind,.string ks[j].a,.string ks[j].b,.int .i64 ks[j].n]:=hu;subst hu;exact Iw ks[j] (hk _ (gm hj)) X)
 exact QK
theorem wV(x:ah.cA)(hx:ah.nX x=0)(v:Value)(S:Nat->Prop)(w:World)(hv:d9 S w v x)(D1:LaidW w):
  Calls Tryz.prog 41 #[v] w fun e w'=>e=.returned (.int .i64 0)/\BL w w':=by
 have hvb:ah.pG x=true/\ah.Eu x<=8192:=by
  unfold ah.nX at hx;split at hx
  ·rename_i h
   refine⟨h,?_⟩;split at hx
   ·omega
   ·omega
  ·omega
 obtain⟨p1,p2,p3,p4,p5,p6,p7⟩:=sP hvb.1;have hv0:=hv;obtain⟨ak,ck,al,cl,ar,cr,rfl,hk,hl,hr,hsk,hsl,hsr⟩:=hv.form;obtain⟨w1,hw1⟩:=bB (dP w x.aL (.slice ak x.aA.length ck) (.slice al x.aP.length cl) (.slice ar x.aR.length cr));have bT:=wS hw1;have HX:=Hl hw1;have H1:=hid (fun W=>fL x.aL 0 1048576 W);rw[p1] at H1;have QG:=hid (fun(W:World) (hW:BL w W)=>Mh x.aA p5 _ S W (hk.keep (aD.below hW)));have Mf:=hid (fun(W:World) (hW:BL w W)=>Mi x.aP p6 _ S W (dQ.keep cW hl (aD.below hW)));have KM:=hid (fun(W:World) (hW:BL w W)=>Mj x.aR p7 _ S W (dQ.keep fe hr (aD.below hW)));have D4:=hid (fun(W:World) (hW:BL w W)=>Io x hvb.1 hvb.2 _ S W (hv0.keep (aD.below hW)) (D1.next hW));have HT:=hid hvb.2;unfold dP at hw1;have HW:=hid hw1;clear hx hv D1 hk hl hr p1 p5 p6 p7 hw1 hv0 hvb;have h2:¬(6:Int)<x.aA.length:=aB
 have h3:¬(6:Int)<x.aP.length:=aB
 have h4:¬(16:Int)<x.aR.length:=aB
 generalize ah.Eu x=T at*;generalize x.aA.length=nk at*;generalize x.aP.length=nl at*;generalize x.aR.length=nr at*;generalize x.aL=ver at*;obtain⟨⟨y0,y1,y2,y3⟩, -⟩:=bC (HX.out w1 aF);go_enter Tryz.func41,Tryz.ntmps41;go_upto_region 1 with fail;rw[<-HW.out];go_wp2_with fail;refine(H1.out _).mono ?_;rintro e w' ⟨rfl,rfl⟩;go_wp2_with fail;refine(QG.out _ bT.out).mono ?_;rintro e w2 ⟨rfl,hb⟩;have iE:=hid hb;have bX:=aU bT hb;clear hb y0 y1 y2 y3;obtain⟨⟨y0,y1,y2,y3⟩, -⟩:=bC (HX.out w2 iE.out);go_wp2_with fail;refine(Mf.out _ bX.out).mono ?_;rintro e w3 ⟨rfl,hb⟩;have jB:=aU iE hb;have cE:=aU bX hb;clear hb y0 y1 y2 y3;obtain⟨⟨y0,y1,y2,y3⟩, -⟩:=bC (HX.out w3 jB.out);go_wp2_with fail;refine(KM.out _ cE.out).mono ?_;rintro e w4 ⟨rfl,hb⟩;have lW:=aU jB hb;have gK:=aU cE hb;clear hb y0 y1 y2 y3;obtain⟨⟨y0,y1,y2,y3⟩, -⟩:=bC (HX.out w4 lW.out);go_wp2_with fail;refine(D4.out _ gK.out).mono ?_;rintro e w5 ⟨s,rfl,hs,hb⟩;have iD:=aU gK hb;have h8:¬(8192:Int)<s.size:=Ow
 clear hb hs y0 y1 y2 y3;go_wp2;go_ret;exact⟨rfl,iD.out⟩
theorem Fg{p:Prop}(h:p:=by
  go_wp2
  go_ret
  exact⟨abP,aF.alloc aH _⟩):p:=h
theorem Iy(nm s:ByteArray)(lo hi:Int)(uf:Value)(b:Nat)(w:World)(hb:w.cell? ⟨b,0,none⟩=some (.string s)):
  Calls Tryz.prog 119 #[.agg #[.string nm,.int .i64 lo,.int .i64 hi,uf],.pointer (some ⟨b,0,none⟩)] w fun e w'=>e=.returned (.bool (decide (nm=s)))/\BL w w':=by
 have hz:b<w.heap.size:=Ae w _ hb;have HD:Hid ((nm.toList==s.toList)=decide (nm=s)):=hid GV;go_enter Tryz.func119,Tryz.ntmps119;exact Fg
theorem Fh(f:ah.cD)(s:ByteArray)(uw ug:Value)(b:Nat)(w:World)(hb:w.cell? ⟨b,0,none⟩=some (.string s)):
  Calls Tryz.prog 78 #[.agg (cF f uw ug).toArray,.pointer (some ⟨b,0,none⟩)] w fun e w'=>e=.returned (.bool (decide (f.name=s)))/\BL w w':=by
 have hz:b<w.heap.size:=Ae w _ hb;have HD:Hid ((f.name.toList==s.toList)=decide (f.name=s)):=hid GV;obtain⟨nm,o,up,k,lo,hi,ws,gs⟩:=f;simp only[cF] at HD ⊢;go_enter Tryz.func78,Tryz.ntmps78;exact Fg
theorem XI{p:Prop}(h:p:=by
  go_upto_region 1 with fail
  rw[<-HW.out]
  go_wp2_with fail
  refine HK.out.mono ?_
  rintro e w' ⟨rfl,hb⟩
  have HB:=aU bT hb
  clear hb
  go_wp2
  go_ret
  exact⟨rfl,HB.out⟩):p:=h
theorem nL(x:ah.cA)(s:ByteArray)(v:Value)(S:Nat->Prop)(w:World)(hv:d9 S w v x):
  Calls Tryz.prog 76 #[v,.string s] w fun e w'=>e=.returned (.int .i64 (ah.cL x s))/\BL w w':=by
 obtain⟨ak,ck,al,cl,ar,cr,rfl,hk,hl,hr,hsk,hsl,hsr⟩:=hv.form;obtain⟨w1,hw1⟩:=bB ((dP w x.aL (.slice ak x.aA.length ck) (.slice al x.aP.length cl) (.slice ar x.aR.length cr)).alloc (.cells #[.string s] 9));have bT:Hid (Below w.heap.size w w1):=hid Og;have HX:Hid (w1.heap[w.heap.size]?=some (.cells #[.int .i64 x.aL,.slice ak x.aA.length ck,.slice al x.aP.length cl,.slice ar x.aR.length cr] 27 (0,0))):=hid Oj;have HC:Hid (w1.cell? ⟨w.heap.size+1,0,none⟩=some (.string s)):=hid (by rw[hw1];unfold dP;simp);have hz:w.heap.size+1<w1.heap.size:=JZ
 have HK:=hid (Qo cC x.aA (fun k:ah.dZ=>decide (k.name=s)) _ S w1 (hk.keep (aD.below bT.out)) 119 #[.pointer (some ⟨w.heap.size+1,0,none⟩)] (bH Tryz.func119 (by kernel_rfl) rfl) (fun X hX j hj us _ hu=>by
  obtain⟨uf,rfl,h1⟩:=hu;exact Iy _ s _ _ uf _ X ((hX.cell (p:=⟨w.heap.size+1,0,none⟩) hz).trans HC.out)))
 have HI:Hid (ah.fK (fun k:ah.dZ=>decide (k.name=s)) x.aA 0=ah.cL x s):=hid rfl;rw[HI.out] at HK;generalize ah.cL x s=z at*;unfold dP at hw1;have HW:=hid hw1;clear hv hk hl hr hw1;obtain⟨⟨y0,y1,y2,y3⟩, -⟩:=bC HX.out;go_enter Tryz.func76,Tryz.ntmps76;exact XI
theorem lQ(k:ah.dZ)(s:ByteArray)(uf:Value)(S:Nat->Prop)(w:World)(hv:dh S w uf k.aG):
  Calls Tryz.prog 47 #[.agg (kH k uf).toArray,.string s] w fun e w'=>e=.returned (.int .i64 (ah.bJ k s))/\BL w w':=by
 obtain⟨af,cf,rfl,hsf, -, -⟩:=hv.form;obtain⟨w1,hw1⟩:=bB ((w.alloc (.cells (kH k (.slice af k.aG.length cf)).toArray 49)).alloc (.cells #[.string s] 9));have bT:Hid (Below w.heap.size w w1):=hid En;have HX:Hid (w1.heap[w.heap.size]?=some (.cells (kH k (.slice af k.aG.length cf)).toArray 49 (0,0))):=hid Y7;have HC:Hid (w1.cell? ⟨w.heap.size+1,0,none⟩=some (.string s)):=hid jH;have hz:w.heap.size+1<w1.heap.size:=jH
 have HK:=hid (Qn bD k.aG (fun f:ah.cD=>decide (f.name=s)) _ S w1 (hv.keep (aD.below bT.out)) 78 #[.pointer (some ⟨w.heap.size+1,0,none⟩)] (bH Tryz.func78 (by kernel_rfl) rfl) (fun X hX j hj us _ hu=>by
  obtain⟨uw,ug,rfl,h1,h2⟩:=hu;exact Fh k.aG[j] s uw ug _ X ((hX.cell (p:=⟨w.heap.size+1,0,none⟩) hz).trans HC.out)))
 have HI:Hid (ah.fK (fun f:ah.cD=>decide (f.name=s)) k.aG 0=ah.bJ k s):=hid rfl;rw[HI.out] at HK;generalize ah.bJ k s=z at*;clear hv;obtain⟨nm,lo,hi,fs⟩:=k;simp only[kH] at hw1 HX HK ⊢;generalize fs.length=n at*;have HW:=hid hw1;clear hw1;obtain⟨⟨y0,y1,y2,y3⟩, -⟩:=bC HX.out;go_enter Tryz.func47,Tryz.ntmps47;exact XI
def jC(x:ah.cA)(i j:Int):ah.cD:=if ah.hasB x i j=true then ah.fd x i j else ah.uS
def AtP(x:ah.cA)(i j:Int)(S:Nat->Prop)(w:World)(e:Ending)(w':World):Prop:=
 ∃a1 n1 c1 a2 n2 c2,e=.returned (.tuple #[.agg (cF (jC x i j) (.slice a1 n1 c1) (.slice a2 n2 c2)).toArray,.bool (ah.hasB x i j)])/\
  (∀W,BL w W->fP S W (.slice a1 n1 c1) (jC x i j).cB/\bq S W (.slice a2 n2 c2) (jC x i j).bO)/\BL w w'
theorem Dk{w:World}{g:Nat}{x0 x1 x2 x3 x4 x5 x6 x7 bd:Value}{tmps:Array Value}(h:w.heap[g]?=some (.cells #[x0,x1,x2,x3,x4,x5,x6,x7] 46 (0,0)))(hp:tmps[6]?=some (.pointer (some ⟨g,0,none⟩)))(hq:tmps[7]?=some bd):
  (results Tryz.f81 tmps).run Tryz.prog w=.ok (.tuple #[.agg #[x0,x1,x2,x3,x4,x5,x6,x7],bd]) w:=by
 obtain⟨⟨h0,h1,h2,h3,h4,h5,h6,h7⟩, -⟩:=dK h;simp[results,Tryz.results81,go_sem,hp,hq,h0,h1,h2,h3,h4,h5,h6,h7]
theorem KO{x:ah.cA}{i j:Int}{S:Nat->Prop}{w w':World}(h:ah.hasB x i j=false)(hb:BL w w'):
  AtP x i j S w (.returned (.tuple #[.agg #[.string {data:=#[]},.string {data:=#[]},.string {data:=#[]},.int .i64 0,.int .i64 0,.int .i64 0,.slice none 0 0,.slice none 0 0],.bool false])) w':=by
 have e:jC x i j=ah.uS:=by unfold jC;rw[h];rfl
 refine⟨none,0,0,none,0,0,?_,fun W _=>?_,hb⟩
 ·rw[e,h];rfl
 ·rw[e];exact⟨eU.nil _ _ _,eU.nil _ _ _⟩
theorem QL{p:Prop}(h:p:=by
  go_enter Tryz.func81,Tryz.ntmps81
  go_upto_region 1 with fail
  rw[<-HW.out]
  go_wp2
  exact bodyPost_ret (Dk (QM.out _ _ _ _ _ _ _ _) rfl rfl) rfl (KO HA.out (vM.out _ _ _ _ _ _ _ _))):p:=h
theorem mz(x:ah.cA)(i j:Int)(v:Value)(S:Nat->Prop)(w:World)(hv:d9 S w v x):
  Calls Tryz.prog 81 #[v,.int .i64 i,.int .i64 j] w (AtP x i j S w):=by
 obtain⟨ak,ck,al,cl,ar,cr,rfl,hk,hl,hr,hsk,hsl,hsr⟩:=hv.form;obtain⟨w1,hw1⟩:=bB ((dP w x.aL (.slice ak x.aA.length ck) (.slice al x.aP.length cl) (.slice ar x.aR.length cr)).alloc (.cells #[.string {data:=#[]},.string {data:=#[]},.string {data:=#[]},.int .i64 0,.int .i64 0,.int .i64 0,.slice none 0 0,.slice none 0 0] 46));have bT:Hid (Below w.heap.size w w1):=hid Og;have HX:Hid (w1.heap[w.heap.size]?=some (.cells #[.int .i64 x.aL,.slice ak x.aA.length ck,.slice al x.aP.length cl,.slice ar x.aR.length cr] 27 (0,0))):=hid Oj;have HG:Hid (w1.heap[w.heap.size+1]?=some (.cells #[.string {data:=#[]},.string {data:=#[]},.string {data:=#[]},.int .i64 0,.int .i64 0,.int .i64 0,.slice none 0 0,.slice none 0 0] 46 (0,0))):=hid OD;have HKn:=hid (hk.keep (aD.below bT.out));have QH:=hid hk;unfold dP at hw1;have HW:=hid hw1
 have vM:Hid (∀y0 y1 y2 y3 y4 y5 y6 y7:Value,BL w ((((((((w1.setCell ⟨w.heap.size+1,0,none⟩ y0).setCell ⟨w.heap.size+1,1,none⟩ y1).setCell ⟨w.heap.size+1,2,none⟩ y2).setCell ⟨w.heap.size+1,3,none⟩ y3).setCell ⟨w.heap.size+1,4,none⟩ y4).setCell ⟨w.heap.size+1,5,none⟩ y5).setCell ⟨w.heap.size+1,6,none⟩ y6).setCell ⟨w.heap.size+1,7,none⟩ y7)):=hid (fun y0 y1 y2 y3 y4 y5 y6 y7=>by
  have:=GS HG.out y0 y1 y2 y3 y4 y5 y6 y7;exact bT.out.trans (Turns.below this.2 bT.out.size (fun b hb=>by omega)))
 clear hv hk hl hr hw1;obtain⟨⟨y0,y1,y2,y3⟩, -⟩:=bC HX.out;obtain⟨⟨g0,g1,g2,g3,g4,g5,g6,g7⟩,gf⟩:=dK HG.out;obtain⟨n,hn⟩:=bB x.aA.length;have HN:=hid hn;rw[<-hn] at y1 hsk HKn QH HX HW ⊢;clear hn;have hset:=fun y0 y1 y2 y3 y4 y5 y6 y7=>(GS HG.out y0 y1 y2 y3 y4 y5 y6 y7).1;have QM:=hid hset;clear hset;by_cases h1:i<0
 ·have HA:Hid (ah.hasB x i j=false):=hid Wu
  exact QL
 ·by_cases h2:(n:Int)<=i
  ·have HA:Hid (ah.hasB x i j=false):=hid (by unfold ah.hasB;rw[decide_eq_false (show ¬i<x.aA.length by rw[<-HN.out];omega)];simp)
   exact QL
  ·by_cases h3:j<0
   ·have HA:Hid (ah.hasB x i j=false):=hid Wt
    exact QL
   ·obtain⟨m,rfl⟩:∃m:Nat,i=(m:Int):=⟨i.toNat,aB⟩
    have hm:m<x.aA.length:=by rw[<-HN.out];omega
    have hm0:(0:Int)<=m:=aB
    have hm1:(m:Int)<n:=aB
    have HA:Hid (ah.hasB x m j=decide (j<(x.aA[m].aG.length:Int))):=hid (by
     unfold ah.hasB
     rw[decide_eq_true hm0,decide_eq_true (show (m:Int)<x.aA.length by rw[<-HN.out];omega),decide_eq_true (show 0<=j by omega),dU hm];rfl)
    obtain⟨nK, -, -, -, -,uf,v3,hf⟩:=QH.out.at hm;obtain⟨a,cap,rfl,hsa, -, -⟩:=hf.form;have c3:=(bT.out.cell (p:=⟨bL ak,bP ak+m*4+3,none⟩) nK).trans v3;clear v3;by_cases h4:(x.aA[m].aG.length:Int)<=j
    ·have tX:Hid (ah.hasB x m j=false):=hid (by rw[HA.out];exact decide_eq_false aB)
     clear hf;generalize x.aA[m].aG.length=q at*;go_enter Tryz.func81,Tryz.ntmps81;go_upto_region 1 with fail;rw[<-HW.out];go_wp2;exact bodyPost_ret (Dk (QM.out _ _ _ _ _ _ _ _) rfl rfl) rfl (KO tX.out (vM.out _ _ _ _ _ _ _ _))
    ·obtain⟨p,rfl⟩:∃p:Nat,j=(p:Int):=⟨j.toNat,aB⟩
     have hp:p<x.aA[m].aG.length:=aB
     have hp0:(0:Int)<=p:=aB
     have hp1:(p:Int)<x.aA[m].aG.length:=aB
     have tX:Hid (ah.hasB x m p=true):=hid (by rw[HA.out];exact decide_eq_true aB);have HF:Hid (jC x m p=x.aA[m].aG[p]):=hid (by unfold jC;rw[tX.out];exact nA hm hp);obtain⟨Iz, -,d0,d1,d2,d3,d4,d5,uw,ug,d6,d7,hu1,mU⟩:=hf.at hp;obtain⟨a1,n1,e1,rfl⟩:∃a n c,uw=.slice a n c:=by obtain⟨a,c,e, -⟩:=hu1.form;exact⟨_,_,_,e⟩
     obtain⟨a2,n2,e2,rfl⟩:∃a n c,ug=.slice a n c:=by obtain⟨a,c,e, -⟩:=mU.form;exact⟨_,_,_,e⟩
     have d0:=(bT.out.cell (p:=⟨bL a,bP a+p*8,none⟩) Iz).trans d0;have d1:=(bT.out.cell (p:=⟨bL a,bP a+p*8+1,none⟩) Iz).trans d1;have d2:=(bT.out.cell (p:=⟨bL a,bP a+p*8+2,none⟩) Iz).trans d2;have d3:=(bT.out.cell (p:=⟨bL a,bP a+p*8+3,none⟩) Iz).trans d3;have d4:=(bT.out.cell (p:=⟨bL a,bP a+p*8+4,none⟩) Iz).trans d4;have d5:=(bT.out.cell (p:=⟨bL a,bP a+p*8+5,none⟩) Iz).trans d5;have d6:=(bT.out.cell (p:=⟨bL a,bP a+p*8+6,none⟩) Iz).trans d6;have d7:=(bT.out.cell (p:=⟨bL a,bP a+p*8+7,none⟩) Iz).trans d7
     have EV:Hid (∀w',BL w w'->AtP x m p S w (.returned (.tuple #[.agg (cF x.aA[m].aG[p] (.slice a1 n1 e1) (.slice a2 n2 e2)).toArray,.bool true])) w'):=hid (fun w' hb=>
      ⟨a1,n1,e1,a2,n2,e2,by rw[HF.out,tX.out],fun W hW=>by rw[HF.out];exact⟨hu1.keep (aD.below hW),mU.keep (aD.below hW)⟩,hb⟩)
     clear hf hu1 mU;generalize x.aA[m].aG[p]=f at*;obtain⟨fn1,fo,fu,fk,fl,fh,Ip,Iq⟩:=f;simp only[cF] at EV;simp only at d0 d1 d2 d3 d4 d5;clear hp;generalize x.aA[m].aG.length=q at*;go_enter Tryz.func81,Tryz.ntmps81;go_upto_region 1 with fail;rw[<-HW.out];go_wp2;exact bodyPost_ret (Dk (QM.out _ _ _ _ _ _ _ _) rfl rfl) rfl (EV.out _ (vM.out _ _ _ _ _ _ _ _))
theorem aas{x:ah.cA}{i j:Int}(h:ah.hasB x i j=false):ah.dI x i j= -1:=by unfold ah.dI;rw[h];rfl
theorem Mk{x:ah.cA}{i j:Int}(h:ah.hasB x i j=true)(h7:¬(ah.fd x i j).kind=7)(h8:¬(ah.fd x i j).kind=8)(h1:¬(ah.fd x i j).kind=1):ah.dI x i j= -1:=by
 unfold ah.dI;rw[if_pos h];simp only;rw[if_neg aB,if_neg h1]
theorem Fj{x:ah.cA}{i j:Int}(h:ah.hasB x i j=true)(h1:(ah.fd x i j).kind=1):ah.dI x i j=ah.pH x i (ah.fd x i j):=by
 unfold ah.dI;rw[if_pos h];simp only;rw[if_neg aB,if_pos h1]
theorem Ml{x:ah.cA}{i j:Int}(h:ah.hasB x i j=true)(h7:(ah.fd x i j).kind=7\/(ah.fd x i j).kind=8):ah.dI x i j=if ah.hasB x i (ah.bJ (ah.kd x i) (ah.fd x i j).up)=true/\ah.bJ (ah.kd x i) (ah.fd x i j).up<j/\(ah.fd x i (ah.bJ (ah.kd x i) (ah.fd x i j).up)).kind=1 then ah.pH x i (ah.fd x i (ah.bJ (ah.kd x i) (ah.fd x i j).up)) else -1:=by
 unfold ah.dI;rw[if_pos h];simp only;rw[if_pos h7]
theorem sS{x:ah.cA}{i j:Int}(h:ah.hasB x i j=true):jC x i j=ah.fd x i j:=by unfold jC;rw[if_pos h]
theorem KP(x:ah.cA)(i j:Int)(h7:¬(jC x i j).kind=7)(h8:¬(jC x i j).kind=8)(v:Value)(S:Nat->Prop)(w:World)(hv:d9 S w v x):
  Calls Tryz.prog 61 #[v,.int .i64 i,.int .i64 j] w fun e w'=>e=.returned (.int .i64 (ah.dI x i j))/\BL w w':=by
 obtain⟨ak,ck,al,cl,ar,cr,rfl,hk,hl,hr,hsk,hsl,hsr⟩:=hv.form;have HV:=hid (fun(W:World) (hW:BL w W)=>hv.keep (aD.below hW));have QH:=hid hk;obtain⟨w1,hw1⟩:=bB (dP w x.aL (.slice ak x.aA.length ck) (.slice al x.aP.length cl) (.slice ar x.aR.length cr));have bT:=wS hw1;have HX:=Hl hw1;unfold dP at hw1;have HW:=hid hw1;clear hv hk hl hr hw1;obtain⟨⟨y0,y1,y2,y3⟩, -⟩:=bC (HX.out w1 aF);cases hb:ah.hasB x i j with
 |false=>
  have HE:=hid (aas hb)
  go_enter Tryz.func61,Tryz.ntmps61
  go_upto_region 1 with fail
  rw[<-HW.out]
  go_wp2_with fail
  refine(mz x i j _ S w1 (HV.out w1 bT.out)).mono ?_
  rintro e w2 ⟨a1,n1,c1,a2,n2,c2,rfl, -,hb2⟩
  have iE:Hid (BL w1 w2):=hid hb2
  have bX:=aU bT hb2
  clear hb2 y0 y1 y2 y3
  rw[hb]
  clear hb
  have HBf:Hid (∀o,BL w (w2.alloc o)):=hid fun o=>bX.out.alloc bX.out.size _
  generalize jC x i j=f at*
  obtain⟨fn1,fo,fu,fk,fl,fh,Ip,Iq⟩:=f
  simp only[cF]
  go_wp2
  go_ret
  exact⟨qU,HBf.out _⟩
 |true=>
  have hat:=sS hb
  by_cases h1:(jC x i j).kind=1
  ·have HE:Hid (ah.dI x i j=ah.pH x i (jC x i j)):=hid (by rw[hat] at h1 ⊢;exact Fj hb h1)
   go_enter Tryz.func61,Tryz.ntmps61;go_upto_region 1 with fail;rw[<-HW.out];go_wp2_with fail;refine(mz x i j _ S w1 (HV.out w1 bT.out)).mono ?_;rintro e w2 ⟨a1,n1,c1,a2,n2,c2,rfl, -,hb2⟩;have iE:Hid (BL w1 w2):=hid hb2;have bX:=aU bT hb2;clear hb2 y0 y1 y2 y3;rw[hb];clear hb hat;obtain⟨f,hf⟩:=bB (jC x i j);rw[<-hf];have HF:=hid hf;clear hf;obtain⟨w3,hw3⟩:=bB (w2.alloc (.cells (cF f (.slice a1 n1 c1) (.slice a2 n2 c2)).toArray 46));have jB:Hid (Below w1.heap.size w1 w3):=hid Lm;have cE:Hid (Below w.heap.size w w3):=hid Oi;have rC:Hid (w3.heap[w2.heap.size]?=some (.cells (cF f (.slice a1 n1 c1) (.slice a2 n2 c2)).toArray 46 (0,0))):=hid Ol;have HW3:=hid hw3;clear hw3;rw[<-HF.out] at h1 h7 h8 HE;obtain⟨fn1,fo,fu,fk,fl,fh,Ip,Iq⟩:=f;simp only[cF] at rC HW3 ⊢;obtain⟨⟨u0,u1,u2,u3,u4,u5,u6,u7⟩, -⟩:=dK rC.out;obtain⟨⟨y0,y1,y2,y3⟩, -⟩:=bC (HX.out w3 jB.out);simp only at h1 h7 h8;subst h1;have D3:=hid (nL x fo _ S w3 (HV.out w3 cE.out));have HR:Hid (ah.dI x i j=if ah.cL x fo<i then ah.cL x fo else -1):=hid qU;have hkr: -1<=ah.cL x fo:=ah.iI _ _ _;generalize ah.cL x fo=kz at*;go_upto_region 2 with fail;rw[<-HW3.out];go_wp2_with fail;refine D3.out.mono ?_;rintro e w4 ⟨rfl,hb4⟩;have gK:=aU cE hb4;clear hb4;by_cases hlt:kz<i
   ·have vU:Hid (ah.dI x i j=kz):=hid (by rw[HR.out,if_pos hlt])
    go_wp2;go_ret;exact⟨by rw[vU.out];rfl,gK.out⟩
   ·have vU:Hid (ah.dI x i j= -1):=hid (by rw[HR.out,if_neg hlt])
    go_wp2;go_ret;exact⟨by rw[vU.out];rfl,gK.out⟩
  ·have HE:Hid (ah.dI x i j= -1):=hid (by rw[hat] at h1 h7 h8;exact Mk hb h7 h8 h1)
   go_enter Tryz.func61,Tryz.ntmps61;go_upto_region 1 with fail;rw[<-HW.out];go_wp2_with fail;refine(mz x i j _ S w1 (HV.out w1 bT.out)).mono ?_;rintro e w2 ⟨a1,n1,c1,a2,n2,c2,rfl, -,hb2⟩;have iE:Hid (BL w1 w2):=hid hb2;have bX:=aU bT hb2;clear hb2 y0 y1 y2 y3;rw[hb];clear hb hat;obtain⟨f,hf⟩:=bB (jC x i j);rw[<-hf];have HF:=hid hf;clear hf;obtain⟨w3,hw3⟩:=bB (w2.alloc (.cells (cF f (.slice a1 n1 c1) (.slice a2 n2 c2)).toArray 46));have jB:Hid (Below w1.heap.size w1 w3):=hid Lm;have cE:Hid (Below w.heap.size w w3):=hid Oi;have rC:Hid (w3.heap[w2.heap.size]?=some (.cells (cF f (.slice a1 n1 c1) (.slice a2 n2 c2)).toArray 46 (0,0))):=hid Ol;have HW3:=hid hw3;clear hw3;rw[<-HF.out] at h1 h7 h8;obtain⟨fn1,fo,fu,fk,fl,fh,Ip,Iq⟩:=f;simp only[cF] at rC HW3 ⊢;obtain⟨⟨u0,u1,u2,u3,u4,u5,u6,u7⟩, -⟩:=dK rC.out;obtain⟨⟨y0,y1,y2,y3⟩, -⟩:=bC (HX.out w3 jB.out);simp only at h1 h7 h8;have e1:(fk==7)=false:=by simpa using h7
   have e2:(fk==8)=false:=by simpa using h8
   have e3:(fk !=1)=true:=AF
   go_upto_region 2 with fail;rw[<-HW3.out];go_wp2;go_ret;exact⟨qU,cE.out⟩
theorem p8(x:ah.cA)(i j:Int)(v:Value)(S:Nat->Prop)(w:World)(hv:d9 S w v x):
  Calls Tryz.prog 61 #[v,.int .i64 i,.int .i64 j] w fun e w'=>e=.returned (.int .i64 (ah.dI x i j))/\BL w w':=by
 by_cases hsh:(jC x i j).kind=7\/(jC x i j).kind=8
 ·have hb:ah.hasB x i j=true:=by
   cases hb:ah.hasB x i j
   ·unfold jC at hsh
    rw[hb] at hsh;simp[ah.uS] at hsh
   ·rfl
  have hat:=sS hb;obtain⟨m,p,rfl,rfl,hm,hp⟩:=EW hb
  have hUp:ah.dI x (m:Int) (p:Int)=if ah.hasB x m (ah.bJ (ah.kd x m) (jC x m p).up)=true/\ah.bJ (ah.kd x m) (jC x m p).up<p/\(ah.fd x m (ah.bJ (ah.kd x m) (jC x m p).up)).kind=1 then ah.pH x m (ah.fd x m (ah.bJ (ah.kd x m) (jC x m p).up)) else -1:=by
   rw[hat] at hsh ⊢;exact Ml hb hsh
  have Mn:=hid hUp;clear hUp;obtain⟨ak,ck,al,cl,ar,cr,rfl,hk,hl,hr,hsk,hsl,hsr⟩:=hv.form;have HV:=hid (fun(W:World) (hW:BL w W)=>hv.keep (aD.below hW));have QH:=hid hk;obtain⟨w1,hw1⟩:=bB (dP w x.aL (.slice ak x.aA.length ck) (.slice al x.aP.length cl) (.slice ar x.aR.length cr));have bT:=wS hw1;have HX:=Hl hw1;unfold dP at hw1;have HW:=hid hw1;clear hv hk hl hr hw1;obtain⟨⟨y0,y1,y2,y3⟩, -⟩:=bC (HX.out w1 aF);obtain⟨nK, -,k0,k1,k2,uf,k3,kT⟩:=QH.out.at hm;obtain⟨af,cf,rfl, -, -, -⟩:=kT.form
  have Fk:Hid (∀W,BL w W->W.cell? ⟨bL ak,bP ak+m*4,none⟩=some (.string x.aA[m].name)/\W.cell? ⟨bL ak,bP ak+m*4+1,none⟩=some (.int .i64 x.aA[m].lo)/\W.cell? ⟨bL ak,bP ak+m*4+2,none⟩=some (.int .i64 x.aA[m].hi)/\W.cell? ⟨bL ak,bP ak+m*4+3,none⟩=some (.slice af x.aA[m].aG.length cf)):=hid (fun W hW=>
   ⟨(hW.cell (p:=⟨bL ak,bP ak+m*4,none⟩) nK).trans k0,(hW.cell (p:=⟨bL ak,bP ak+m*4+1,none⟩) nK).trans k1,(hW.cell (p:=⟨bL ak,bP ak+m*4+2,none⟩) nK).trans k2,(hW.cell (p:=⟨bL ak,bP ak+m*4+3,none⟩) nK).trans k3⟩)
  have D5:=hid (fun(s:ByteArray) (W:World) (hW:BL w W)=>lQ x.aA[m] s _ S W (kT.keep (aD.below hW)));rw[<-dU hm] at D5;have hm0:(0:Int)<=m:=aB
  have hm1:(m:Int)<x.aA.length:=aB
  have HNk:Hid ((ah.kd x m).aG.length=x.aA[m].aG.length):=hid (by rw[dU hm]);clear k0 k1 k2 k3 kT;go_enter Tryz.func61,Tryz.ntmps61;go_upto_region 1 with fail;rw[<-HW.out];go_wp2_with fail;refine(mz x (m:Int) (p:Int) _ S w1 (HV.out w1 bT.out)).mono ?_;rintro e w2 ⟨a1,n1,c1,a2,n2,c2,rfl, -,hb2⟩;have iE:Hid (BL w1 w2):=hid hb2;have bX:=aU bT hb2;clear hb2 y0 y1 y2 y3;rw[hb];clear hb hat;obtain⟨f,hf⟩:=bB (jC x (m:Int) (p:Int));rw[<-hf];have HF:=hid hf;clear hf;obtain⟨w3,hw3⟩:=bB (w2.alloc (.cells (cF f (.slice a1 n1 c1) (.slice a2 n2 c2)).toArray 46));have jB:Hid (Below w1.heap.size w1 w3):=hid Lm;have cE:Hid (Below w.heap.size w w3):=hid Oi;have rC:Hid (w3.heap[w2.heap.size]?=some (.cells (cF f (.slice a1 n1 c1) (.slice a2 n2 c2)).toArray 46 (0,0))):=hid Ol;have HW3:=hid hw3;clear hw3;rw[<-HF.out] at hsh Mn;obtain⟨fn1,fo,fu,fk,fl,fh,Ip,Iq⟩:=f;simp only[cF] at rC HW3 ⊢;obtain⟨⟨u0,u1,u2,u3,u4,u5,u6,u7⟩, -⟩:=dK rC.out;obtain⟨⟨y0,y1,y2,y3⟩, -⟩:=bC (HX.out w3 jB.out);simp only at hsh Mn;obtain⟨uz,XE⟩:=bB (ah.bJ (ah.kd x m) fu);have N7: -1<=uz:=by rw[XE];exact ah.iI _ _ _
  rw[<-XE] at Mn;have D2:=hid (fun(X:qW w3)=>Calls.xu (x:=X) (D5.out fu X.1 (cG cE.out X.2)));rw[<-XE] at D2;clear XE;have hzw:w2.heap.size<w3.heap.size:=aC rC.out;have hzw0:w.heap.size<w3.heap.size:=aC (HX.out w3 jB.out);have hzka:bL ak<w3.heap.size:=by have:=cE.out.size;omega
  obtain⟨UU,UW,UX,UY⟩:=Fk.out w3 cE.out
  have hd:∀k,k=fk->(k==7||k==8)=true:=fun k e=>by
   subst e;rcases hsh with h|h<;>rw[h]<;>rfl
  have UZ:Hid (fk=7\/fk=8):=hid hsh;clear hsh hd;generalize (ah.kd x m).name=kn at*;rw[dU hm] at D2;obtain⟨kdd,hkd⟩:=bB (x.aA[m]);rw[<-hkd] at D2 UU UW UX UY;clear hkd;obtain⟨kn2,BZ,B6,A8⟩:=kdd;simp only[kH] at D2;simp only at UU UW UX UY;generalize A8.length=nf at*;have go5:∀(Q:Prop),(fk=7->Q)->(fk=8->Q)->Q:=fun Q h1 h2=>UZ.out.elim h1 h2;refine go5 _ ?_ ?_
  all_goals
   intro Dl
   subst Dl
   clear go5
   go_upto_region 2 with fail
   rw[<-HW3.out]
   go_wp2
   have hg:=qW.cell (w:=w3)
   refine mT (by kernel_rfl) (by kernel_rfl) ?_
   repeat (go_big_quiet_step ((exact D2.out _)))
   refine iL ?_
   intro w4 hx
   have hb4:=xO hx
   have lW:=aU jB hb4
   have gK:=aU cE hb4
   clear hx hg hb4 y0 y1 y2 y3 u0 u1 u2 u3 u4 u5 u6 u7 UU UW UX UY
   obtain⟨⟨y0,y1,y2,y3⟩, -⟩:=bC (HX.out w4 lW.out)
   go_wp2_with fail
   refine(mz x (m:Int) uz _ S w4 (HV.out w4 gK.out)).mono ?_
   rintro e w5 ⟨b1,m1,d1,b2,m2,d2,rfl, -,jd⟩
   have jI:=aU lW jd
   have iD:=aU gK jd
   clear jd y0 y1 y2 y3
   cases hb2:ah.hasB x (m:Int) uz with
   |false=>
    have HE:Hid (ah.dI x (m:Int) (p:Int)= -1):=hid (by rw[Mn.out,if_neg (by rw[hb2];simp)])
    clear hb2
    obtain⟨f2,hf2⟩:=bB (jC x (m:Int) uz)
    rw[<-hf2]
    have DZ:=hid hf2
    clear hf2
    obtain⟨w6,qE⟩:=bB (w5.alloc (.cells (cF f2 (.slice b1 m1 d1) (.slice b2 m2 d2)).toArray 46))
    have Fl:Hid (Below w1.heap.size w1 w6):=hid Tt
    have qp:Hid (Below w.heap.size w w6):=hid Tv
    have DY:Hid (w6.heap[w5.heap.size]?=some (.cells (cF f2 (.slice b1 m1 d1) (.slice b2 m2 d2)).toArray 46 (0,0))):=hid TB
    have Ar:=hid qE
    clear qE
    obtain⟨gn1,go,gu,gk,gl,gh,D6,ggs⟩:=f2
    simp only[cF] at DY Ar ⊢
    obtain⟨⟨u0,u1,u2,u3,u4,u5,u6,u7⟩, -⟩:=dK DY.out
    obtain⟨⟨y0,y1,y2,y3⟩, -⟩:=bC (HX.out w6 Fl.out)
    go_upto_region 7 with fail
    rw[<-Ar.out]
    go_wp2
    go_ret
    exact⟨qU,qp.out⟩
   |true=>
    have IA:=sS hb2
    by_cases hlt:uz<(p:Int)
    ·by_cases h1:(jC x (m:Int) uz).kind=1
     ·have HE:Hid (ah.dI x (m:Int) (p:Int)=ah.dI x (m:Int) uz):=hid (by
       have h1':=h1
       rw[IA] at h1'
       rw[Mn.out,if_pos ⟨hb2,hlt,h1'⟩,Fj hb2 h1'])
      have HU1:=hid (fun W (hW:BL w W)=>KP x (m:Int) uz aB aB _ S W (HV.out W hW));clear hb2 IA;obtain⟨f2,hf2⟩:=bB (jC x (m:Int) uz);rw[<-hf2];have DZ:=hid hf2;rw[<-hf2] at h1;clear hf2;obtain⟨w6,qE⟩:=bB (w5.alloc (.cells (cF f2 (.slice b1 m1 d1) (.slice b2 m2 d2)).toArray 46));have Fl:Hid (Below w1.heap.size w1 w6):=hid Tt;have qp:Hid (Below w.heap.size w w6):=hid Tv;have DY:Hid (w6.heap[w5.heap.size]?=some (.cells (cF f2 (.slice b1 m1 d1) (.slice b2 m2 d2)).toArray 46 (0,0))):=hid TB;have Ar:=hid qE;clear qE;obtain⟨gn1,go,gu,gk,gl,gh,D6,ggs⟩:=f2;simp only[cF] at DY Ar ⊢;obtain⟨⟨u0,u1,u2,u3,u4,u5,u6,u7⟩, -⟩:=dK DY.out;obtain⟨⟨y0,y1,y2,y3⟩, -⟩:=bC (HX.out w6 Fl.out);go_upto_region 7 with fail;rw[<-Ar.out];simp only at h1;subst h1;have HU6:=hid (HU1.out w6 qp.out);generalize ah.dI x (m:Int) uz=rz at*;go_wp2_with fail;refine HU6.out.mono ?_;rintro e w7 ⟨rfl,oV⟩;have jT:=aU qp oV;clear oV;go_wp2;go_ret;exact⟨qU,jT.out⟩
     ·have HE:Hid (ah.dI x (m:Int) (p:Int)= -1):=hid (by
       have h1':=h1
       rw[IA] at h1'
       rw[Mn.out,if_neg (fun h=>h1' h.2.2)])
      clear hb2 IA;obtain⟨f2,hf2⟩:=bB (jC x (m:Int) uz);rw[<-hf2];have DZ:=hid hf2;rw[<-hf2] at h1;clear hf2;obtain⟨w6,qE⟩:=bB (w5.alloc (.cells (cF f2 (.slice b1 m1 d1) (.slice b2 m2 d2)).toArray 46));have Fl:Hid (Below w1.heap.size w1 w6):=hid Tt;have qp:Hid (Below w.heap.size w w6):=hid Tv;have DY:Hid (w6.heap[w5.heap.size]?=some (.cells (cF f2 (.slice b1 m1 d1) (.slice b2 m2 d2)).toArray 46 (0,0))):=hid TB;have Ar:=hid qE;clear qE;obtain⟨gn1,go,gu,gk,gl,gh,D6,ggs⟩:=f2;simp only[cF] at DY Ar ⊢;obtain⟨⟨u0,u1,u2,u3,u4,u5,u6,u7⟩, -⟩:=dK DY.out;obtain⟨⟨y0,y1,y2,y3⟩, -⟩:=bC (HX.out w6 Fl.out);go_upto_region 7 with fail;rw[<-Ar.out];simp only at h1;have e1:(gk==1)=false:=AF
      go_wp2;go_ret;exact⟨qU,qp.out⟩
    ·have HE:Hid (ah.dI x (m:Int) (p:Int)= -1):=hid (by rw[Mn.out,if_neg (fun h=>hlt h.2.1)])
     clear hb2 IA;obtain⟨f2,hf2⟩:=bB (jC x (m:Int) uz);rw[<-hf2];have DZ:=hid hf2;clear hf2;obtain⟨w6,qE⟩:=bB (w5.alloc (.cells (cF f2 (.slice b1 m1 d1) (.slice b2 m2 d2)).toArray 46));have Fl:Hid (Below w1.heap.size w1 w6):=hid Tt;have qp:Hid (Below w.heap.size w w6):=hid Tv;have DY:Hid (w6.heap[w5.heap.size]?=some (.cells (cF f2 (.slice b1 m1 d1) (.slice b2 m2 d2)).toArray 46 (0,0))):=hid TB;have Ar:=hid qE;clear qE;obtain⟨gn1,go,gu,gk,gl,gh,D6,ggs⟩:=f2;simp only[cF] at DY Ar ⊢;obtain⟨⟨u0,u1,u2,u3,u4,u5,u6,u7⟩, -⟩:=dK DY.out;obtain⟨⟨y0,y1,y2,y3⟩, -⟩:=bC (HX.out w6 Fl.out);go_upto_region 7 with fail;rw[<-Ar.out];go_wp2;go_ret;exact⟨qU,qp.out⟩
 ·exact KP x i j (fun h=>hsh (.inl h)) (fun h=>hsh (.inr h)) v S w hv
theorem ux(n:Nat)(cs:Nat->Int)(g cap:Nat)(w:World)(hn:n<=100)(hg:g<w.heap.size)(hc:∀i,i<n->w.cell? ⟨g,i*2,none⟩=some (.bool false)/\w.cell? ⟨g,i*2+1,none⟩=some (.int .i64 (cs i))):
  Calls Tryz.prog 45 #[.slice (some ⟨g,0,none⟩) n cap] w fun e w'=>e=.returned (.int .i64 0)/\BL w w':=by
 have HC:=hid hc;have HG:=hid hg;have hok:dX (some ⟨g,0,none⟩) n:=fun _=>⟨_,_,rfl⟩;clear hc hg;go_enter Tryz.func45,Tryz.ntmps45;go_wp2;go_loopw [7] (fun i wr=>∃k:Nat,k<=n/\i=.int .i64 k/\Hid (BL w wr)) (fun i _=>n-(intOf i).toNat);case atStart=>exact⟨0,Nat.zero_le _,rfl,hid aF⟩
 case round=>
  obtain⟨k,hk,rfl,hb⟩:=hrel;by_cases hlt:k<n
  ·have hk0:(0:Int)<=(k:Int):=by omega
   have hk1:(k:Int)<(n:Int):=aB
   have y0:wr.cell? ⟨g,k*2,none⟩=some (.bool false):=(hb.out.cell (p:=⟨g,k*2,none⟩) HG.out).trans (HC.out k hlt).1;have y1:wr.cell? ⟨g,k*2+1,none⟩=some (.int .i64 (cs k)):=(hb.out.cell (p:=⟨g,k*2+1,none⟩) HG.out).trans (HC.out k hlt).2;have bX:Hid (∀o,BL w (wr.alloc o)):=hid fun o=>hb.out.alloc hb.out.size _;go_wp2;go_roundw;case rel=>exact⟨k+1,aB,by go_num,hid (bX.out _)⟩
   simp[intOf];omega
  ·obtain rfl:k=n:=by omega
   go_wp2;go_ret;exact⟨rfl,hb.out⟩
def QO(x:ah.cA)(i o:Int)(s:ah.Nm)(k:Nat):List Int:=
 ((List.range k).map fun j:Nat=>(j:Int)).filter fun j=>decide ((ah.fd x o j).kind=7)&&decide ((ah.fd x o j).of=s)&&decide (ah.dI x o j=i)
theorem Fm(x:ah.cA)(i o:Int)(s:ah.Nm)(k:Nat):QO x i o s (k+1)=QO x i o s k++(if (decide ((ah.fd x o k).kind=7)&&decide ((ah.fd x o k).of=s)&&decide (ah.dI x o k=i))=true then [(k:Int)] else []):=by
 unfold QO;rw[List.range_succ,List.map_append,List.filter_append];congr 1;simp only[List.map_cons,List.map_nil,List.filter_cons,List.filter_nil]
theorem aat{x:ah.cA}{i o:Int}{s:ah.Nm}{k:Nat}(h:¬((ah.fd x o k).kind=7/\(ah.fd x o k).of=s/\ah.dI x o k=i)):QO x i o s (k+1)=QO x i o s k:=by
 rw[Fm,if_neg,List.append_nil];simp only[pF,qZ,and_assoc];exact h
theorem U0{x:ah.cA}{i o:Int}{s:ah.Nm}{k:Nat}(h:(ah.fd x o k).kind=7/\(ah.fd x o k).of=s/\ah.dI x o k=i):QO x i o s (k+1)=QO x i o s k++[(k:Int)]:=by
 rw[Fm,if_pos];simp only[pF,qZ,and_assoc];exact h
def qq(x:ah.cA)(i:Int)(f:ah.cD)(w:World)(e:Ending)(w':World):Prop:=
 ∃a cap,e=.returned (.tuple #[.int .i64 (ah.iP x i f),.slice a (ah.iQ x i f).length cap])/\bg (w.heap.size<=·) w' (.slice a (ah.iQ x i f).length cap) (ah.iQ x i f)/\BL w w'
theorem Fo{x:ah.cA}{i:Int}{f:ah.cD}{w w':World}(h:ah.iP x i f= -1)(hb:BL w w'):
  qq x i f w (.returned (.tuple #[.int .i64 (-1),.slice none 0 0])) w':=by
 have e:ah.iQ x i f=[]:=by unfold ah.iQ;rw[h];rfl
 refine⟨none,0,?_,?_,hb⟩
 ·rw[h,e];rfl
 ·rw[e];exact bg.nil _ _
theorem XJ{p:Prop}(h:p:=by
  go_wp2
  go_roundw
  case rel=>exact⟨k+1,a,c,l,aB,by go_num,rfl,aB,yS,HI3,jB⟩
  simp[intOf]
  omega):p:=h
theorem IB(x:ah.cA)(i:Int)(hi:0<=i)(f:ah.cD)(v uw ug:Value)(S:Nat->Prop)(w:World)(hv:d9 S w v x)(h6:x.aA.length<=1000)(h10:∀k∈x.aA,k.aG.length<=1000):
  Calls Tryz.prog 222 #[v,.int .i64 i,.agg (cF f uw ug).toArray] w (qq x i f w):=by
 obtain⟨ak,ck,al,cl,ar,cr,rfl,hk,hl,hr,hsk,hsl,hsr⟩:=hv.form;have HV:=hid (fun(W:World) (hW:BL w W)=>hv.keep (aD.below hW));have QH:=hid hk;obtain⟨w1,hw1⟩:=bB ((dP w x.aL (.slice ak x.aA.length ck) (.slice al x.aP.length cl) (.slice ar x.aR.length cr)).alloc (.cells (cF f uw ug).toArray 46));have bT:Hid (Below w.heap.size w w1):=hid Og;have HX:Hid (∀W,BL w1 W->W.heap[w.heap.size]?=some (.cells #[.int .i64 x.aL,.slice ak x.aA.length ck,.slice al x.aP.length cl,.slice ar x.aR.length cr] 27 (0,0))):=hid (fun W hW=>(hW.block _ (by rw[hw1];simp[dP];omega)).trans Oj);have HF:Hid (∀W,BL w1 W->W.heap[w.heap.size+1]?=some (.cells (cF f uw ug).toArray 46 (0,0))):=hid (fun W hW=>(hW.block _ JZ).trans OD);unfold dP at hw1;have HW:=hid hw1;clear hv hk hl hr hw1;have D3:=hid (nL x f.of _ S w1 (HV.out w1 bT.out));have HO:Hid (ah.iP x i f=if f.kind=6/\i<ah.cL x f.of then ah.cL x f.of else -1):=hid rfl;have Td:Hid (ah.iQ x i f=if ah.iP x i f<0 then [] else ah.sj x i (ah.iP x i f) f.name):=hid rfl;have hkr: -1<=ah.cL x f.of:=ah.iI _ _ _
 have hkl:ah.cL x f.of<x.aA.length:=by
  rcases jS (fun k:ah.dZ=>decide (k.name=f.of)) x.aA with h|h
  ·exact h
  ·unfold ah.cL;rw[h];omega
 have XK:=hid (fun(w':World) (h:ah.iP x i f= -1) (hb:BL w w')=>Fo h hb);have HSP:Hid (∀e w',(∃a cap,e=.returned (.tuple #[.int .i64 (ah.iP x i f),.slice a (ah.iQ x i f).length cap])/\bg (w.heap.size<=·) w' (.slice a (ah.iQ x i f).length cap) (ah.iQ x i f)/\BL w w')->qq x i f w e w'):=hid (fun _ _ h=>h);refine Calls.mono (R:=fun e w'=>Hid (qq x i f w e w')) ?_ (fun _ _ h=>h.out);generalize qq x i f w=SP at*;generalize ah.iP x i f=oi at*;generalize ah.iQ x i f=sl at*;generalize ah.cL x f.of=ki at*;obtain⟨fn,fo,fu,fk,fl,fh,Ip,Iq⟩:=f;simp only[cF] at HF HW HO Td D3 ⊢;obtain⟨⟨y0,y1,y2,y3⟩, -⟩:=bC (HX.out w1 aF);obtain⟨⟨z0,z1,z2,z3,z4,z5,z6,z7⟩, -⟩:=dK (HF.out w1 aF);go_enter Tryz.func222,Tryz.ntmps222;go_upto_region 1 with fail;rw[<-HW.out];go_wp2_with fail;refine D3.out.mono ?_;rintro e w2 ⟨rfl,hb2⟩;have iE:Hid (BL w1 w2):=hid hb2;have bX:=aU bT hb2;clear hb2 y0 y1 y2 y3 z0 z1 z2 z3 z4 z5 z6 z7;obtain⟨⟨y0,y1,y2,y3⟩, -⟩:=bC (HX.out w2 iE.out);obtain⟨⟨z0,z1,z2,z3,z4,z5,z6,z7⟩, -⟩:=dK (HF.out w2 iE.out);by_cases hf6:fk=6
 ·by_cases hlt:i<ki
  ·subst hf6
   obtain⟨o,rfl⟩:∃o:Nat,ki=(o:Int):=⟨ki.toNat,aB⟩;have ho:o<x.aA.length:=aB
   have xD:Hid (oi=(o:Int)):=hid (by rw[HO.out,if_pos ⟨rfl,hlt⟩]);have tG:Hid (sl=QO x i o fn (ah.kd x o).aG.length):=hid (by rw[Td.out,xD.out,if_neg aB];rfl);clear HO Td;obtain⟨nK, -,k0,k1,k2,uf,k3,kT⟩:=QH.out.at ho;have rI:=hid kT;obtain⟨af,cf,rfl,hsf, -, -⟩:=kT.form;have HN:Hid ((ah.kd x o).aG.length=x.aA[o].aG.length):=hid (by rw[dU ho]);have D2:Hid (∀(j:Nat) (h:j<x.aA[o].aG.length),ah.fd x o j=x.aA[o].aG[j]):=hid (fun j h=>nA ho h);have A9:x.aA[o].aG.length<=1000:=h10 _ (gm ho);have u0:w2.cell? ⟨bL ak,bP ak+o*4+3,none⟩=some (.slice af x.aA[o].aG.length cf):=(bX.out.cell (p:=⟨bL ak,bP ak+o*4+3,none⟩) nK).trans k3;have ho0:(0:Int)<=o:=aB
   have Ie:(o:Int)<x.aA.length:=aB
   have hle:¬((o:Int)<=i):=aB
   have Mn:=hid (fun(j:Nat) (W:World) (hW:BL w W)=>p8 x o j _ S W (HV.out W hW));rw[HN.out] at tG;clear k0 k1 k2 k3 kT HN;generalize x.aA[o].aG=fs at*;obtain⟨nf,hnf⟩:=bB fs.length;have Ej:=hid hnf;rw[<-hnf] at u0 A9 hsf tG rI;clear hnf;go_wp2;go_loopw [31,9] (fun k v wr=>∃(k':Nat) (a:Option Addr) (c:Nat) (l:List Int),k'<=nf/\k=.int .i64 k'/\v=.slice a l.length c/\l.length<=k'/\Hid (l=QO x i o fn k')/\Hid (bg (w1.heap.size<=·) wr (.slice a l.length c) l)/\Hid (BL w1 wr)) (fun k _ _=>nf-(intOf k).toNat);case atStart=>exact⟨0,none,0,[],Nat.zero_le _,rfl,rfl,aH,hid rfl,hid (bg.nil _ _),iE⟩
   case round=>
    obtain⟨k,a,c,l,hk,rfl,rfl,hlk,IC,HI,kE⟩:=hrel;have jF:=aU bT kE.out;by_cases hkn:k<nf
    ·have hk0:(0:Int)<=(k:Int):=by omega
     have hk1:(k:Int)<(nf:Int):=aB
     obtain⟨Iz, -,f0,f1,f2,f3,f4,f5,uw',ug',f6,f7,Ai,hgs⟩:=dh.at (rI.out.keep (aD.below jF.out)) (show k<fs.length by rw[<-Ej.out];exact hkn);obtain⟨aw,cw,rfl, -, -, -⟩:=Ai.form;obtain⟨ag,cg,rfl, -, -, -⟩:=hgs.form;clear Ai hgs;have HE:Hid (ah.fd x o k=fs[k]'(by rw[<-Ej.out];exact hkn)):=hid (D2.out k _);have XL:=hid (fun(W:World) (hW:BL w W)=>Mn.out k W hW);have HN:Hid (¬((ah.fd x o k).kind=7/\(ah.fd x o k).of=fn/\ah.dI x o k=i)->l=QO x i o fn (k+1)):=hid (fun h=>by rw[aat h];exact IC.out);have HY:Hid (((ah.fd x o k).kind=7/\(ah.fd x o k).of=fn/\ah.dI x o k=i)->l++[(k:Int)]=QO x i o fn (k+1)):=hid (fun h=>by rw[U0 h,IC.out]);rw[HE.out] at HN HY;generalize fs[k]'(by rw[<-Ej.out];exact hkn)=g at*;clear HE;obtain⟨gn,go,gu,gk,gl,gh,D6,ggs⟩:=g;generalize D6.length=nw at*;generalize ggs.length=ng at*;simp only at f0 f1 f2 f3 f4 f5 f6 f7 HN HY;generalize ah.dI x o k=uz at*;obtain⟨⟨z0,z1,z2,z3,z4,z5,z6,z7⟩, -⟩:=dK (HF.out wr kE.out);obtain⟨w3,hw3⟩:=bB (wr.alloc (.cells #[.string gn,.string go,.string gu,.int .i64 gk,.int .i64 gl,.int .i64 gh,(.slice aw nw cw),(.slice ag ng cg)] 46));have jB:Hid (Below w1.heap.size w1 w3):=hid (by rw[hw3];exact kE.out.alloc kE.out.size _);have cE:Hid (Below w.heap.size w w3):=hid (by rw[hw3];exact jF.out.alloc jF.out.size _);have rC:Hid (w3.heap[wr.heap.size]?=some (.cells #[.string gn,.string go,.string gu,.int .i64 gk,.int .i64 gl,.int .i64 gh,(.slice aw nw cw),(.slice ag ng cg)] 46 (0,0))):=hid (by rw[hw3];exact aW wr _ rfl);have HI3:Hid (bg (w1.heap.size<=·) w3 (.slice a l.length c) l):=hid (by rw[hw3];exact aX.keep HI.out (aD.below (aF.alloc aH _)));have HW3:=hid hw3;clear hw3;go_upto_region 8 with fail;rw[<-HW3.out];clear f0 f1 f2 f3 f4 f5 f6 f7 z0 z1 z2 z3 z4 z5 z6 z7 y0 y1 y2 y3;obtain⟨⟨f0,f1,f2,f3,f4,f5,f6,f7⟩, -⟩:=dK rC.out;obtain⟨⟨z0,z1,z2,z3,z4,z5,z6,z7⟩, -⟩:=dK (HF.out w3 jB.out);obtain⟨⟨y0,y1,y2,y3⟩, -⟩:=bC (HX.out w3 jB.out);by_cases h7:gk=7
     ·by_cases N8:go=fn
      ·have es:(go.toList==fn.toList)=true:=by rw[N8];simp
       have HU3:=hid (XL.out w3 cE.out);have HY2:=hid (fun(h:uz=i)=>HY.out ⟨h7,N8,h⟩);have HOf:=hid N8;subst h7;clear N8;go_wp2_with fail;refine HU3.out.mono ?_;rintro e w4 ⟨rfl,hb4⟩;have lW:=aU jB hb4;have gK:=aU cE hb4;have HI4:Hid (bg (w1.heap.size<=·) w4 (.slice a l.length c) l):=hid (aX.keep HI3.out (aD.below hb4));clear hb4;by_cases hu:uz=i
       ·have yS:=hid (HY2.out hu)
        subst hu;clear HN HY HY2 IC;go_wp2_with (at_builtin;go_must (refine jW rfl _ _ rfl Tryz.rZ rfl HI4.out (aF.alloc aH _) rfl (tS nV w4 _ (k:Int) rfl trivial) aB ?_));intro v' w5 N9 yd;obtain⟨l2,hl2⟩:=bB (l++[(k:Int)]);rw[<-hl2] at N9 yS;have hlen:l2.length<=k+1:=by rw[hl2];simp;omega
        obtain⟨a2,c2,rfl, -, -, -⟩:=(bg.sl N9).form;have o6:Hid (bg (w1.heap.size<=·) w5 (.slice a2 l2.length c2) l2):=hid (aX.mono N9 (fun b _ hb=>gM lW.out.size b hb));have jI:Hid (BL w1 w5):=hid ((lW.out.alloc lW.out.size _).trans (yd.below (by have:=lW.out.size;simp;omega) (fun b hb=>HI4.out.2 b hb.symm)));clear N9 yd hl2;go_wp2;go_roundw;case rel=>exact⟨k+1,a2,c2,l2,aB,by go_num,rfl,hlen,yS,o6,jI⟩
        simp[intOf];omega
       ·have eu:(uz==i)=false:=by simpa using hu
        have yS:=hid (HN.out (fun h=>hu h.2.2));clear HN HY HY2 IC hu;go_wp2;go_roundw;case rel=>exact⟨k+1,a,c,l,aB,by go_num,rfl,aB,yS,HI4,lW⟩
        simp[intOf];omega
      ·have es:(go.toList==fn.toList)=false:=by rw[GV];simpa using N8
       have yS:=hid (HN.out (fun h=>N8 h.2.1));subst h7;clear HN HY IC N8;exact XJ
     ·have e7:(gk==7)=false:=by simpa using h7
      have yS:=hid (HN.out (fun h=>h7 h.1));clear HN HY IC h7;exact XJ
    ·obtain rfl:k=nf:=by omega
     have HEl:Hid (sl=l):=hid (by rw[tG.out,IC.out]);go_wp2;go_ret2;exact hid<|HSP.out _ _ ⟨a,c,by rw[HEl.out,xD.out];rfl,by rw[HEl.out];exact aX.mono HI.out (fun b _ hb=>Nat.le_trans bT.out.size hb),jF.out⟩
  ·have xD:Hid (oi= -1):=hid (by rw[HO.out,if_neg (fun h=>hlt h.2)])
   subst hf6;have hle:ki<=i:=aB
   go_wp2;go_ret2;exact hid<|XK.out _ xD.out bX.out
 ·have xD:Hid (oi= -1):=hid (by rw[HO.out,if_neg (fun h=>hf6 h.1)])
  have e6:(fk !=6)=true:=by simpa using hf6
  go_wp2;go_ret2;exact hid<|XK.out _ xD.out bX.out
def iZ(ver:Int)(ak:Option Addr)(nk ck:Nat)(al:Option Addr)(nl cl:Nat)(ar:Option Addr)(nr cr:Nat)(i j:Int)(f:ah.cD)(uw ug:Value):List Value:=
 [.int .i64 ver,.slice ak nk ck,.slice al nl cl,.slice ar nr cr,.int .i64 i,.int .i64 j,.string f.name,.string f.of,.string f.up,.int .i64 f.kind,.int .i64 f.lo,.int .i64 f.hi,uw,ug]
theorem eP{w:World}{F:Nat}{x0 x1 x2 x3 x4 x5 x6 x7 x8 x9 x10 x11 x12 x13:Value}{t:TypeId}(h:w.heap[F]?=some (.cells #[x0,x1,x2,x3,x4,x5,x6,x7,x8,x9,x10,x11,x12,x13] t (0,0))):
  (w.cell? ⟨F,0,none⟩=some x0/\w.cell? ⟨F,1,none⟩=some x1/\w.cell? ⟨F,2,none⟩=some x2/\w.cell? ⟨F,3,none⟩=some x3/\w.cell? ⟨F,4,none⟩=some x4/\w.cell? ⟨F,5,none⟩=some x5/\w.cell? ⟨F,6,none⟩=some x6/\w.cell? ⟨F,7,none⟩=some x7/\w.cell? ⟨F,8,none⟩=some x8/\w.cell? ⟨F,9,none⟩=some x9/\w.cell? ⟨F,10,none⟩=some x10/\w.cell? ⟨F,11,none⟩=some x11/\w.cell? ⟨F,12,none⟩=some x12/\w.cell? ⟨F,13,none⟩=some x13)/\∀i,w.frozen? ⟨F,i,none⟩=false:=
 ⟨⟨aN h 0,aN h 1,aN h 2,aN h 3,aN h 4,aN h 5,aN h 6,aN h 7,aN h 8,aN h 9,aN h 10,aN h 11,aN h 12,aN h 13⟩,dJ h⟩
theorem yT(x:ah.cA)(i j:Int)(f:ah.cD)(ak al ar:Option Addr)(ck cl cr:Nat)(uw ug:Value)(S:Nat->Prop)(w:World)(hv:d9 S w (.agg #[.int .i64 x.aL,.slice ak x.aA.length ck,.slice al x.aP.length cl,.slice ar x.aR.length cr]) x):
  Calls Tryz.prog 213 #[.agg (iZ x.aL ak x.aA.length ck al x.aP.length cl ar x.aR.length cr i j f uw ug).toArray] w fun e w'=>e=.returned (.bool (decide (ah.dI x i j<0)))/\BL w w':=by
 have HV:=hid (fun(W:World) (hW:BL w W)=>hv.keep (aD.below hW));clear hv;obtain⟨fn,fo,fu,fk,fl,fh,Ip,Iq⟩:=f;simp only[iZ];obtain⟨w1,hw1⟩:=bB (w.alloc (.cells #[.int .i64 x.aL,.slice ak x.aA.length ck,.slice al x.aP.length cl,.slice ar x.aR.length cr,.int .i64 i,.int .i64 j,.string fn,.string fo,.string fu,.int .i64 fk,.int .i64 fl,.int .i64 fh,uw,ug] 110));have bT:Hid (Below w.heap.size w w1):=hid Ab;have HX:Hid (∀W,BL w1 W->W.heap[w.heap.size]?=some (.cells #[.int .i64 x.aL,.slice ak x.aA.length ck,.slice al x.aP.length cl,.slice ar x.aR.length cr,.int .i64 i,.int .i64 j,.string fn,.string fo,.string fu,.int .i64 fk,.int .i64 fl,.int .i64 fh,uw,ug] 110 (0,0))):=hid (fun W hW=>(hW.block _ jH).trans wI);have HW:=hid hw1;clear hw1;have HU:=hid (p8 x i j _ S w1 (HV.out w1 bT.out));generalize ah.dI x i j=uz at*;obtain⟨⟨y0,y1,y2,y3,y4,y5,y6,y7,y8,y9,Fp,Fq,Fs,Ft⟩, -⟩:=eP (HX.out w1 aF);go_enter Tryz.func213,Tryz.ntmps213;go_upto_region 1 with fail;rw[<-HW.out];go_wp2_with fail;refine HU.out.mono ?_;rintro e w2 ⟨rfl,hb2⟩;have bX:=aU bT hb2;clear hb2;go_wp2;go_ret;exact⟨rfl,bX.out⟩
theorem QR{w:World}{g:Nat}{x0 x1 x2 x3 x4 x5 x6 x7 bd:Value}{tmps:Array Value}(h:w.heap[g]?=some (.cells #[x0,x1,x2,x3,x4,x5,x6,x7] 46 (0,0)))(hp:tmps[2]?=some (.pointer (some ⟨g,0,none⟩)))(hq:tmps[3]?=some bd):
  (results Tryz.f224 tmps).run Tryz.prog w=.ok (.tuple #[.agg #[x0,x1,x2,x3,x4,x5,x6,x7],bd]) w:=by
 obtain⟨⟨h0,h1,h2,h3,h4,h5,h6,h7⟩, -⟩:=dK h;simp[results,Tryz.results224,go_sem,hp,hq,h0,h1,h2,h3,h4,h5,h6,h7]
def jv(x:ah.cA)(i j:Int)(f:ah.cD):Int:=ah.bJ (ah.kd x (ah.dI x i j)) f.of
def Mp(x:ah.cA)(i j:Int)(f:ah.cD)(w:World)(e:Ending)(w':World):Prop:=
 ∃a1 n1 c1 a2 n2 c2,e=.returned (.tuple #[.agg (cF (jC x (ah.dI x i j) (jv x i j f)) (.slice a1 n1 c1) (.slice a2 n2 c2)).toArray,.bool (ah.hasB x (ah.dI x i j) (jv x i j f))])/\BL w w'
theorem XM{p:Prop}(h:p:=by
  simp only[Value.agg.injEq,Array.mk.injEq,List.cons.injEq,Value.slice.injEq] at hvf
  exact hvf.2.1.2.2):p:=h
theorem KQ(x:ah.cA)(i j:Int)(f:ah.cD)(ak al ar:Option Addr)(ck cl cr:Nat)(uw ug:Value)(S:Nat->Prop)(w:World)(hv:d9 S w (.agg #[.int .i64 x.aL,.slice ak x.aA.length ck,.slice al x.aP.length cl,.slice ar x.aR.length cr]) x)(hi:0<=i/\i<x.aA.length)(hup:0<=ah.dI x i j):
  Calls Tryz.prog 224 #[.agg (iZ x.aL ak x.aA.length ck al x.aP.length cl ar x.aR.length cr i j f uw ug).toArray] w (Mp x i j f w):=by
 refine Calls.mono (R:=fun e w'=>Hid (Mp x i j f w e w')) ?_ (fun _ _ h=>h.out);have HV:=hid (fun(W:World) (hW:BL w W)=>hv.keep (aD.below hW));have hlt:=ah.tY x i j hi.1;obtain⟨o,ho⟩:∃o:Nat,ah.dI x i j=(o:Int):=⟨(ah.dI x i j).toNat,aB⟩;have hok:o<x.aA.length:=aB
 have HTP:Hid (∀e w' a1 n1 c1 a2 n2 c2,e=.returned (.tuple #[.agg (cF (jC x o (ah.bJ (ah.kd x o) f.of)) (.slice a1 n1 c1) (.slice a2 n2 c2)).toArray,.bool (ah.hasB x o (ah.bJ (ah.kd x o) f.of))])->BL w w'->Mp x i j f w e w'):=hid (fun e w' a1 n1 c1 a2 n2 c2 he hb=>⟨a1,n1,c1,a2,n2,c2,by unfold jv;rw[ho];exact he,hb⟩);generalize Mp x i j f w=TP at*;obtain⟨Om,JX,al',SI,Oo,Oq,hvf,hk, -, -,hsk, -, -⟩:=hv.form
 obtain⟨-,e1, -, -⟩:x.aL=x.aL/\ak=Om/\True/\True:=by
  simp only[Value.agg.injEq,Array.mk.injEq,List.cons.injEq,Value.slice.injEq] at hvf;exact⟨rfl,hvf.2.1.1,trivial,trivial⟩
 subst e1
 have e2:ck=JX:=by
  exact XM
 subst e2;clear hvf hv;obtain⟨nK, -,k0,k1,k2,uf,k3,kT⟩:=hk.at hok;obtain⟨af,cf,rfl, -, -, -⟩:=kT.form;have D5:=hid (fun(s:ByteArray) (W:World) (hW:BL w W)=>lQ x.aA[o] s _ S W (kT.keep (aD.below hW)));have LK:Hid (ah.kd x o=x.aA[o]):=hid (dU hok)
 have Fk:Hid (∀W,BL w W->W.cell? ⟨bL ak,bP ak+o*4,none⟩=some (.string x.aA[o].name)/\W.cell? ⟨bL ak,bP ak+o*4+1,none⟩=some (.int .i64 x.aA[o].lo)/\W.cell? ⟨bL ak,bP ak+o*4+2,none⟩=some (.int .i64 x.aA[o].hi)/\W.cell? ⟨bL ak,bP ak+o*4+3,none⟩=some (.slice af x.aA[o].aG.length cf)):=hid (fun W hW=>
   ⟨(hW.cell (p:=⟨bL ak,bP ak+o*4,none⟩) nK).trans k0,(hW.cell (p:=⟨bL ak,bP ak+o*4+1,none⟩) nK).trans k1,(hW.cell (p:=⟨bL ak,bP ak+o*4+2,none⟩) nK).trans k2,(hW.cell (p:=⟨bL ak,bP ak+o*4+3,none⟩) nK).trans k3⟩)
 rw[LK.out] at HTP;clear k0 k1 k2 k3 kT hk LK;generalize x.aA[o]=kd at*;obtain⟨kn,BZ,B6,A8⟩:=kd;obtain⟨fn,fo,fu,fk,fl,fh,Ip,Iq⟩:=f;simp only[kH] at D5;simp only at HTP Fk;simp only[iZ];have HFo:=hid (D5.out fo);generalize ah.bJ ⟨kn,BZ,B6,A8⟩ fo=tz at*;generalize A8.length=nf at*;clear D5;obtain⟨w1,hw1⟩:=bB ((w.alloc (.cells #[.int .i64 x.aL,.slice ak x.aA.length ck,.slice al x.aP.length cl,.slice ar x.aR.length cr,.int .i64 i,.int .i64 j,.string fn,.string fo,.string fu,.int .i64 fk,.int .i64 fl,.int .i64 fh,uw,ug] 110)).alloc (.cells #[.string {data:=#[]},.string {data:=#[]},.string {data:=#[]},.int .i64 0,.int .i64 0,.int .i64 0,.slice none 0 0,.slice none 0 0] 46));have bT:Hid (Below w.heap.size w w1):=hid En;have HX:Hid (∀W,BL w1 W->W.heap[w.heap.size]?=some (.cells #[.int .i64 x.aL,.slice ak x.aA.length ck,.slice al x.aP.length cl,.slice ar x.aR.length cr,.int .i64 i,.int .i64 j,.string fn,.string fo,.string fu,.int .i64 fk,.int .i64 fl,.int .i64 fh,uw,ug] 110 (0,0))):=hid (fun W hW=>(hW.block _ (by rw[hw1];simp;omega)).trans Y7);have HG:Hid (∀W,BL w1 W->W.heap[w.heap.size+1]?=some (.cells #[.string {data:=#[]},.string {data:=#[]},.string {data:=#[]},.int .i64 0,.int .i64 0,.int .i64 0,.slice none 0 0,.slice none 0 0] 46 (0,0))):=hid (fun W hW=>(hW.block _ jH).trans OG);have HW:=hid hw1;clear hw1;have HU:=hid (p8 x i j _ S w1 (HV.out w1 bT.out));rw[ho] at HU;have hz1:w.heap.size<w1.heap.size:=aC (HX.out w1 aF);have ho0:(0:Int)<=o:=aB
 have Ie:(o:Int)<x.aA.length:=aB
 have hon:¬(o:Int)<0:=aB
 have Mq:=hid (fun(W:World) (hW:BL w W)=>mz x (o:Int) tz _ S W (HV.out W hW));have HTP2:Hid (∀e w' a1 n1 c1 a2 n2 c2,e=.returned (.tuple #[.agg (cF (jC x o tz) (.slice a1 n1 c1) (.slice a2 n2 c2)).toArray,.bool (ah.hasB x o tz)])->BL w w'->TP e w'):=HTP;clear HTP hup hlt;clear ho;obtain⟨⟨y0,y1,y2,y3,y4,y5,y6,y7,y8,y9,Fp,Fq,Fs,Ft⟩, -⟩:=eP (HX.out w1 aF);go_enter Tryz.func224,Tryz.ntmps224;go_upto_region 1 with fail;rw[<-HW.out];go_wp2_with fail;refine HU.out.mono ?_;rintro e w2 ⟨rfl,hb2⟩;have iE:Hid (BL w1 w2):=hid hb2;have bX:=aU bT hb2;clear hb2 y0 y1 y2 y3 y4 y5 y6 y7 y8 y9 Fp Fq Fs Ft HU;go_upto_region 4 with fail;have wR:=eO w2 ⟨w.heap.size,0,none⟩ (.int .i64 x.aL) fun xh=>(eP (HX.out xh.1 (cG iE.out xh.2))).1.1;have hq1:=eO w2 ⟨w.heap.size,1,none⟩ (.slice ak x.aA.length ck) fun xh=>(eP (HX.out xh.1 (cG iE.out xh.2))).1.2.1;have Ta:=eO w2 ⟨w.heap.size,2,none⟩ (.slice al x.aP.length cl) fun xh=>(eP (HX.out xh.1 (cG iE.out xh.2))).1.2.2.1;have hq3:=eO w2 ⟨w.heap.size,3,none⟩ (.slice ar x.aR.length cr) fun xh=>(eP (HX.out xh.1 (cG iE.out xh.2))).1.2.2.2.1;have hq7:=eO w2 ⟨w.heap.size,7,none⟩ (.string fo) fun xh=>(eP (HX.out xh.1 (cG iE.out xh.2))).1.2.2.2.2.2.2.2.1;have Mr:=eO w2 ⟨bL ak,bP ak+o*4,none⟩ (.string kn) fun xh=>(Fk.out xh.1 (cG bX.out xh.2)).1;have aau:=eO w2 ⟨bL ak,bP ak+o*4+1,none⟩ (.int .i64 BZ) fun xh=>(Fk.out xh.1 (cG bX.out xh.2)).2.1;have aav:=eO w2 ⟨bL ak,bP ak+o*4+2,none⟩ (.int .i64 B6) fun xh=>(Fk.out xh.1 (cG bX.out xh.2)).2.2.1;have QT:=eO w2 ⟨bL ak,bP ak+o*4+3,none⟩ (.slice af nf cf) fun xh=>(Fk.out xh.1 (cG bX.out xh.2)).2.2.2;refine aZ 16 (.quiet 0 (.quiet 1 (.quiet 2 (.quiet 3 (.quiet 4 (.quiet 5 (.quiet 6 (.quiet 7 (.quiet 8 (.quiet 9 (.quiet 10 (.quiet 11 (.one 12 (.one 13 (.quiet 14 (.quiet 15 .done)))))))))))))))) (BL w2) oL (by kernel_rfl) (aI aF 1) ?_;have Fu:=hid (aI (Below.refl w2.heap.size w2) 1);generalize w2.drewN 1=w3 at*
 iterate 12 refine fE ?_
 refine aT rfl ?_;go_wp2_with fail;refine(HFo.out w3 (cG bX.out Fu.out)).mono ?_;rintro e w4 ⟨rfl,hb4⟩;have Au:=aU Fu hb4;clear hb4;go_wp2_with fail;refine aJ (BL w2) (fun _ h=>h) Au.out ?_;refine aT rfl ?_;go_wp2_with fail;refine(Mq.out w4 (cG bX.out Au.out)).mono ?_;rintro e w5 ⟨a1,n1,c1,a2,n2,c2,rfl, -,jd⟩;have IE:=aU Au jd;clear jd;have EV:Hid (∀w',BL w w'->TP (.returned (.tuple #[.agg (cF (jC x o tz) (.slice a1 n1 c1) (.slice a2 n2 c2)).toArray,.bool (ah.hasB x o tz)])) w'):=hid (fun w' hb=>HTP2.out _ _ a1 n1 c1 a2 n2 c2 rfl hb);generalize ah.hasB x o tz=hb at*;generalize jC x o tz=g at*;obtain⟨gn,go,gu,gk,gl,gh,D6,ggs⟩:=g;simp only[cF] at EV ⊢;go_wp2_with fail;refine aJ (BL w2) (fun _ h=>h) IE.out ?_
 iterate 2 refine fE ?_
 refine bh ?_;try simp only[jZ,jP]
 clear wR hq1 Ta hq3 hq7 Mr aau aav QT;have jI:=aU iE IE.out;have iD:=aU bT jI.out;obtain⟨⟨g0,g1,g2,g3,g4,g5,g6,g7⟩,gf⟩:=dK (HG.out w5 jI.out);have HS:=hid (GS (HG.out w5 jI.out) (.string gn) (.string go) (.string gu) (.int .i64 gk) (.int .i64 gl) (.int .i64 gh) (.slice a1 n1 c1) (.slice a2 n2 c2));go_wp2;exact bodyPost_ret (QR HS.out.1 rfl rfl) rfl (hid (EV.out _ (iD.out.trans (Turns.below HS.out.2 iD.out.size (fun b hb=>by omega)))))
end Go.Proofs.YtibacilhkciihaaGreatDoor
