/- Part 8 of the walks and plain laws that the proof needs (packed). -/
import Derived.Test.YtohddpbgflgiaaaGreatDoorQ1
import Derived.Test.YtohddpbgflgiaaaGreatDoorQ4
import Derived.Test.YtohddpbgflgiaaaGreatDoorQ6
import Derived.Test.YtohddpbgflgiaaaGreatDoorQ7
set_option linter.all false
set_option maxRecDepth 100000
set_option maxHeartbeats 8000000
open Go.Proofs.Tryz
variable{p:Prop}
namespace Go.Proofs.YtohddpbgflgiaaaGreatDoor
open Go.RowKit
inductive Arg
 |num (n:Int)
 |str (s:ByteArray)
def pT(a:Arg):Value:=match a with
 | .num n=>.iface 3 (.int .i64 n)
 | .str s=>.iface 9 (.string s)
def argN:Arg->Nat
 | .num n=>1+aC.dN n
 | .str s=>1+s.size
def jK:Arg->Prop
 | .num n=> -1000000000000<=n/\n<=1000000000000
 | .str _=>True
abbrev Bf(S:Nat->Prop):=eA (fun _ u (x:Arg)=>u=pT x) S
theorem Bf.keep{S w w' v xs}(h:Bf S w v xs)(a:aH S w w'):Bf S w' v xs:=eA.keep h a fun _ _ h=>h
theorem Tn{α:Type}(g:α->Nat)(l:List α)(x:α):aC.bP g (l++[x])=aC.bP g l+g x:=by
 unfold aC.bP;rw[List.foldl_append];rfl
theorem oR{α:Type}(g:α->Nat)(l:List α){k:Nat}(h:k<l.length):aC.bP g (l.take (k+1))=aC.bP g (l.take k)+g l[k]:=by
 rw[yh h,Tn]
theorem vD{α:Type}(g:α->Nat):∀(l:List α) (a:Nat),l.foldl (fun n x=>n+g x) a=a+l.foldl (fun n x=>n+g x) 0
 |[],_=>rfl
 |x::l,a=>by
  simp only[List.foldl_cons];rw[vD g l (a+g x),vD g l (0+g x)];omega
theorem fU{α:Type}(g:α->Nat)(x:α)(l:List α):aC.bP g (x::l)=g x+aC.bP g l:=by
 unfold aC.bP;rw[List.foldl_cons,vD];omega
theorem j9{α:Type}(g:α->Nat)(l:List α)(k:Nat):aC.bP g (l.take k)<=aC.bP g l:=by
 have h:aC.bP g l=aC.bP g (l.take k)+aC.bP g (l.drop k):=by
  unfold aC.bP;conv=>lhs;rw[<-List.take_append_drop k l]
  rw[List.foldl_append,vD]
 omega
theorem sW{T e:TypeId}{B b:Nat}{p:Value}{a:List Value}{w w':World}(h:Lib.BuilderAt T e B b p a w)(c:BL w w'):Lib.BuilderAt T e B b p a w':=by
 obtain⟨f,v,d,g,i⟩:=h;exact⟨f,v,(c.block _ (aI d)).trans d,dZ (S:=fun _=>True) g (fun _ _=>trivial) (aH.below c),i⟩
theorem jA.below{B b n:Nat}{w w':World}(h:jA B b n w)(a:BL w w'):jA B b n w':=by
 obtain⟨l,c,d⟩:=h;exact⟨l,c,d.imp (fun h=>sW h a) (fun h=>sW h a)⟩
theorem Ou(n:Int)(w:World):(Instr.typeAssert (.iface 3 (.int .i64 n)) 20 3 true).run prog w=.ok (.tuple #[.int .i64 n,.bool true]) w:=by kernel_rfl
theorem Ov(s:ByteArray)(w:World):(Instr.typeAssert (.iface 9 (.string s)) 20 3 true).run prog w=.ok (.tuple #[.int .i64 0,.bool false]) w:=by kernel_rfl
theorem Ow(s:ByteArray)(w:World):(Instr.typeAssert (.iface 9 (.string s)) 20 9 true).run prog w=.ok (.tuple #[.string s,.bool true]) w:=by kernel_rfl
theorem aml(h:p:=by
  clear hd5 jZ
  go_wp2
  go_roundw
  case rel=>exact⟨k+1,aD,zG,HD5,iH⟩
  exact zI):p:=h
theorem Dw(word:ByteArray)(l:List Arg)(q:∀a∈l,jK a)(f:word.size+aC.bP argN l<=1000000000)(v:Value)(S:Nat->Prop)(w:World)(D:Bf S w v l)(N:LaidW w):
  CP 143 #[.string word,v] w fun e T=>∃s:ByteArray,e=.returned (.string s)/\s.size=word.size+aC.bP argN l+1/\BL w T:=by
 obtain⟨a,cap,rfl,U,O,P⟩:=D.form;have V:=hid D;have W:=hid q;have HN:=hid f;have X:=hid N;clear D q f N;obtain⟨w1,hw1⟩:=bJ (w.alloc (.cells #[.pointer none,.slice none 0 0] 211));have Q:Hid (Below w.heap.size w w1):=hid Cx;have E:Hid (jA w.heap.size w.heap.size 0 w1):=hid (by rw[hw1];exact⟨[],rfl,Lib.fresh_isBuilder _ _ w⟩);have Y:=hid hw1;clear hw1;go_enter func143,ntmps143;go_upto_region 2 with fail;rw[<-Y.out];go_wp2_with fail;refine(fe w.heap.size w.heap.size 0 word w1 E.out abn Q.out.size).mono ?_;rintro e w2 ⟨rfl,r,t, -⟩;have Z:Hid (jA w.heap.size w.heap.size (word.size+aC.bP argN (l.take 0)) w2):=hid (by simpa [aC.bP] using r);have cH:Hid (BL w w2):=hid (Q.out.trans t);clear r t;go_upto_region 4 with fail;go_loopw [14] (fun i wr=>∃k:Nat,k<=l.length/\i=.int .i64 (k:Int)/\Hid (jA w.heap.size w.heap.size (word.size+aC.bP argN (l.take k)) wr)/\Hid (BL w wr)) (fun i _=>l.length-(intOf i).toNat);case atStart=>exact⟨0,aD,rfl,Z,cH⟩
 case round=>
  obtain⟨k,hk,rfl,F,p⟩:=hrel;obtain⟨G,rfl⟩:=bJ (wr:World);by_cases j:k<l.length
  ·have aa:=zN k
   have ab:=zL k l.length
   obtain⟨x,hx, -,H⟩:=(Bf.keep V.out (aH.below p.out)).at j;subst H;have I:=hid (W.out _ (eV j));have u:=oR argN l j;have J:=j9 argN l (k+1);have g:Hid (word.size+aC.bP argN (l.take k)+argN l[k]=word.size+aC.bP argN (l.take (k+1))/\word.size+aC.bP argN (l.take (k+1))<=1000000000):=hid abn;clear u J;generalize l[k]=z at*;obtain⟨h,y⟩:=bJ (word.size+aC.bP argN (l.take k));rw[<-y] at F g;clear y;have A:=hid (Ft w.heap.size w.heap.size h 32 G F.out (by have:=g.out;omega) p.out.size);cases z with
   |num n=>
    have hb:=I.out
    simp only[jK] at hb
    simp only[argN] at g
    simp only[pT] at hx
    have ta:=Ou n
    go_wp2_with fail
    refine A.out.mono ?_
    rintro e w3 ⟨rfl,c,b⟩
    have m:Hid (BL w w3):=hid (p.out.trans b)
    have d:=hid c
    clear c b
    have HI:=hid (Y6 n aD aD w3 (X.out.next m.out))
    go_wp2_with fail
    refine HI.out.mono ?_
    rintro e w4 ⟨s,rfl,B,o⟩
    have R:=aR m o
    have K:Hid (jA w.heap.size w.heap.size (h+1) w4):=hid (d.out.below o)
    have C:=hid B
    clear B o
    go_wp2_with fail
    refine(fe w.heap.size w.heap.size (h+1) s w4 K.out (by have:=g.out;have:=C.out;omega) R.out.size).mono ?_
    rintro e w5 ⟨rfl,hd5,jZ, -⟩
    have iH:Hid (BL w w5):=hid (R.out.trans jZ)
    have HD5:Hid (jA w.heap.size w.heap.size (word.size+aC.bP argN (l.take (k+1))) w5):=hid (by
     have L:=g.out
     have h2:=C.out
     rw[<-L.1,<-h2]
     have:h+(1+s.size)=h+1+s.size:=aD
     rw[this];exact hd5)
    exact aml
   |str s=>
    simp only[argN] at g
    simp only[pT] at hx
    have ta:=Ov s
    have tb:=Ow s
    go_wp2_with fail
    refine A.out.mono ?_
    rintro e w3 ⟨rfl,c,b⟩
    have m:Hid (BL w w3):=hid (p.out.trans b)
    have d:=hid c
    clear c b
    go_wp2_with fail
    refine(fe w.heap.size w.heap.size (h+1) s w3 d.out (by have:=g.out;omega) m.out.size).mono ?_
    rintro e w5 ⟨rfl,hd5,jZ, -⟩
    have iH:Hid (BL w w5):=hid (m.out.trans jZ)
    have HD5:Hid (jA w.heap.size w.heap.size (word.size+aC.bP argN (l.take (k+1))) w5):=hid (by
     have L:=g.out
     rw[<-L.1]
     have:h+(1+s.size)=h+1+s.size:=aD
     rw[this];exact hd5)
    exact aml
  ·have M:k=l.length:=by omega
   subst M;have d:Hid (jA w.heap.size w.heap.size (word.size+aC.bP argN l) G):=hid (by have:=F.out;rwa [zxw] at this);have nM:=hid (Dv w.heap.size w.heap.size _ G d.out p.out.size);go_wp2_with fail;refine nM.out.mono ?_;rintro e w3 ⟨s,rfl,B,b⟩;have C:=hid B;have m:=hid (p.out.trans b);have ad:s.size<=1000000000:=abn
   clear B b;go_wp2;go_ret;refine⟨_,rfl,?_,m.out⟩;rw[<-C.out];exact zxc
def dash:ByteArray:=⟨#[45]⟩
def jU(s:ByteArray):ByteArray:=if s=aC.nil then dash else s
theorem nD(s:ByteArray):(jU s).size=aC.eF s:=by
 unfold jU aC.eF;split<;>rfl
theorem agi(s:ByteArray)(g:Nat)(w:World)(h0:w.cell? ⟨g,0,none⟩=some (.string s))(h1:w.cell? ⟨g,1,none⟩=some (.string {data:=#[45]})):
  CP 189 #[.slice (some ⟨g,0,none⟩) 2 2] w fun e c=>e=.returned (.string (jU s))/\w=c:=by
 go_enter func189,ntmps189;go_upto_region 3 with fail;go_loopw [8] (fun i wr=>∃k:Nat,k<=1/\i=.int .i64 (k:Int)/\Hid (k=1->s=aC.nil)/\w=wr) (fun i _=>2-(intOf i).toNat);case atStart=>exact⟨0,aD,rfl,hid fun h=>absurd h aD,rfl⟩
 case round=>
  obtain⟨k,f,rfl,d,rfl⟩:=hrel;have b:k=0\/k=1:=aD
  rcases b with rfl|rfl
  ·by_cases a:s=aC.nil
   ·subst a
    unfold aC.nil at*;go_wp2;go_roundw;case rel=>exact⟨1,aD,by first|trivial|rfl,by first|exact hid trivial|exact hid (fun _=>trivial)|exact hid (fun _=>rfl),by first|trivial|rfl⟩
    simp[intOf]
   ·have j:=nZ a
    have HE:Hid (jU s=s):=hid (if_neg a);exact amd
  ·have a:=d.out rfl
   have HE:Hid (jU s={data:=#[45]}):=hid (if_pos a);clear a;exact amd
theorem Aj(s:ByteArray)(w:World):CB 145 #[.string s] w (.string (jU s)):=by
 have a:=hid (agi s w.heap.size (w.alloc (.cells #[.string s,.string {data:=#[45]}] 9)) bH bH);go_enter func145,ntmps145;go_wp2_with fail;refine a.out.mono ?_;exact amA
theorem xK(W:World)(l:List Arg)(b:l.length<=1000)(T:TypeId):Bf (fun _=>True) (W.alloc (.cells (l.map pT).toArray T)) (.slice (some ⟨W.heap.size,0,none⟩) l.length l.length) l:=by
 refine⟨some ⟨W.heap.size,0,none⟩,l.length,rfl,fun _=>⟨_,_,rfl⟩,aL,Wy,fun _=>trivial,fun j a=>⟨pT l[j],?_,rfl⟩⟩;have e:(⟨bM (some ⟨W.heap.size,0,none⟩),bT (some ⟨W.heap.size,0,none⟩)+j,none⟩:Addr)=⟨W.heap.size,j,none⟩:=by simp[bM,bT]
 rw[e,aP (bD W _ rfl)];simp[lN a]
theorem pF:∀(f n:Nat),aC.xB f n<=f+1
 |0,n=>by unfold aC.xB;omega
 |f+1,n=>by
  unfold aC.xB;split
  ·omega
  ·have:=pF f (n / 10);omega
theorem dW(n:Int):aC.dN n<=42:=by
 unfold aC.dN;have:=pF 40 n.natAbs;split<;>omega
theorem dK{s:ByteArray}(h:aC.bE s=true):s.size<=12:=aC.jy h
theorem pG{s:ByteArray}(h:s.size<=12):aC.eF s<=12:=aC.lC h
def La(n:Nat)(w:World)(e:Ending)(w':World):Prop:=∃s:ByteArray,e=.returned (.string s)/\s.size=n/\BL w w'
theorem iK(word:ByteArray)(l:List Arg)(c:∀a∈l,jK a)(b:word.size+aC.bP argN l<=1000000000)(g:l.length<=1000)(W:World)(T:TypeId)(h:LaidW W)(w:World)(d:BL w W)(n:Nat)(i:word.size+aC.bP argN l+1=n):
  CP 143 #[.string word,.slice (some ⟨W.heap.size,0,none⟩) l.length l.length] (W.alloc (.cells (l.map pT).toArray T)) (La n w):=by
 refine(Dw word l c b _ (fun _=>True) _ (xK W l g T) (h.next (aG.alloc aL _))).mono ?_;rintro e k ⟨s,rfl,j,f⟩;exact⟨s,rfl,by rw[<-i];exact j,(d.alloc d.size _).trans (f.mono (by have:=d.size;simp;omega))⟩
theorem mS{α:Type}(g:α->Nat):aC.bP g []=0:=rfl
theorem aex(h:p:=by
  rw[hs,hw,hF]
  refine⟨fun a ha=>?_,aD,aD⟩
  simp only[mr,Na,or_false] at ha
  rcases ha with rfl|rfl<;>first|trivial|(simp only[jK];omega)):p:=h
theorem agj(c o up _od:ByteArray)(b d:Int)(e:List ByteArray)(f:List Int)(h:c.size<=12)(h1: -1048576<=b)(h2:b<=1048576):(∀a∈([.str c,.num b]:List Arg),jK a)/\({data:=#[107,101,121]}:ByteArray).size+aC.bP argN [.str c,.num b]<=1000000000/\({data:=#[107,101,121]}:ByteArray).size+aC.bP argN [.str c,.num b]+1=aC.cL ⟨c,o,up,0,b,d,e,f⟩:=by
 have hs:aC.bP argN [.str c,.num b]=(1+c.size)+((1+aC.dN b)):=zT8
 have hw:({data:=#[107,101,121]}:ByteArray).size=3:=rfl;have g:=dW b;have hF:aC.cL ⟨c,o,up,0,b,d,e,f⟩=3+1+c.size+1+(1+aC.dN b):=rfl;exact aex
theorem adC(h:p:=by
  rw[hs,hw,hF]
  refine⟨fun a ha=>?_,aD,aD⟩
  simp only[mr,Na,or_false] at ha
  rcases ha with rfl|rfl|rfl<;>first|trivial|(simp only[jK];omega)):p:=h
theorem agk(d o up _od:ByteArray)(b c:Int)(e:List ByteArray)(f:List Int)(i:d.size<=12)(h1: -1048576<=b)(h2:b<=c)(j:c<=1048576):(∀a∈([.str d,.num b,.num c]:List Arg),jK a)/\({data:=#[110,117,109]}:ByteArray).size+aC.bP argN [.str d,.num b,.num c]<=1000000000/\({data:=#[110,117,109]}:ByteArray).size+aC.bP argN [.str d,.num b,.num c]+1=aC.cL ⟨d,o,up,2,b,c,e,f⟩:=by
 have hs:aC.bP argN [.str d,.num b,.num c]=(1+d.size)+((1+aC.dN b)+((1+aC.dN c))):=zT8
 have hw:({data:=#[110,117,109]}:ByteArray).size=3:=rfl;have g:=dW b;have h:=dW c;have hF:aC.cL ⟨d,o,up,2,b,c,e,f⟩=3+1+d.size+1+(1+aC.dN b+(1+aC.dN c)):=rfl;exact adC
theorem agl(b o up _od:ByteArray)(c d:Int)(e:List ByteArray)(f:List Int)(g:b.size<=12)(h:o.size<=12):(∀a∈([.str b,.str o]:List Arg),jK a)/\({data:=#[115,117,109]}:ByteArray).size+aC.bP argN [.str b,.str o]<=1000000000/\({data:=#[115,117,109]}:ByteArray).size+aC.bP argN [.str b,.str o]+1=aC.cL ⟨b,o,up,6,c,d,e,f⟩:=by
 have hs:aC.bP argN [.str b,.str o]=(1+b.size)+((1+o.size)):=zT8
 have hw:({data:=#[115,117,109]}:ByteArray).size=3:=rfl;have hF:aC.cL ⟨b,o,up,6,c,d,e,f⟩=3+1+b.size+1+(1+o.size):=rfl;exact aex
theorem agm(d o up _od:ByteArray)(b c:Int)(e:List ByteArray)(f:List Int)(m:d.size<=12)(n:o.size<=12)(p:up.size<=12)(h1:0<=b)(h2:b<=c)(q:c<=1048576):(∀a∈([.str d,.str up,.str o,.num b,.num c]:List Arg),jK a)/\({data:=#[115,104,97,114,101]}:ByteArray).size+aC.bP argN [.str d,.str up,.str o,.num b,.num c]<=1000000000/\({data:=#[115,104,97,114,101]}:ByteArray).size+aC.bP argN [.str d,.str up,.str o,.num b,.num c]+1=aC.cL ⟨d,o,up,7,b,c,e,f⟩:=by
 have h:aC.bP argN [.str d,.str up,.str o,.num b,.num c]=(1+d.size)+((1+up.size)+((1+o.size)+((1+aC.dN b)+((1+aC.dN c))))):=zT8
 have i:({data:=#[115,104,97,114,101]}:ByteArray).size=5:=rfl;have j:=dW b;have k:=dW c;have l:aC.cL ⟨d,o,up,7,b,c,e,f⟩=5+1+d.size+1+(1+up.size+(1+o.size)+(1+aC.dN b)+(1+aC.dN c)):=rfl;rw[h,i,l];refine⟨fun a g=>?_,aD,aD⟩;simp only[mr,Na,or_false] at g;rcases g with rfl|rfl|rfl|rfl|rfl<;>first|trivial|(simp only[jK];omega)
theorem agn(b o up _od:ByteArray)(c d:Int)(e:List ByteArray)(f:List Int)(g:b.size<=12)(h:o.size<=12)(i:up.size<=12):(∀a∈([.str b,.str up,.str o]:List Arg),jK a)/\({data:=#[99,111,112,121]}:ByteArray).size+aC.bP argN [.str b,.str up,.str o]<=1000000000/\({data:=#[99,111,112,121]}:ByteArray).size+aC.bP argN [.str b,.str up,.str o]+1=aC.cL ⟨b,o,up,8,c,d,e,f⟩:=by
 have hs:aC.bP argN [.str b,.str up,.str o]=(1+b.size)+((1+up.size)+((1+o.size))):=zT8
 have hw:({data:=#[99,111,112,121]}:ByteArray).size=4:=rfl;have hF:aC.cL ⟨b,o,up,8,c,d,e,f⟩=4+1+b.size+1+(1+up.size+(1+o.size)):=rfl;exact adC
theorem Gd(h:p:=by
  rw[hs,hw,hF]
  refine⟨fun a ha=>?_,aD,aD⟩
  simp only[mr,Na,or_false] at ha
  rcases ha with rfl|rfl|rfl|rfl<;>first|trivial|(simp only[jK];omega)):p:=h
theorem agp(d o up e:ByteArray)(b c:Int)(f:List ByteArray)(g:List Int)(k:d.size<=12)(l:aC.eF o<=12)(h:e.size=aC.eF o)(h1: -1048576<=b)(h2:b<=c)(m:c<=1048576):(∀a∈([.str d,.str e,.num b,.num c]:List Arg),jK a)/\({data:=#[114,101,102]}:ByteArray).size+aC.bP argN [.str d,.str e,.num b,.num c]<=1000000000/\({data:=#[114,101,102]}:ByteArray).size+aC.bP argN [.str d,.str e,.num b,.num c]+1=aC.cL ⟨d,o,up,1,b,c,f,g⟩:=by
 have hs:aC.bP argN [.str d,.str e,.num b,.num c]=(1+d.size)+((1+e.size)+((1+aC.dN b)+((1+aC.dN c)))):=zT8
 have hw:({data:=#[114,101,102]}:ByteArray).size=3:=rfl;have i:=dW b;have j:=dW c;have hF:aC.cL ⟨d,o,up,1,b,c,f,g⟩=3+1+d.size+1+(1+aC.eF o+(1+aC.dN b)+(1+aC.dN c)):=rfl;exact Gd
theorem agq(d o up e:ByteArray)(b c:Int)(f:List ByteArray)(g:List Int)(k:d.size<=12)(l:aC.eF o<=12)(h:e.size=aC.eF o)(h1: -1048576<=b)(h2:b<=c)(m:c<=1048576):(∀a∈([.str d,.str e,.num b,.num c]:List Arg),jK a)/\({data:=#[100,97,121]}:ByteArray).size+aC.bP argN [.str d,.str e,.num b,.num c]<=1000000000/\({data:=#[100,97,121]}:ByteArray).size+aC.bP argN [.str d,.str e,.num b,.num c]+1=aC.cL ⟨d,o,up,4,b,c,f,g⟩:=by
 have hs:aC.bP argN [.str d,.str e,.num b,.num c]=(1+d.size)+((1+e.size)+((1+aC.dN b)+((1+aC.dN c)))):=zT8
 have hw:({data:=#[100,97,121]}:ByteArray).size=3:=rfl;have i:=dW b;have j:=dW c;have hF:aC.cL ⟨d,o,up,4,b,c,f,g⟩=3+1+d.size+1+(1+aC.eF o+(1+aC.dN b)+(1+aC.dN c)):=rfl;exact Gd
theorem agr(d o up e:ByteArray)(b c:Int)(f:List ByteArray)(g:List Int)(k:d.size<=12)(l:aC.eF o<=12)(h:e.size=aC.eF o)(h1: -1048576<=b)(h2:b<=c)(m:c<=1048576):(∀a∈([.str d,.str e,.num b,.num c]:List Arg),jK a)/\({data:=#[115,116,101,112]}:ByteArray).size+aC.bP argN [.str d,.str e,.num b,.num c]<=1000000000/\({data:=#[115,116,101,112]}:ByteArray).size+aC.bP argN [.str d,.str e,.num b,.num c]+1=aC.cL ⟨d,o,up,5,b,c,f,g⟩:=by
 have hs:aC.bP argN [.str d,.str e,.num b,.num c]=(1+d.size)+((1+e.size)+((1+aC.dN b)+((1+aC.dN c)))):=zT8
 have hw:({data:=#[115,116,101,112]}:ByteArray).size=4:=rfl;have i:=dW b;have j:=dW c;have hF:aC.cL ⟨d,o,up,5,b,c,f,g⟩=4+1+d.size+1+(1+aC.eF o+(1+aC.dN b)+(1+aC.dN c)):=rfl;exact Gd
def om(S:Nat->Prop)(w:World)(v:Value)(xs:List Arg):Prop:=
 w.ownsRow 0 20 1 v xs.length (xs.map pT)/\∀b,v.ownBlock=some b->S b
theorem yR:fA (α:=List Arg) om:=
 ⟨fun h k=>⟨dZ h.1 h.2 k,h.2⟩,fun h k=>⟨h.1,fun b a=>k b (h.1.lt b a).2 (h.2 b a)⟩⟩
theorem om.sl{S:Nat->Prop}{w:World}{v:Value}{xs:List Arg}(h:om S w v xs):Bf S w v xs:=
 oV h.1 h.2 bH (fun j a b=>by simp)
theorem Tryz.ajh:kF prog 218 20 1 16:=jV (z:=.nilIface) zK zK rfl aD aD
theorem Y8(a:Arg):(pT a).oneCell'=true:=by cases a<;>rfl
theorem Gw(w:World)(x y:Arg):om (w.heap.size<=·) (w.alloc (.cells #[pT x,pT y] 20)) (.slice (some ⟨w.heap.size,0,none⟩) 2 2) [x,y]:=by
 refine⟨⟨bH,.inr ⟨w.heap.size,2,#[pT x,pT y],rfl,zxa _,heap_alloc_new w _,aL,Wy,bH,?_⟩⟩,fun b a=>by simp[Value.ownBlock] at a;omega⟩;simp
section
variable {P:Program} {t e:TypeId} {bytes:Nat} {α:Type} {RR:(Nat->Prop)->World->Value->α->Prop} {w:World} {ops:Array Oper} {rest:List Oper} {o:Oper} {a:Act} {Q:Exit->Act->World->Prop}
theorem Bg(l:o.guard=none)(s x:Operand)
  (C:o.op=.call {callee:=.builtin .append,args:=#[s,x],argTypes:=#[t,t]})(D:kF P t 20 1 bytes)
  {S:Nat->Prop}{w1:World}{v:Value}{xs:List Arg}(E:a.eval s=v)(e:om S w1 v xs)(r:BL w1 w)
  {n:Option Addr}{m c:Nat}(hx:a.eval x=.slice n m c){T:Nat->Prop}{ys:List Arg}(F:Bf T w (.slice n m c) ys)
  (f:xs.length+m<=1000000000)
  (h:∀k g,om (Grow S w1.heap.size) g k (xs++ys)->Turns (fun b=>some b=v.ownBlock) w g->wpList P ops Q rest (a.put o.dst k) g):
  wpList P ops Q (o::rest) a w:=by
 obtain⟨rfl,p,z,A,l2,G⟩:=eA.news F
 have B:z=ys.map pT:=by
  refine alW (by simp[A]) (fun i q g2=>?_);simpa using G i q Kh
 have hsz:=r.size;have f2':w.ownsRow 0 20 1 v xs.length (xs.map pT):=dZ (S:=fun _=>True) e.1 (fun _ _=>trivial) (aH.below r);refine amL l s x C D E f2' n ys.length c hx p z (by simpa using A) l2 ?_ f (zxa _) (fun k g q g2 j=>h k g ⟨?_,fun b d=>?_⟩ (Turns.gy g2 fun b d=>d.symm))
 ·rw[B];intro u H;obtain⟨y,_,rfl⟩:=List.mem_map.1 H;exact Y8 y
 ·rw[rK,zxj,<-B];exact q
 ·rcases j with j|j
  ·rw[j] at d;exact .inl ⟨e.2 b d,(e.1.lt b d).2⟩
  ·rw[j] at d;exact .inr (by have:=oO d;omega)
end
def gY:List ByteArray->List Int->List Arg
 |w::ws,g::gs=>.str w::.num g::gY ws gs
 |_,_=>[]
theorem Dx:∀(a:List ByteArray) (b:List Int),(gY a b).length<=2*a.length
 |[],_=>by simp[gY]
 |w::a,[]=>by simp[gY]
 |w::a,g::b=>by have:=Dx a b;simp[gY];omega
theorem Bh:∀(a:List ByteArray) (b:List Int) (x:ByteArray) (y:Int),a.length=b.length->gY (a++[x]) (b++[y])=gY a b++[.str x,.num y]
 |[],[],x,y,_=>rfl
 |[],g::b,_,_,h=>by simp at h
 |w::a,[],_,_,h=>by simp at h
 |w::a,g::b,x,y,h=>by
  have:=Bh a b x y Fa;simp only[List.cons_append,gY,this]
theorem Lb(a:List ByteArray)(b:List Int){k:Nat}(h1:k<a.length)(h2:k<b.length):gY (a.take (k+1)) (b.take (k+1))=gY (a.take k) (b.take k)++[.str a[k],.num b[k]]:=by
 rw[yh h1,yh h2,Bh _ _ _ _ jo]
theorem Dy:∀(a:List ByteArray) (b:List Int),aC.bP argN (gY a b)=aC.je a b
 |[],_=>rfl
 |w::a,[]=>rfl
 |w::a,g::b=>by
  have:=Dy a b;simp only[gY,fU,this,argN,aC.je];omega
theorem Gx:∀(c:List ByteArray) (d:List Int),(∀g∈d,aC.tE g 0 1048576=true)->∀a∈gY c d,jK a
 |[],_,_,a,b=>by simp[gY] at b
 |w::c,[],_,a,b=>by simp[gY] at b
 |w::c,g::d,h,a,b=>by
  simp only[gY,mr] at b;rcases b with rfl|rfl|b
  ·trivial
  ·have:=eM (h g bH);simp only[jK];omega
  ·exact Gx c d (fun g e=>h g (by simp[e])) a b
theorem Dz:∀(a:List ByteArray) (b:List Int),(∀w∈a,w.size<=12)->aC.je a b<=60*a.length
 |[],_,_=>by simp[aC.je]
 |w::a,[],_=>by simp[aC.je]
 |w::a,g::b,h=>by
  have:=Dz a b (fun w c=>h w (by simp[c]));have d:=h w bH;have e:=dW g;simp only[aC.je,zxg];omega
theorem Y9(d o up:ByteArray)(b:List ByteArray)(c:List Int)(g i:Int)(m:d.size<=12)(h:aC.kR b c=true):
  (∀a∈(.str d::.num b.length::gY b c:List Arg),jK a)/\({data:=#[112,105,99,107]}:ByteArray).size+aC.bP argN (.str d::.num b.length::gY b c)<=1000000000/\({data:=#[112,105,99,107]}:ByteArray).size+aC.bP argN (.str d::.num b.length::gY b c)+1=aC.cL ⟨d,o,up,3,g,i,b,c⟩:=by
 obtain⟨p1,p2,p3,p4,p5⟩:=lZ h;have j:=(eM p2).2;have k:aC.bP argN (.str d::.num b.length::gY b c)=1+d.size+(1+aC.dN b.length+aC.je b c):=by simp only[fU,argN,Dy]
 have f:({data:=#[112,105,99,107]}:ByteArray).size=4:=rfl;have hd:=dW b.length;have n:=Dz b c (fun w f=>dK (alU.1 p5 w f));have l:aC.cL ⟨d,o,up,3,g,i,b,c⟩=4+1+d.size+1+(1+aC.dN b.length+aC.je b c):=rfl;rw[k,f,l];refine⟨fun a e=>?_,aD,aD⟩;rcases mr.1 e with rfl|e
 ·trivial
 ·rcases mr.1 e with rfl|e
  ·simp only[jK];omega
  ·exact Gx b c p1 a e
theorem kW{c d a b:Int}(h:aC.ig c d a b=true):a<=c/\c<=d/\d<=b:=by
 unfold aC.ig at h;simp only[pR,oW] at h;exact⟨h.1.1,h.1.2,h.2⟩
theorem ae9(h:p:=by
  refine aZ rfl ?_
  go_wp2_with fail
  refine(HNd.out w2).mono ?_
  rintro e w3 ⟨rfl,hb3⟩
  have cN:=aR cH hb3
  go_wp2_with fail
  refine aN (BL w1) (fun _ h=>h) cN.out ?_
  refine bC rfl ?_
  intro hne
  go_big_quiet_step (fail)
  refine iU ?_
  have al7:=hid (pQ.out w3 (bO bL.out cN.out))
  refine aZ rfl ?_
  go_wp2_with fail
  refine aN (BL w1) (fun _ h=>h) (cN.out.alloc cN.out.size _) ?_
  refine bG ?_
  try simp only[jW,jH]
  go_wp2_with fail
  refine al7.out.mono ?_
  rintro e w4 ⟨s,rfl,hs,hb4⟩
  have HS:=hid hs
  have gX:=hid hb4
  go_wp2
  go_ret
  exact⟨s,rfl,HS.out,gX.out⟩):p:=h
theorem Zo(h:p:=by
  simp only[zxt,List.map_nil,pT,zxg,List.length_nil] at pQ
  go_enter func144,ntmps144
  go_upto_region 1 with fail
  rw[<-HW.out]
  go_wp2_with fail
  refine pQ.out.mono ?_
  rintro e w3 ⟨s,rfl,hs,hb3⟩
  have HS:=hid hs
  have cN:=hid hb3
  go_wp2
  go_ret
  exact⟨s,rfl,HS.out,cN.out⟩):p:=h
theorem QI(h:p:=by
  clear g1 g2 g3
  simp only[zxt,List.map_nil,pT,zxg,List.length_nil] at pQ
  go_enter func144,ntmps144
  go_upto_region 1 with fail
  rw[<-HW.out]
  go_wp2_with fail
  refine pQ.out.mono ?_
  rintro e w3 ⟨s,rfl,hs,hb3⟩
  have HS:=hid hs
  have cN:=hid hb3
  clear hs hb3
  go_wp2
  go_ret
  exact⟨s,rfl,HS.out,cN.out⟩):p:=h
theorem aeC(h:p:=by
  rintro e w4 ⟨s,rfl,hs,hb4⟩
  have HS:=hid hs
  have gX:=hid hb4
  clear hs hb4
  go_wp2
  go_ret
  exact⟨s,rfl,HS.out,gX.out⟩):p:=h
theorem Tr(f:aC.dA)(hf:aC.dD f=true)(uw ug:Value)(S T:Nat->Prop)(w:World)(h1:gE S w uw f.cV)(h2:bB T w ug f.bY)(hl:LaidW w):
  CP 144 #[.agg (dh f uw ug).toArray] w (La (aC.cL f) w):=by
 obtain⟨ad,D⟩:=qa hf;obtain⟨K3,YZ⟩:=aC.mQ hf;have q:=dK ad;obtain⟨aw,cw,rfl,ae, -, -⟩:=h1.form;obtain⟨ag,cg,rfl,af, -, -⟩:=h2.form;have CV:=fun k (h:k<9)=>hl.cV k h;obtain⟨w1,hw1⟩:=bJ (w.alloc (.cells (dh f (.slice aw f.cV.length cw) (.slice ag f.bY.length cg)).toArray 85));have bL:Hid (Below w.heap.size w w1):=hid Cx;have A:Hid (LaidW w1):=hid (hl.next bL.out);have HK:Hid (∀W,BL w1 W->W.heap[w.heap.size]?=some (.cells (dh f (.slice aw f.cV.length cw) (.slice ag f.bY.length cg)).toArray 85 (0,0))):=hid (fun W hW=>(hW.block _ J6).trans BJ);have P:=hid (h1.keep (aH.below bL.out));have Q:=hid (h2.keep (aH.below bL.out));have d:w.heap.size<w1.heap.size:=J6
 have S9:Hid (LaidW w):=hid hl;have ay:5<=w1.heap.size:=A.out.size;obtain⟨L,hFN⟩:=bJ (aC.cL f);rw[<-hFN];clear h1 h2 hl ad CV;obtain⟨c,o,up,k,g,m,r,t⟩:=f;simp only[dh] at hw1 HK K3 YZ q P Q ae af ⊢;have HW:=hid hw1;clear hw1;obtain⟨⟨G,H,R,U,I,J,N,O⟩, -⟩:=ez (HK.out w1 aG);have M:=hid D;have az:=hid hf;clear D hf;have:k=0\/k=1\/k=2\/k=3\/k=4\/k=5\/k=6\/k=7\/k=8:=aD
 rcases this with rfl|rfl|rfl|rfl|rfl|rfl|rfl|rfl|rfl
 ·have j:w1.cell? ⟨1,0,none⟩=some (.string {data:=#[107,101,121]}):=A.out.cV 0 aD
  have u:aC.tE g (-1048576) 1048576=true:=M.out;have a:=eM u;obtain⟨g1,g2,g3⟩:=agj c o up o g m r t q a.1 a.2;have pQ:=hid (iK {data:=#[107,101,121]} [.str c,.num g] g1 g2 bH w1 20 A.out w bL.out L WI);exact QI
 ·have j:w1.cell? ⟨1,1,none⟩=some (.string {data:=#[114,101,102]}):=A.out.cV 1 aD
  have u:(aC.bE o&&aC.ig g m 0 65536)=true:=M.out;obtain⟨v,z⟩:=zxv.1 u;have a:=kW z;have E:o.size<=12:=dK v;have B:=nD o;have V:aC.eF o<=12:=pG E;obtain⟨g1,g2,g3⟩:=agp c o up (jU o) g m r t q V B aD a.2.1 aD;have pQ:=hid (fun W (C:BL w W)=>iK {data:=#[114,101,102]} [.str c,.str (jU o),.num g,.num m] g1 g2 bH W 20 (S9.out.next C) w C L WI);clear g1 g2 g3;simp only[zxt,List.map_nil,pT,zxg,List.length_nil] at pQ;have HNd:=hid (fun W=>Aj o W);generalize jU o=od at*;clear B V;go_enter func144,ntmps144;go_upto_region 1 with fail;rw[<-HW.out];go_upto_region 21 with fail;have rW:=eC w1 ⟨w.heap.size,0,none⟩ (.string c) fun l=>(l.2.cell (p:=⟨w.heap.size,0,none⟩) d).trans G;have X:=eC w1 ⟨w.heap.size,1,none⟩ (.string o) fun l=>(l.2.cell (p:=⟨w.heap.size,1,none⟩) d).trans H;have VT:=eC w1 ⟨w.heap.size,4,none⟩ (.int .i64 g) fun l=>(l.2.cell (p:=⟨w.heap.size,4,none⟩) d).trans I;have Tq:=eC w1 ⟨w.heap.size,5,none⟩ (.int .i64 m) fun l=>(l.2.cell (p:=⟨w.heap.size,5,none⟩) d).trans J;refine bq 15 (.quiet 0 (.quiet 1 (.quiet 2 (.quiet 3 (.quiet 4 (.quiet 5 (.quiet 8 (.quiet 9 (.quiet 10 (.quiet 11 (.quiet 12 (.quiet 13 (.one 6 (.quiet 7 (.one 14 .done))))))))))))))) (BL w1) nK zK (aJ aG 1) ?_;have cH:=hid (aJ (Below.refl w1.heap.size w1) 1);generalize w1.drewN 1=w2 at*;clear G H R U I J N O j
  iterate 12 refine gF ?_
  refine aZ rfl ?_;go_wp2_with fail;refine(HNd.out w2).mono ?_;rintro e w3 ⟨rfl,hb3⟩;have cN:=aR cH hb3;clear hb3;go_wp2_with fail;refine aN (BL w1) (fun _ h=>h) cN.out ?_;refine gF ?_;have al7:=hid (pQ.out w3 (bO bL.out cN.out));refine aZ rfl ?_;go_wp2_with fail;refine aN (BL w1) (fun _ h=>h) (cN.out.alloc cN.out.size _) ?_;refine bG ?_;try simp only[jW,jH]
  clear rW X VT Tq;go_wp2_with fail;refine al7.out.mono ?_;exact aeC
 ·have j:w1.cell? ⟨1,2,none⟩=some (.string {data:=#[110,117,109]}):=A.out.cV 2 aD
  have u:aC.ig g m (-1048576) 1048576=true:=M.out;have a:=kW u;obtain⟨g1,g2,g3⟩:=agk c o up o g m r t q a.1 a.2.1 a.2.2;have pQ:=hid (iK {data:=#[110,117,109]} [.str c,.num g,.num m] g1 g2 bH w1 20 A.out w bL.out L WI);exact QI
 ·have j:w1.cell? ⟨1,3,none⟩=some (.string {data:=#[112,105,99,107]}):=A.out.cV 3 aD
  have u:aC.kR r t=true:=M.out;obtain⟨p1,p2,p3,p4,p5⟩:=lZ u;have am:=(eM p2).2;have HA:=hid (Y9 c o up r t g m q u);have HG:=hid p3;obtain⟨n,hn⟩:=bJ r.length;have Y:n=t.length:=hn.trans p3;rw[<-hn] at ae P HK N am HA;rw[<-Y] at af Q HK O;have HN:=hid hn;have Z:=hid Y;clear hn Y p1 p2 p3 p4 p5 u;obtain⟨w2,hw2⟩:=bJ (w1.alloc (.cells #[.iface 9 (.string c),.iface 3 (.int .i64 (n:Int))] 20));have cH:Hid (Below w1.heap.size w1 w2):=hid Ii;have Dc:Hid (om (w1.heap.size<=·) w2 (.slice (some ⟨w1.heap.size,0,none⟩) 2 2) [.str c,.num n]):=hid (by rw[hw2];exact Gw w1 (.str c) (.num n));have an:=hid hw2;clear hw2;rw[<-HN.out,<-Z.out] at HW ⊢;go_enter func144,ntmps144;go_upto_region 1 with fail;rw[<-HW.out];go_upto_region 9 with fail;rw[<-an.out];clear G H R U I J N O j;obtain⟨⟨G,H,R,U,I,J,N,O⟩, -⟩:=ez (HK.out w2 cH.out);go_upto_region 10 with fail;clear G H R U I J N O;go_loopw [4,51] (fun s i wr=>∃(k:Nat) (F:List Arg) (av:Option Addr) (cv:Nat),k<=n/\i=.int .i64 (k:Int)/\s=.slice av F.length cv/\Hid (F=.str c::.num n::gY (r.take k) (t.take k))/\Hid (om (w1.heap.size<=·) wr (.slice av F.length cv) F)/\Hid (BL w1 wr)) (fun _ i _=>n-(intOf i).toNat);case atStart=>exact⟨0,[.str c,.num n],_,_,aD,rfl,rfl,hid (by simp[gY]),Dc,cH⟩
  case round=>
   obtain⟨k,F,av,cv,hk,rfl,rfl,HX,HF,K⟩:=hrel;obtain⟨wo,rfl⟩:=bJ (wr:World);have aA:F.length<=1000:=by rw[HX.out];have:=Dx (r.take k) (t.take k);simp at this ⊢;omega
   by_cases hlt:k<n
   ·have aB:=zN k
    have aE:=zL k n
    have ah:k<r.length:=Nv
    have ai:k<t.length:=by rw[<-Z.out];exact hlt
    obtain⟨x,hx, -,ao⟩:=(gE.keep P.out (aH.below (K.out.mono aD|>fun h=>K.out))).at ah;obtain⟨y,hy, -,ap⟩:=(bB.keep Q.out (aH.below K.out)).at ai;subst ao;subst ap
    have ET:Hid (F++[.str r[k],.num t[k]]=.str c::.num n::gY (r.take (k+1)) (t.take (k+1))):=hid (by
     rw[HX.out,Lb r t ah ai];rfl)
    generalize r[k]=xw at*;generalize t[k]=xg at*;obtain⟨⟨G,H,R,U,I,J,N,O⟩, -⟩:=ez (HK.out wo K.out);have aa:Hid (BL wo (wo.alloc (.cells #[.iface 9 (.string xw),.iface 3 (.int .i64 xg)] 20))):=hid (aG.alloc aL _);have aj:=hid (xK wo [.str xw,.num xg] bH 20);simp only[zxt,List.map_nil,pT,zxg,List.length_nil] at aj;go_wp2_with (at_builtin;go_must (refine Bg rfl _ _ rfl Tryz.ajh rfl HF.out aa.out rfl aj.out jo ?_));intro v2 w3 DA ak;obtain⟨z2,al⟩:=bJ (F++[.str xw,.num xg]);rw[<-al] at DA ET;have Cn:Hid (om (w1.heap.size<=·) w3 v2 z2):=hid (yR.mono DA (fun b _ C=>eE K.out.size b C));have cN:Hid (BL w1 w3):=hid ((bO K.out aa.out).trans (ak.below (by have:=aa.out.size;have:=K.out.size;omega) (fun b C=>HF.out.2 b C.symm)));obtain⟨a2,c2,rfl, -, -, -⟩:=(om.sl Cn.out).form;clear DA ak al G H R U I J N O;go_wp2;go_roundw;case rel=>exact⟨k+1,z2,a2,c2,aD,zG,rfl,ET,Cn,cN⟩
    exact zI
   ·have aF:k=n:=by omega
    have aq:Hid (F=.str c::.num n::gY r t):=hid (by rw[HX.out,ND abp,ND (by rw[<-Z.out];omega)])
    have pQ:Hid (CP 143 #[.string {data:=#[112,105,99,107]},.slice av F.length cv] wo (La L w)):=hid (by
     obtain⟨g1,g2,g3⟩:=HA.out
     rw[<-aq.out] at g1 g2 g3
     refine(Dw _ F g1 g2 _ _ wo (om.sl HF.out) (A.out.next K.out)).mono ?_
     rintro e w' ⟨s,rfl,hs,ar⟩
     exact⟨s,rfl,by rw[hs,hFN];exact g3,(bO bL.out K.out).trans (ar.mono (by have:=bL.out.size;have:=K.out.size;omega))⟩)
    go_wp2_with fail;refine pQ.out.mono ?_;exact aeC
 ·have j:w1.cell? ⟨1,4,none⟩=some (.string {data:=#[100,97,121]}):=A.out.cV 4 aD
  have u:((decide (o=aC.nil)||aC.bE o)&&aC.ig g m (-1048576) 1048576)=true:=M.out;obtain⟨v,z⟩:=zxv.1 u;have a:=kW z
  have E:o.size<=12:=by
   rcases Bool.or_eq_true_iff.1 v with h|h
   ·rw[of_decide_eq_true h];decide
   ·exact dK h
  have B:=nD o;have V:aC.eF o<=12:=pG E;obtain⟨g1,g2,g3⟩:=agq c o up (jU o) g m r t q V B aD a.2.1 aD;have pQ:=hid (fun W (C:BL w W)=>iK {data:=#[100,97,121]} [.str c,.str (jU o),.num g,.num m] g1 g2 bH W 20 (S9.out.next C) w C L WI);clear g1 g2 g3;simp only[zxt,List.map_nil,pT,zxg,List.length_nil] at pQ;have HNd:=hid (fun W=>Aj o W);generalize jU o=od at*;clear B V;go_enter func144,ntmps144;go_upto_region 1 with fail;rw[<-HW.out];go_upto_region 21 with fail;have rW:=eC w1 ⟨w.heap.size,0,none⟩ (.string c) fun l=>(l.2.cell (p:=⟨w.heap.size,0,none⟩) d).trans G;have X:=eC w1 ⟨w.heap.size,1,none⟩ (.string o) fun l=>(l.2.cell (p:=⟨w.heap.size,1,none⟩) d).trans H;have VT:=eC w1 ⟨w.heap.size,4,none⟩ (.int .i64 g) fun l=>(l.2.cell (p:=⟨w.heap.size,4,none⟩) d).trans I;have Tq:=eC w1 ⟨w.heap.size,5,none⟩ (.int .i64 m) fun l=>(l.2.cell (p:=⟨w.heap.size,5,none⟩) d).trans J;refine bq 15 (.quiet 0 (.quiet 1 (.quiet 2 (.quiet 3 (.quiet 4 (.quiet 5 (.quiet 8 (.quiet 9 (.quiet 10 (.quiet 11 (.quiet 12 (.quiet 13 (.one 6 (.quiet 7 (.one 14 .done))))))))))))))) (BL w1) nK zK (aJ aG 1) ?_;have cH:=hid (aJ (Below.refl w1.heap.size w1) 1);generalize w1.drewN 1=w2 at*;clear G H R U I J N O j
  iterate 2 refine gF ?_
  iterate 10
   refine bC rfl ?_
   intro hne
   go_big_quiet_step (fail)
   refine iU ?_
  exact ae9
 ·have j:w1.cell? ⟨1,5,none⟩=some (.string {data:=#[115,116,101,112]}):=A.out.cV 5 aD
  have u:(aC.bE o&&aC.ig g m 0 32)=true:=M.out;obtain⟨v,z⟩:=zxv.1 u;have a:=kW z;have E:o.size<=12:=dK v;have B:=nD o;have V:aC.eF o<=12:=pG E;obtain⟨g1,g2,g3⟩:=agr c o up (jU o) g m r t q V B aD a.2.1 aD;have pQ:=hid (fun W (C:BL w W)=>iK {data:=#[115,116,101,112]} [.str c,.str (jU o),.num g,.num m] g1 g2 bH W 20 (S9.out.next C) w C L WI);simp only[zxt,List.map_nil,pT,zxg,List.length_nil] at pQ;have HNd:=hid (fun W=>Aj o W);generalize jU o=od at*;go_enter func144,ntmps144;go_upto_region 1 with fail;rw[<-HW.out];go_upto_region 21 with fail;have rW:=eC w1 ⟨w.heap.size,0,none⟩ (.string c) fun l=>(l.2.cell (p:=⟨w.heap.size,0,none⟩) d).trans G;have X:=eC w1 ⟨w.heap.size,1,none⟩ (.string o) fun l=>(l.2.cell (p:=⟨w.heap.size,1,none⟩) d).trans H;have VT:=eC w1 ⟨w.heap.size,4,none⟩ (.int .i64 g) fun l=>(l.2.cell (p:=⟨w.heap.size,4,none⟩) d).trans I;have Tq:=eC w1 ⟨w.heap.size,5,none⟩ (.int .i64 m) fun l=>(l.2.cell (p:=⟨w.heap.size,5,none⟩) d).trans J;refine bq 15 (.quiet 0 (.quiet 1 (.quiet 2 (.quiet 3 (.quiet 4 (.quiet 5 (.quiet 8 (.quiet 9 (.quiet 10 (.quiet 11 (.quiet 12 (.quiet 13 (.one 6 (.quiet 7 (.one 14 .done))))))))))))))) (BL w1) nK zK (aJ aG 1) ?_;have cH:=hid (aJ (Below.refl w1.heap.size w1) 1);generalize w1.drewN 1=w2 at*
  iterate 12
   refine bC rfl ?_
   intro hne
   go_big_quiet_step (fail)
   refine iU ?_
  exact ae9
 ·have j:w1.cell? ⟨1,6,none⟩=some (.string {data:=#[115,117,109]}):=A.out.cV 6 aD
  have u:aC.bE o=true:=M.out;have E:o.size<=12:=dK u;obtain⟨g1,g2,g3⟩:=agl c o up o g m r t q E;have pQ:=hid (iK {data:=#[115,117,109]} [.str c,.str o] g1 g2 bH w1 20 A.out w bL.out L WI);exact Zo
 ·have j:w1.cell? ⟨1,7,none⟩=some (.string {data:=#[115,104,97,114,101]}):=A.out.cV 7 aD
  have u:(aC.bE o&&aC.bE up&&aC.ig g m 0 1048576)=true:=M.out;obtain⟨au,ax⟩:=zxv.1 u;obtain⟨v,z⟩:=zxv.1 au;have a:=kW ax;have E:o.size<=12:=dK v;have ab:up.size<=12:=dK z;obtain⟨g1,g2,g3⟩:=agm c o up o g m r t q E ab a.1 a.2.1 a.2.2;have pQ:=hid (iK {data:=#[115,104,97,114,101]} [.str c,.str up,.str o,.num g,.num m] g1 g2 bH w1 20 A.out w bL.out L WI);exact Zo
 ·have j:w1.cell? ⟨1,8,none⟩=some (.string {data:=#[99,111,112,121]}):=A.out.cV 8 aD
  have u:(aC.bE o&&aC.bE up)=true:=M.out;obtain⟨v,z⟩:=zxv.1 u;have E:o.size<=12:=dK v;have ab:up.size<=12:=dK z;obtain⟨g1,g2,g3⟩:=agn c o up o g m r t q E ab;have pQ:=hid (iK {data:=#[99,111,112,121]} [.str c,.str up,.str o] g1 g2 bH w1 20 A.out w bL.out L WI);exact Zo
theorem Ld{α a:Type}(f:α->a)(g:a->Nat):∀l:List α,aC.bP g (l.map f)=aC.bP (fun x=>g (f x)) l
 |[]=>rfl
 |x::l=>by rw[zxt,fU,fU,Ld f g l]
theorem l5{x:aC.cE}(h:aC.ql x=true):aC.tE x.aQ 0 1048576=true/\x.ah.length<=6/\x.aV.length<=6/\x.aX.length<=16/\(∀k∈x.ah,aC.qF k=true)/\(∀k∈x.aV,aC.wD k=true)/\∀k∈x.aX,aC.wE k=true:=by
 unfold aC.ql at h;simp only[pR,oW,alU] at h;exact⟨h.1.1.1.1.1.1,h.1.1.1.1.1.2,h.1.1.1.1.2,h.1.1.1.2,h.1.1.2,h.1.2,h.2⟩
def kC(m:Int×Int):Nat:=4+(1+aC.dN m.1)+(1+aC.dN m.2)+1
theorem qX{s:ByteArray}(h:s=aC.nil\/aC.bE s=true):s.size<=12:=by
 rcases h with rfl|h
 ·decide
 ·exact dK h
theorem Ox(x:aC.cE)(hx:aC.ql x=true)(hsz:aC.xC x<=8192)(v:Value)(S:Nat->Prop)(w:World)(hv:dO S w v x)(Cp:LaidW w):
  CP 96 #[v] w (La (aC.xC x) w):=by
 obtain⟨p1,p2,p3,p4,p5,p6,p7⟩:=l5 hx;obtain⟨H,ck,X,cl,ar,cr,rfl,hk,hl,hr,bF,bI,bK⟩:=hv.form;obtain⟨b,aa⟩:=bJ (w.heap.size+1);obtain⟨w1,hw1⟩:=bJ ((bSx w x H X ar ck cl cr).alloc (.cells #[.pointer none,.slice none 0 0] 211));have bL:Hid (Below w.heap.size w w1):=hid J8;have HX:Hid (∀W,Below b w1 W->W.heap[w.heap.size]?=some (.cells (sBx x H X ar ck cl cr) 27 (0,0))):=hid (fun W u=>(u.block _ aD).trans BK)
 have a6:Hid (jA b b 0 w1):=hid (by
  have e:b=(bSx w x H X ar ck cl cr).heap.size:=by rw[aa];simp[bSx,fJ]
  rw[hw1,e]
  exact⟨[],rfl,Lib.fresh_isBuilder _ _ _⟩)
 have Nf:b<w1.heap.size:=by rw[hw1,aa];simp[bSx,fJ]
 have bE:w.heap.size<b:=aD
 have h5:5<=w.heap.size:=Cp.size;have xL:Hid (∀W,Below b w1 W->LaidW W):=hid (fun W u=>(Cp.next bL.out).below u aD);have Zc:Hid (∀W,Below b w1 W->iC S W (.slice H x.ah.length ck) x.ah):=hid (fun W u=>hk.keep (aH.below (bL.out.trans (u.mono aD))));have Ni:Hid (∀W,Below b w1 W->o6 S W (.slice X x.aV.length cl) x.aV):=hid (fun W u=>fC.keep dG hl (aH.below (bL.out.trans (u.mono aD))));have Rl:Hid (∀W,Below b w1 W->qI S W (.slice ar x.aX.length cr) x.aX):=hid (fun W u=>fC.keep fO hr (aH.below (bL.out.trans (u.mono aD))));have HE:Hid (∀W,Below b w1 W->BL w W):=hid (fun W u=>bL.out.trans (u.mono aD));have Zd:=hid hk;have a7:=hid hl;have Ze:=hid hr;have a8:=hid p5;have a9:=hid p6;have ba:=hid p7;delta bSx fJ at hw1;have HW:=hid hw1;have Le:=hid aa;obtain⟨T,hT⟩:=bJ (aC.xC x);obtain⟨z,ai⟩:=bJ (6+(1+aC.dN x.aQ)+1);have HT:Hid (T=z+aC.bP aC.iB x.ah+aC.bP aC.jf x.aV+aC.bP aC.jI x.aX/\T<=8192):=hid ⟨by rw[hT,ai];rfl,aD⟩;rw[<-hT];have Ts:=eM p1;have bb:=dW x.aQ;clear hx hsz hv Cp hk hl hr p1 p5 p6 p7 hw1 aa hT;obtain⟨z0,z1,z2,z3⟩:=b4z (HX.out w1 aG);have hm:=iK {data:=#[115,99,104,101,109,97]} [.num x.aQ] (by intro a A;rw[nL.1 A];simp only[jK];omega) (by rw[fU,mS];simp only[argN];have:({data:=#[115,99,104,101,109,97]}:ByteArray).size=6:=rfl;omega) bH w1 20 (xL.out w1 aG) w1 aG z (by rw[fU,mS,ai];simp only[argN];have:({data:=#[115,99,104,101,109,97]}:ByteArray).size=6:=rfl;omega);simp only[zxt,List.map_nil,pT,zxg,List.length_nil] at hm;have F:=hid hm;clear hm ai Ts bb;generalize x.aQ=bN at*;go_enter func96,ntmps96;go_upto_region 2 with fail;rw[<-HW.out,<-Le.out];go_wp2_with fail;refine F.out.mono ?_;rintro e w2 ⟨s,rfl,hs,d⟩;have K9:=hid (a6.out.below d);have cH:Hid (Below b w1 w2):=hid (d.mono aD);go_wp2_with fail;refine(fe b b 0 s w2 K9.out Nw (by have:=cH.out.size;omega)).mono ?_;rintro e w3 ⟨rfl,hd,J, -⟩;have cN:Hid (Below b w1 w3):=hid (cH.out.trans J);have bc:Hid (jA b b (z+aC.bP aC.iB (x.ah.take 0)) w3):=hid aft;clear hs d hd J z0 z1 z2 z3;obtain⟨z0,z1,z2,z3⟩:=b4z (HX.out w3 cN.out);go_upto_region 4 with fail;clear z0 z1 z2 z3;go_loopw [26] (fun i wr=>∃k:Nat,k<=x.ah.length/\i=.int .i64 (k:Int)/\Hid (jA b b (z+aC.bP aC.iB (x.ah.take k)) wr)/\Hid (Below b w1 wr)) (fun i _=>x.ah.length-(intOf i).toNat);case atStart=>exact⟨0,aD,rfl,bc,cN⟩
 case round=>
  obtain⟨k,hk,rfl,HD,HB⟩:=hrel;obtain⟨wo,rfl⟩:=bJ (wr:World);by_cases l:k<x.ah.length
  ·have aJ:=zN k
   have aK:=zL k x.ah.length
   obtain⟨pU, -,v0,v1,v2,uf,v3,hf⟩:=Zd.out.at l;have o:=HE.out wo HB.out;have K:=(o.cell (p:=⟨bM H,bT H+k*4,none⟩) pU).trans v0;have Y:=(o.cell (p:=⟨bM H,bT H+k*4+1,none⟩) pU).trans v1;have y2:=(o.cell (p:=⟨bM H,bT H+k*4+2,none⟩) pU).trans v2;have y3:=(o.cell (p:=⟨bM H,bT H+k*4+3,none⟩) pU).trans v3;clear v0 v1 v2 v3 o;obtain⟨Z,q2,q3,q4⟩:=lD (a8.out _ (eV l));have q5:=dK Z;have q6:=kW q2;have f:=oR aC.iB x.ah l;have q:=j9 aC.iB x.ah (k+1);obtain⟨N0,Zf⟩:=bJ (z+aC.bP aC.iB (x.ah.take k));have aj:aC.iB x.ah[k]=4+(1+x.ah[k].name.size)+(1+aC.dN x.ah[k].lo)+(1+aC.dN x.ah[k].hi)+1+aC.bP aC.cL x.ah[k].aF:=rfl;have HN:Hid (z+aC.bP aC.iB (x.ah.take (k+1))=N0+(4+(1+x.ah[k].name.size)+(1+aC.dN x.ah[k].lo)+(1+aC.dN x.ah[k].hi)+1)+aC.bP aC.cL x.ah[k].aF/\N0+(4+(1+x.ah[k].name.size)+(1+aC.dN x.ah[k].lo)+(1+aC.dN x.ah[k].hi)+1)+aC.bP aC.cL x.ah[k].aF<=8192):=hid Nw;rw[<-Zf] at HD;clear f q Zf aj Z q2;generalize x.ah[k]=kd at*;obtain⟨g,lo,hi,fs⟩:=kd;simp only at K Y y2 hf q3 q4 q5 q6 HN;obtain⟨af,cf,rfl,bQ, -, -⟩:=hf.form;have HF:Hid (∀W,Below b w1 W->dx S W (.slice af fs.length cf) fs):=hid (fun W u=>hf.keep (aH.below (HE.out W u)));have bd:=hid q4;have am:=dW lo;have an:=dW hi;clear hf q4;obtain⟨M0,L⟩:=bJ (4+(1+g.size)+(1+aC.dN lo)+(1+aC.dN hi)+1);rw[<-L] at HN;obtain⟨w5,rI⟩:=bJ (wo.alloc (.cells #[.string g,.int .i64 lo,.int .i64 hi,.slice af fs.length cf] 53));have iH:Hid (Below b w1 w5):=hid WX;have M:Hid (jA b b N0 w5):=hid afj;have B:Hid (w5.heap[wo.heap.size]?=some (.cells #[.string g,.int .i64 lo,.int .i64 hi,.slice af fs.length cf] 53 (0,0))):=hid (by rw[rI];exact bD wo _ rfl);have wP:wo.heap.size≠b:=Ke
   obtain⟨u0,u1,u2,u3⟩:=b4z B.out;have hm:=iK {data:=#[107,105,110,100]} [.str g,.num lo,.num hi] (by intro a A;simp only[mr,Na,or_false] at A;rcases A with rfl|rfl|rfl<;>first|trivial|(simp only[jK];omega)) (by simp only[fU,mS,argN];have:({data:=#[107,105,110,100]}:ByteArray).size=4:=rfl;omega) bH w5 20 (xL.out w5 iH.out) w5 aG M0 (by rw[L];simp only[fU,mS,argN];have:({data:=#[107,105,110,100]}:ByteArray).size=4:=rfl;omega);simp only[zxt,List.map_nil,pT,zxg,List.length_nil] at hm;have F:=hid hm;have EU:=hid rI;clear hm L am an q5 q6 rI;go_upto_region 6 with fail;rw[<-EU.out];clear K Y y2 y3;go_wp2_with fail;refine F.out.mono ?_;rintro e w6 ⟨s,rfl,hs,d⟩;have ao:=hid (M.out.below d);have mA:Hid (Below b w1 w6):=hid (iH.out.trans (d.mono (by have:=iH.out.size;omega)));have JT:Hid (w6.heap[wo.heap.size]?=some (.cells #[.string g,.int .i64 lo,.int .i64 hi,.slice af fs.length cf] 53 (0,0))):=hid ((d.block _ (aI B.out)).trans B.out);go_wp2_with fail;refine(fe b b N0 s w6 ao.out abn (by have:=mA.out.size;omega)).mono ?_;rintro e w7 ⟨rfl,hd,mI,Sz⟩;have jb:Hid (Below b w1 w7):=hid (mA.out.trans mI);have ap:Hid (jA b b (N0+M0+aC.bP aC.cL (fs.take 0)) w7):=hid aft;have KM:Hid (w7.heap[wo.heap.size]?=some (.cells #[.string g,.int .i64 lo,.int .i64 hi,.slice af fs.length cf] 53 (0,0))):=hid (Sz _ _ JT.out wP (fun cs fr e=>by simp at e));clear hs d hd mI Sz u0 u1 u2 u3 F;obtain⟨u0,u1,u2,u3⟩:=b4z KM.out;go_upto_region 8 with fail;clear u0 u1 u2 u3;go_loopw [45] (fun i wr=>∃j:Nat,j<=fs.length/\i=.int .i64 (j:Int)/\Hid (jA b b (N0+M0+aC.bP aC.cL (fs.take j)) wr)/\Hid (Below b w1 wr)) (fun i _=>fs.length-(intOf i).toNat);case atStart=>exact⟨0,aD,rfl,ap,jb⟩
   case round=>
    obtain⟨j,hj,rfl,N,ab⟩:=hrel;obtain⟨t,rfl⟩:=bJ (wr:World);by_cases G:j<fs.length
    ·have be:=zN j
     have bf:=zL j fs.length
     obtain⟨-, -,c0,c1,c2,c3,c4,c5,uw,ug,c6,c7,aq,og⟩:=(HF.out t ab.out).at G;have Wg:=bd.out _ (eV G);have f:=oR aC.cL fs G;have q:=j9 aC.cL fs (j+1);obtain⟨N2,O⟩:=bJ (N0+M0+aC.bP aC.cL (fs.take j));have Rm:Hid (N0+M0+aC.bP aC.cL (fs.take (j+1))=N2+aC.cL fs[j]/\N2+aC.cL fs[j]<=8192):=hid abn;rw[<-O] at N;clear f q O;obtain⟨a1,n1,d1,rfl⟩:∃a n c,uw=.slice a n c:=by obtain⟨a,c,e, -⟩:=aq.form;exact⟨_,_,_,e⟩
     obtain⟨a2,n2,d2,rfl⟩:∃a n c,ug=.slice a n c:=by obtain⟨a,c,e, -⟩:=og.form;exact⟨_,_,_,e⟩
     generalize fs[j]=fd at*;obtain⟨D,P⟩:=bJ (t.alloc (.cells (dh fd (.slice a1 n1 d1) (.slice a2 n2 d2)).toArray 85));have r:BL t D:=by rw[P];exact aG.alloc aL _
     have ou:Hid (Below b w1 D):=hid (ab.out.trans (r.mono (by have:=ab.out.size;omega)));have Q:Hid (jA b b N2 D):=hid (N.out.below r);have EV:=hid (Tr fd Wg _ _ S S D (aq.keep (aH.below r)) (og.keep (aH.below r)) (xL.out D ou.out));have KN:Hid (D.heap[t.heap.size]?=some (.cells (dh fd (.slice a1 n1 d1) (.slice a2 n2 d2)).toArray 85 (0,0))):=hid (by rw[P];exact bD t _ rfl);obtain⟨FN,aM⟩:=bJ (aC.cL fd);rw[<-aM] at EV Rm;clear aq og Wg r aM;obtain⟨bR,fo,fu,fk,fl,fh,EW,EX⟩:=fd;simp only[dh] at P KN EV;simp only at c0 c1 c2 c3 c4 c5;obtain⟨⟨u0,u1,u2,u3,u4,u5,u6,u7⟩, -⟩:=ez KN.out;have bg:=hid P;clear P;go_upto_region 10 with fail;rw[<-bg.out];clear c0 c1 c2 c3 c4 c5 c6 c7;go_wp2_with fail;refine EV.out.mono ?_;rintro e E ⟨s,rfl,hs,d⟩;have R:=hid (Q.out.below d);have pX:Hid (Below b w1 E):=hid (ou.out.trans (d.mono (by have:=ou.out.size;omega)));go_wp2_with fail;refine(fe b b N2 s E R.out (by have:=Rm.out;omega) WT).mono ?_;rintro e mL ⟨rfl,hd,nE, -⟩;have nF:Hid (Below b w1 mL):=hid (pX.out.trans nE);have Zg:Hid (jA b b (N0+M0+aC.bP aC.cL (fs.take (j+1))) mL):=hid (by rw[Rm.out.1,<-hs];exact hd);clear hs d hd nE u0 u1 u2 u3 u4 u5 u6 u7;go_wp2;go_roundw;case rel=>exact⟨j+1,aD,zG,Zg,nF⟩
     exact zI
    ·have bh:j=fs.length:=by omega
     have au:Hid (jA b b (z+aC.bP aC.iB (x.ah.take (k+1))) t):=hid (by
      have:=N.out
      rw[bh,zxw] at this
      rw[HN.out.1];exact this)
     go_wp2;go_roundw;case rel=>exact⟨k+1,aD,zG,au,ab⟩
     exact zI
  ·have bi:Hid (jA b b (z+aC.bP aC.iB x.ah+aC.bP aC.jf (x.aV.take 0)) wo):=hid (by
    have:=HD.out
    rw[show k=x.ah.length by omega,zxw] at this
    simpa [aC.bP] using this)
   obtain⟨z0,z1,z2,z3⟩:=b4z (HX.out wo HB.out);have gX:=hid HB.out;clear HD;go_upto_region 14 with fail;clear z0 z1 z2 z3;go_loopw [57] (fun i wr=>∃k:Nat,k<=x.aV.length/\i=.int .i64 (k:Int)/\Hid (jA b b (z+aC.bP aC.iB x.ah+aC.bP aC.jf (x.aV.take k)) wr)/\Hid (Below b w1 wr)) (fun i _=>x.aV.length-(intOf i).toNat);case atStart=>exact⟨0,aD,rfl,bi,gX⟩
   case round=>
    obtain⟨k,hk,rfl,HD,HB⟩:=hrel;obtain⟨U,rfl⟩:=bJ (wr:World);by_cases l:k<x.aV.length
    ·have aJ:=zN k
     have aK:=zL k x.aV.length
     obtain⟨pU, -,v0,bS,bU,v1,v2,ad,ae⟩:=a7.out.at l;have o:=HE.out U HB.out;have K:=(o.cell (p:=⟨bM X,bT X+k*3,none⟩) pU).trans v0;have Y:=(o.cell (p:=⟨bM X,bT X+k*3+1,none⟩) pU).trans v1;have y2:=(o.cell (p:=⟨bM X,bT X+k*3+2,none⟩) pU).trans v2;clear v0 v1 v2 o;obtain⟨Z,q2,q3,q4,q5⟩:=qb (a9.out _ (eV l));have q6:=dK Z;have q7:=(eM q2).2;have f:=oR aC.jf x.aV l;have q:=j9 aC.jf x.aV (k+1);obtain⟨N0,Zf⟩:=bJ (z+aC.bP aC.iB x.ah+aC.bP aC.jf (x.aV.take k));have aj:aC.jf x.aV[k]=4+(1+x.aV[k].name.size)+(1+aC.dN x.aV[k].dR.length)+aC.bP (fun s:ByteArray=>1+s.size) x.aV[k].dR+1+aC.bP kC x.aV[k].jd:=rfl;have HN:Hid (z+aC.bP aC.iB x.ah+aC.bP aC.jf (x.aV.take (k+1))=N0+(4+(1+x.aV[k].name.size)+(1+aC.dN x.aV[k].dR.length)+aC.bP (fun s:ByteArray=>1+s.size) x.aV[k].dR+1)+aC.bP kC x.aV[k].jd/\N0+(4+(1+x.aV[k].name.size)+(1+aC.dN x.aV[k].dR.length)+aC.bP (fun s:ByteArray=>1+s.size) x.aV[k].dR+1)+aC.bP kC x.aV[k].jd<=8192):=hid Nw;rw[<-Zf] at HD;clear f q Zf aj Z q2;generalize x.aV[k]=kd at*;obtain⟨g,ss,ms⟩:=kd;simp only at K ad ae q3 q4 q5 q6 q7 HN;obtain⟨a1,c1,rfl,bV, -, -⟩:=ad.form;obtain⟨a2,c2,rfl,bW, -, -⟩:=ae.form;have bj:Hid (∀W,Below b w1 W->gE S W (.slice a1 ss.length c1) ss):=hid (fun W u=>ad.keep (aH.below (HE.out W u)));have bk:Hid (∀W,Below b w1 W->yD S W (.slice a2 ms.length c2) ms):=hid (fun W u=>fC.keep fW ae (aH.below (HE.out W u)));have bl:=hid q5;have aO:=dW (ss.length:Int);clear ad ae q3 q5;obtain⟨M0,L⟩:=bJ (4+(1+g.size)+(1+aC.dN ss.length)+aC.bP (fun s:ByteArray=>1+s.size) ss+1);rw[<-L] at HN;have bm:=hid L;clear L;obtain⟨w5,rI⟩:=bJ (U.alloc (.cells #[.string g,.slice a1 ss.length c1,.slice a2 ms.length c2] 58));have iH:Hid (Below b w1 w5):=hid WX;have M:Hid (jA b b N0 w5):=hid afj;have B:Hid (w5.heap[U.heap.size]?=some (.cells #[.string g,.slice a1 ss.length c1,.slice a2 ms.length c2] 58 (0,0))):=hid (by rw[rI];exact bD U _ rfl);have wP:U.heap.size≠b:=Ke
     obtain⟨u0,u1,u2⟩:=wN B.out;obtain⟨w6,wg⟩:=bJ (w5.alloc (.cells #[.iface 9 (.string g),.iface 3 (.int .i64 (ss.length:Int))] 20));have mA:Hid (Below w5.heap.size w5 w6):=hid (by rw[wg];exact aG.alloc aL _);have bn:Hid (om (w5.heap.size<=·) w6 (.slice (some ⟨w5.heap.size,0,none⟩) 2 2) [.str g,.num ss.length]):=hid (by rw[wg];exact Gw w5 (.str g) (.num ss.length));have EU:=hid rI;have EY:=hid wg;have aP:b<w5.heap.size:=by have:=iH.out.size;omega
     clear rI wg;go_upto_region 16 with fail;rw[<-EU.out];clear K Y y2;go_upto_region 17 with fail;rw[<-EY.out];clear u0 u1 u2;obtain⟨u0,u1,u2⟩:=wN (show w6.heap[U.heap.size]?=_ from (mA.out.block _ (aI B.out)).trans B.out);go_upto_region 18 with fail;clear u0 u1 u2;go_loopw [10,72] (fun s i wr=>∃(j:Nat) (I:List Arg) (av:Option Addr) (cv:Nat),j<=ss.length/\i=.int .i64 (j:Int)/\s=.slice av I.length cv/\Hid (I=.str g::.num ss.length::(ss.take j).map Arg.str)/\Hid (om (w5.heap.size<=·) wr (.slice av I.length cv) I)/\Hid (BL w5 wr)) (fun _ i _=>ss.length-(intOf i).toNat);case atStart=>exact⟨0,[.str g,.num ss.length],_,_,aD,rfl,rfl,hid bH,bn,mA⟩
     case round=>
      obtain⟨j,I,av,cv,hj,rfl,rfl,aw,ax,Cq⟩:=hrel;obtain⟨t,rfl⟩:=bJ (wr:World);have ag:Hid (Below b w1 t):=hid (iH.out.trans (Cq.out.mono aD));have bX:I.length<=1000:=by rw[aw.out];simp;omega
      by_cases G:j<ss.length
      ·have be:=zN j
       have bf:=zL j ss.length
       obtain⟨xw,hx, -,bo⟩:=(bj.out t ag.out).at G;subst bo
       have ET:Hid (I++[.str ss[j]]=.str g::.num ss.length::(ss.take (j+1)).map Arg.str):=hid (by
        rw[aw.out,yh G,zxj];rfl)
       generalize ss[j]=sw at*;have ay:Hid (BL t (t.alloc (.cells #[.iface 9 (.string sw)] 20))):=hid (aG.alloc aL _);have aS:=hid (xK t [.str sw] bH 20);simp only[zxt,List.map_nil,pT,zxg,List.length_nil] at aS;go_wp2_with (at_builtin;go_must (refine Bg rfl _ _ rfl Tryz.ajh rfl ax.out ay.out rfl aS.out jo ?_));intro v2 w3 DA aT;obtain⟨z2,aU⟩:=bJ (I++[.str sw]);rw[<-aU] at DA ET;have Cn:Hid (om (w5.heap.size<=·) w3 v2 z2):=hid (yR.mono DA (fun b _ d=>eE Cq.out.size b d));have Ai:Hid (BL w5 w3):=hid ((bO Cq.out ay.out).trans (aT.below (by have:=ay.out.size;have:=Cq.out.size;omega) (fun b d=>ax.out.2 b d.symm)));obtain⟨a3,c3,rfl, -, -, -⟩:=(om.sl Cn.out).form;clear DA aT aU hx;go_wp2;go_roundw;case rel=>exact⟨j+1,z2,a3,c3,aD,zG,rfl,ET,Cn,Ai⟩
       exact zI
      ·have aW:Hid (I=.str g::.num ss.length::ss.map Arg.str):=hid (by rw[aw.out,ND aD])
       have F:Hid (CP 143 #[.string {data:=#[108,105,102,101]},.slice av I.length cv] t (La M0 t)):=hid (by
        have vX:aC.bP argN I=(1+g.size)+((1+aC.dN ss.length)+aC.bP (fun s:ByteArray=>1+s.size) ss):=by rw[aW.out,fU,fU,Ld];rfl
        have h4:({data:=#[108,105,102,101]}:ByteArray).size=4:=rfl
        have hM:=bm.out
        have bY:=HN.out.2
        refine(Dw _ I (by
         rw[aW.out]
         intro a A
         rcases mr.1 A with rfl|A
         ·trivial
         ·rcases mr.1 A with rfl|A
          ·simp only[jK];omega
          ·obtain⟨y, -,rfl⟩:=List.mem_map.1 A;trivial) aD _ _ t (om.sl ax.out) (xL.out t ag.out)).mono ?_
        rintro e w' ⟨s,rfl,hs,bp⟩
        exact⟨s,rfl,by rw[hs];omega,bp⟩)
       have N:Hid (jA b b N0 t):=hid (M.out.below Cq.out);have vE:Hid (t.heap[U.heap.size]?=some (.cells #[.string g,.slice a1 ss.length c1,.slice a2 ms.length c2] 58 (0,0))):=hid ((Cq.out.block _ (aI B.out)).trans B.out);go_wp2_with fail;refine F.out.mono ?_;rintro e w7 ⟨s,rfl,hs,d⟩;have ap:=hid (N.out.below d);have jb:Hid (Below b w1 w7):=hid (ag.out.trans (d.mono (by have:=ag.out.size;omega)));have KM:Hid (w7.heap[U.heap.size]?=some (.cells #[.string g,.slice a1 ss.length c1,.slice a2 ms.length c2] 58 (0,0))):=hid ((d.block _ (aI vE.out)).trans vE.out);go_wp2_with fail;refine(fe b b N0 s w7 ap.out abn (by have:=jb.out.size;omega)).mono ?_;rintro e D ⟨rfl,hd,mz,aY⟩;have ou:Hid (Below b w1 D):=hid (jb.out.trans mz);have Q:Hid (jA b b (N0+M0+aC.bP kC (ms.take 0)) D):=hid aft;have KN:Hid (D.heap[U.heap.size]?=some (.cells #[.string g,.slice a1 ss.length c1,.slice a2 ms.length c2] 58 (0,0))):=hid (aY _ _ KM.out wP (fun cs fr e=>by simp at e));clear hs d hd mz aY F;obtain⟨u0,u1,u2⟩:=wN KN.out;go_upto_region 24 with fail;clear u0 u1 u2;go_loopw [88] (fun i wr=>∃j:Nat,j<=ms.length/\i=.int .i64 (j:Int)/\Hid (jA b b (N0+M0+aC.bP kC (ms.take j)) wr)/\Hid (Below b w1 wr)) (fun i _=>ms.length-(intOf i).toNat);case atStart=>exact⟨0,aD,rfl,Q,ou⟩
       case round=>
        obtain⟨m,hm,rfl,az,Tt⟩:=hrel;obtain⟨wm,rfl⟩:=bJ (wr:World);by_cases aA:m<ms.length
        ·have bZ:=zN m
         have b0:=zL m ms.length
         obtain⟨-, -,K,Y⟩:=(bk.out wm Tt.out).at aA;have aB:=bl.out _ (eV aA);have f:=oR kC ms aA;have q:=j9 kC ms (m+1);obtain⟨N2,O⟩:=bJ (N0+M0+aC.bP kC (ms.take m));have Rm:Hid (N0+M0+aC.bP kC (ms.take (m+1))=N2+kC ms[m]/\N2+kC ms[m]<=8192):=hid abn;rw[<-O] at az;clear f q O;generalize ms[m]=mv at*;obtain⟨m1,m2⟩:=mv;simp only at K Y
         have bq:0<=m1/\m1<=100/\0<=m2/\m2<=100:=by
          unfold aC.CG at aB;obtain⟨g1,g2⟩:=zxv.1 aB;have g3:=eM g1;have g4:=eM g2;simp only at g3 g4;omega
         have am:=dW m1;have an:=dW m2;obtain⟨E,V⟩:=bJ (wm.alloc (.cells #[.int .i64 m1,.int .i64 m2] 59));have r:BL wm E:=by rw[V];exact aG.alloc aL _
         have pX:Hid (Below b w1 E):=hid (Tt.out.trans (r.mono (by have:=Tt.out.size;omega)));have R:Hid (jA b b N2 E):=hid (az.out.below r);have u0:E.cell? ⟨wm.heap.size,0,none⟩=some (.int .i64 m1):=by rw[V];simp
         have u1:E.cell? ⟨wm.heap.size,1,none⟩=some (.int .i64 m2):=by rw[V];simp
         have aE:=iK {data:=#[109,111,118,101]} [.num m1,.num m2] (by intro a A;simp only[mr,Na,or_false] at A;rcases A with rfl|rfl<;>(simp only[jK];omega)) (by simp only[fU,mS,argN];have:({data:=#[109,111,118,101]}:ByteArray).size=4:=rfl;omega) bH E 20 (xL.out E pX.out) E aG (kC (m1,m2)) (by simp only[fU,mS,argN,kC];have:({data:=#[109,111,118,101]}:ByteArray).size=4:=rfl;omega);simp only[zxt,List.map_nil,pT,zxg,List.length_nil] at aE;have F:=hid aE;have br:=hid V;clear aE aB bq am an r V;go_upto_region 26 with fail;rw[<-br.out];clear K Y;go_wp2_with fail;refine F.out.mono ?_;rintro e mL ⟨s,rfl,hs,d⟩;have Zg:=hid (R.out.below d);have nF:Hid (Below b w1 mL):=hid (pX.out.trans (d.mono WT));go_wp2_with fail;refine(fe b b N2 s mL Zg.out (by have:=Rm.out;omega) (by have:=nF.out.size;omega)).mono ?_;rintro e EQ ⟨rfl,hd,I3, -⟩;have I4:Hid (Below b w1 EQ):=hid (nF.out.trans I3);have a0:Hid (jA b b (N0+M0+aC.bP kC (ms.take (m+1))) EQ):=hid (by rw[Rm.out.1,<-hs];exact hd);clear hs d hd I3 u0 u1 F;go_wp2;go_roundw;case rel=>exact⟨m+1,aD,zG,a0,I4⟩
         exact zI
        ·have bs:m=ms.length:=by omega
         have au:Hid (jA b b (z+aC.bP aC.iB x.ah+aC.bP aC.jf (x.aV.take (k+1))) wm):=hid (by
          have:=az.out
          rw[bs,zxw] at this
          rw[HN.out.1];exact this)
         go_wp2;go_roundw;case rel=>exact⟨k+1,aD,zG,au,Tt⟩
         exact zI
    ·have ao:Hid (jA b b (z+aC.bP aC.iB x.ah+aC.bP aC.jf x.aV+aC.bP aC.jI (x.aX.take 0)) U):=hid (by
      have:=HD.out
      rw[show k=x.aV.length by omega,zxw] at this
      simpa [aC.bP] using this)
     obtain⟨z0,z1,z2,z3⟩:=b4z (HX.out U HB.out);have mA:=hid HB.out;clear HD;go_upto_region 30 with fail;clear z0 z1 z2 z3;go_loopw [106] (fun i wr=>∃k:Nat,k<=x.aX.length/\i=.int .i64 (k:Int)/\Hid (jA b b (z+aC.bP aC.iB x.ah+aC.bP aC.jf x.aV+aC.bP aC.jI (x.aX.take k)) wr)/\Hid (Below b w1 wr)) (fun i _=>x.aX.length-(intOf i).toNat);case atStart=>exact⟨0,aD,rfl,ao,mA⟩
     case round=>
      obtain⟨k,hk,rfl,HD,HB⟩:=hrel;obtain⟨C,rfl⟩:=bJ (wr:World);by_cases l:k<x.aX.length
      ·have aJ:=zN k
       have aK:=zL k x.aX.length
       obtain⟨-, -,K,Y,y2,y3,y4⟩:=qI.at (Rl.out C HB.out) l;obtain⟨Z,q2,q3,q4, -,q6⟩:=qc (ba.out _ (eV l));have Z:=dK Z;have q2:=dK q2;have q3:=pG (qX q3);have q4:=pG (qX q4);have q6:=eM q6;have f:=oR aC.jI x.aX l;have q:=j9 aC.jI x.aX (k+1);obtain⟨N0,Zf⟩:=bJ (z+aC.bP aC.iB x.ah+aC.bP aC.jf x.aV+aC.bP aC.jI (x.aX.take k));have HN:Hid (z+aC.bP aC.iB x.ah+aC.bP aC.jf x.aV+aC.bP aC.jI (x.aX.take (k+1))=N0+aC.jI x.aX[k]/\N0+aC.jI x.aX[k]<=8192):=hid Nw;rw[<-Zf] at HD;clear f q Zf;generalize x.aX[k]=rd at*;obtain⟨g,kn,ra,rb,rn⟩:=rd;simp only at K Y y2 y3 y4 Z q2 q3 q4 q6;obtain⟨M0,L⟩:=bJ (aC.jI ⟨g,kn,ra,rb,rn⟩);rw[<-L] at HN;have bt:M0=4+(1+g.size)+(1+kn.size)+(1+aC.eF ra)+(1+aC.eF rb)+(1+aC.dN rn)+1:=L;obtain⟨w5,rI⟩:=bJ (C.alloc (.cells #[.string g,.string kn,.string ra,.string rb,.int .i64 rn] 61));have iH:Hid (Below b w1 w5):=hid WX;have M:Hid (jA b b N0 w5):=hid afj;have B:Hid (w5.heap[C.heap.size]?=some (.cells #[.string g,.string kn,.string ra,.string rb,.int .i64 rn] 61 (0,0))):=hid (by rw[rI];exact bD C _ rfl);have aP:b<w5.heap.size:=by have:=iH.out.size;omega
       obtain⟨⟨u0,u1,u2,u3,u4⟩, -⟩:=nO B.out;have bu:=nD ra;have bv:=nD rb;have aO:=dW rn;have F:=hid (fun W (d:BL w5 W)=>iK {data:=#[114,117,108,101]} [.str g,.str kn,.str (jU ra),.str (jU rb),.num rn] (by intro a A;simp only[mr,Na,or_false] at A;rcases A with rfl|rfl|rfl|rfl|rfl<;>first|trivial|(simp only[jK];omega)) Fb bH W 20 (xL.out W (iH.out.trans (d.mono aD))) W aG M0 Fb);simp only[zxt,List.map_nil,pT,zxg,List.length_nil] at F;have bw:=hid (fun W=>Aj ra W);have bx:=hid (fun W=>Aj rb W);generalize jU ra=na at*;generalize jU rb=nb at*;have EU:=hid rI;clear bu bv aO bt L rI Z q2 q3 q4 q6;go_upto_region 32 with fail;rw[<-EU.out];clear K Y y2 y3 y4;have rW:=eC w5 ⟨C.heap.size,0,none⟩ (.string g) fun xh=>(xh.2.cell (p:=⟨C.heap.size,0,none⟩) (aI B.out)).trans u0;have bz:=eC w5 ⟨C.heap.size,1,none⟩ (.string kn) fun xh=>(xh.2.cell (p:=⟨C.heap.size,1,none⟩) (aI B.out)).trans u1;have tZ:=eC w5 ⟨C.heap.size,2,none⟩ (.string ra) fun xh=>(xh.2.cell (p:=⟨C.heap.size,2,none⟩) (aI B.out)).trans u2;have bA:=eC w5 ⟨C.heap.size,3,none⟩ (.string rb) fun xh=>(xh.2.cell (p:=⟨C.heap.size,3,none⟩) (aI B.out)).trans u3;have VT:=eC w5 ⟨C.heap.size,4,none⟩ (.int .i64 rn) fun xh=>(xh.2.cell (p:=⟨C.heap.size,4,none⟩) (aI B.out)).trans u4;refine alR w5 17 (.quiet 0 (.quiet 1 (.quiet 2 (.quiet 3 (.quiet 4 (.quiet 5 (.quiet 6 (.quiet 7 (.quiet 10 (.quiet 11 (.quiet 14 (.quiet 15 (.quiet 16 (.one 8 (.quiet 9 (.one 12 (.quiet 13 .done))))))))))))))))) nK zK fun w6 Dq=>?_;clear u0 u1 u2 u3 u4
       iterate 13 refine gF ?_
       refine aZ rfl ?_;go_wp2_with fail;refine(bw.out w6).mono ?_;rintro e w7 ⟨rfl,mI⟩;have jb:=hid (bO Dq.out mI);clear mI;go_wp2_with fail;refine aN (BL w5) (fun _ h=>h) jb.out ?_;refine gF ?_;refine aZ rfl ?_;go_wp2_with fail;refine(bx.out w7).mono ?_;rintro e D ⟨rfl,mz⟩;have ou:=aR jb mz;clear mz;go_wp2_with fail;refine aN (BL w5) (fun _ h=>h) ou.out ?_;refine gF ?_;have a4:=hid (F.out D ou.out);have Q:Hid (jA b b N0 D):=hid (M.out.below ou.out);have a5:Hid (Below b w1 D):=hid (iH.out.trans (ou.out.mono aD));refine bG ?_;try simp only[jW,jH]
       clear rW bz tZ bA VT;go_wp2_with fail;refine a4.out.mono ?_;rintro e E ⟨s,rfl,hs,d⟩;have R:=hid (Q.out.below d);have pX:Hid (Below b w1 E):=hid (a5.out.trans (d.mono (by have:=a5.out.size;omega)));go_wp2_with fail;refine(fe b b N0 s E R.out abn WT).mono ?_;rintro e mL ⟨rfl,hd,nE, -⟩;have nF:Hid (Below b w1 mL):=hid (pX.out.trans nE);have Zg:Hid (jA b b (z+aC.bP aC.iB x.ah+aC.bP aC.jf x.aV+aC.bP aC.jI (x.aX.take (k+1))) mL):=hid (by rw[HN.out.1,<-hs];exact hd);clear hs d hd nE;go_wp2;go_roundw;case rel=>exact⟨k+1,aD,zG,Zg,nF⟩
       exact zI
      ·have bB:Hid (jA b b T C):=hid (by
        have:=HD.out
        rw[show k=x.aX.length by omega,zxw] at this
        rw[HT.out.1];exact this)
       have nM:=hid (Dv b b T C bB.out Ke);go_wp2_with fail;refine nM.out.mono ?_;rintro e w3 ⟨s,rfl,hs,J⟩;have HS:=hid hs;have I5:=hid (HE.out w3 (HB.out.trans J));clear hs J;go_wp2;go_ret;exact⟨s,rfl,HS.out,I5.out⟩
theorem ags{a b:ByteArray}(h:¬(a=aC.nil/\b=aC.nil)):(a++b).toList.isEmpty=false:=by
 refine nZ fun e=>h ?_;have c:(a++b).size=0:=zS
 rw[zxc] at c;have d:a.size=0:=aD
 have f:b.size=0:=aD
 exact⟨ByteArray.ext (Array.eq_empty_of_size_eq_zero d),ByteArray.ext (Array.eq_empty_of_size_eq_zero f)⟩
theorem Yv(h:p:=by
  rintro e w4 ⟨rfl,hb⟩
  have gX:=aR cN hb
  have kJ:=aR gT hb
  clear hb y0 y1 y2 y3 y4
  obtain⟨⟨y0,y1,y2,y3,y4⟩, -⟩:=nO (HK.out w4 kJ.out)
  go_wp2_with fail
  refine(H6.out _).mono ?_
  rintro e w' ⟨rfl,rfl⟩
  go_wp2
  go_ret
  exact⟨rfl,gX.out⟩):p:=h
theorem Oz(r:aC.Rul)(C:aC.wE r=true)(w:World):
  CB 95 #[.agg #[.string r.name,.string r.kind,.string r.a,.string r.b,.int .i64 r.n]] w (.bool true):=by
 obtain⟨p,q,d,f,g,s⟩:=qc C;obtain⟨t,u,j,h,v⟩:=r;simp only at p q d f g s ⊢;have H1:=hid (fun W=>dY t W);have o:=hid (fun W=>dY u W);have H6:=hid (fun W=>iO v (-1048576) 1048576 W);rw[p] at H1;rw[q] at o;rw[s] at H6;have D:=ags g;have E:=qX d;have F:=qX f;obtain⟨w1,hw1⟩:=bJ (w.alloc (.cells #[.string t,.string u,.string j,.string h,.int .i64 v] 61));have x:Hid (Below w.heap.size w w1):=hid Cx;have HK:Hid (∀W,BL w1 W->W.heap[w.heap.size]?=some (.cells #[.string t,.string u,.string j,.string h,.int .i64 v] 61 (0,0))):=hid (fun W G=>(G.block _ J6).trans BJ);have y:=hid hw1;clear hw1 C p q s;obtain⟨⟨y0,y1,y2,y3,y4⟩, -⟩:=nO (HK.out w1 aG);have z:Hid (BL w1 w1):=hid aG;by_cases i:j=aC.nil
 ·have hb:¬h=aC.nil:=fun e=>g ⟨i,e⟩
  subst i;have A:=nZ hb;have k:=hid (fun W=>dY h W);rw[f.resolve_left hb] at k;clear d f g;unfold aC.nil at*;go_enter func95,ntmps95;go_upto_region 1 with fail;rw[<-y.out];go_wp2_with fail;refine(H1.out _).mono ?_;rintro e w2 ⟨rfl,hb⟩;have l:=aR x hb;have c:=aR z hb;clear hb y0 y1 y2 y3 y4;obtain⟨⟨y0,y1,y2,y3,y4⟩, -⟩:=nO (HK.out w2 c.out);go_wp2_with fail;refine(o.out _).mono ?_;rintro e w3 ⟨rfl,hb⟩;have cN:=aR l hb;have gT:=aR c hb;clear hb y0 y1 y2 y3 y4;obtain⟨⟨y0,y1,y2,y3,y4⟩, -⟩:=nO (HK.out w3 gT.out);go_wp2_with fail;refine(k.out _).mono ?_;exact Yv
 ·by_cases hb:h=aC.nil
  ·have B:=nZ i
   have m:=hid (fun W=>dY j W);rw[d.resolve_left i] at m;subst hb;clear d f g;unfold aC.nil at*;go_enter func95,ntmps95;go_upto_region 1 with fail;rw[<-y.out];go_wp2_with fail;refine(H1.out _).mono ?_;rintro e w2 ⟨rfl,hb⟩;have l:=aR x hb;have c:=aR z hb;clear hb y0 y1 y2 y3 y4;obtain⟨⟨y0,y1,y2,y3,y4⟩, -⟩:=nO (HK.out w2 c.out);go_wp2_with fail;refine(o.out _).mono ?_;rintro e w3 ⟨rfl,hb⟩;have cN:=aR l hb;have gT:=aR c hb;clear hb y0 y1 y2 y3 y4;obtain⟨⟨y0,y1,y2,y3,y4⟩, -⟩:=nO (HK.out w3 gT.out);go_wp2_with fail;refine(m.out _).mono ?_;exact Yv
  ·have B:=nZ i
   have m:=hid (fun W=>dY j W);rw[d.resolve_left i] at m;have A:=nZ hb;have k:=hid (fun W=>dY h W);rw[f.resolve_left hb] at k;clear d f g;go_enter func95,ntmps95;go_upto_region 1 with fail;rw[<-y.out];go_wp2_with fail;refine(H1.out _).mono ?_;rintro e w2 ⟨rfl,hb⟩;have l:=aR x hb;have c:=aR z hb;clear hb y0 y1 y2 y3 y4;obtain⟨⟨y0,y1,y2,y3,y4⟩, -⟩:=nO (HK.out w2 c.out);go_wp2_with fail;refine(o.out _).mono ?_;rintro e w3 ⟨rfl,hb⟩;have cN:=aR l hb;have gT:=aR c hb;clear hb y0 y1 y2 y3 y4;obtain⟨⟨y0,y1,y2,y3,y4⟩, -⟩:=nO (HK.out w3 gT.out);go_wp2_with fail;refine(m.out _).mono ?_;rintro e w4 ⟨rfl,hb⟩;have gX:=aR cN hb;have kJ:=aR gT hb;clear hb y0 y1 y2 y3 y4;obtain⟨⟨y0,y1,y2,y3,y4⟩, -⟩:=nO (HK.out w4 kJ.out);go_wp2_with fail;refine(k.out _).mono ?_;rintro e w5 ⟨rfl,hb⟩;have H:=aR gX hb;have I:=aR kJ hb;clear hb y0 y1 y2 y3 y4;obtain⟨⟨y0,y1,y2,y3,y4⟩, -⟩:=nO (HK.out w5 I.out);go_wp2_with fail;refine(H6.out _).mono ?_;rintro e w' ⟨rfl,rfl⟩;go_wp2;go_ret;exact⟨rfl,H.out⟩
theorem aeM(h:p:=by
  have:ks.all (fun _=>true)=true:=bH
  rwa [this] at H):p:=h
theorem Tv(ks:List aC.fT)(a:∀k∈ks,aC.qF k=true)(v:Value)(S:Nat->Prop)(w:World)(b:iC S w v ks):
  CB 90 #[v,.func (.func 91) #[] #[]] w (.bool true):=by
 have H:=af9 dF ks (fun _=>true) v S w b 91 #[] (cF func91 zK rfl) (fun X _ j c g _ d=>by
  obtain⟨e,rfl,f⟩:=d;exact Oo ks[j] (a _ (eV c)) e S X f)
 exact aeM
theorem Tw(ks:List aC.Iu)(a:∀k∈ks,aC.wD k=true)(v:Value)(S:Nat->Prop)(w:World)(b:o6 S w v ks):
  CB 92 #[v,.func (.func 93) #[] #[]] w (.bool true):=by
 have H:=aga dG ks (fun _=>true) v S w b 93 #[] (cF func93 zK rfl) (fun X _ j c g _ d=>by
  obtain⟨u1,u2,rfl,e,f⟩:=d;exact Oq ks[j] (a _ (eV c)) u1 u2 S X e f)
 exact aeM
theorem Tx(ks:List aC.Rul)(d:∀k∈ks,aC.wE k=true)(v:Value)(S:Nat->Prop)(w:World)(e:qI S w v ks):
  CB 94 #[v,.func (.func 95) #[] #[]] w (.bool true):=by
 have H:=agb fO ks (fun _=>true) v S w e 95 #[] (cF func95 zK rfl) (fun X _ j f g _ c=>by
  have c:g=[.string ks[j].name,.string ks[j].kind,.string ks[j].a,.string ks[j].b,.int .i64 ks[j].n]:=c;subst c;exact Oz ks[j] (d _ (eV f)) X)
 exact aeM
theorem BV(x:aC.cE)(hx:aC.mH x=0)(v:Value)(S:Nat->Prop)(w:World)(l:dO S w v x)(m:LaidW w):
  CB 51 #[v] w (.int .i64 0):=by
 have b:aC.ql x=true/\aC.xC x<=8192:=by
  unfold aC.mH at hx;split at hx
  ·rename_i h
   refine⟨h,?_⟩;split at hx
   ·omega
   ·omega
  ·omega
 obtain⟨p1,p2,p3,p4,p5,p6,p7⟩:=l5 b.1;have k:=l;obtain⟨z,A,B,C,D,E,rfl,n,o,p,F,G,H⟩:=l.form;obtain⟨w1,c⟩:=bJ (bSx w x z B D A C E);have q:=yL c;have HX:=IQ c;have H1:=hid (fun W=>iO x.aQ 0 1048576 W);rw[p1] at H1;have I:=hid (fun W (d:BL w W)=>Tv x.ah p5 _ S W (n.keep (aH.below d)));have J:=hid (fun W (d:BL w W)=>Tw x.aV p6 _ S W (fC.keep dG o (aH.below d)));have K:=hid (fun W (d:BL w W)=>Tx x.aX p7 _ S W (fC.keep fO p (aH.below d)));have L:=hid (fun W (d:BL w W)=>Ox x b.1 b.2 _ S W (k.keep (aH.below d)) (m.next d));have HT:=hid b.2;delta bSx fJ at c;have M:=hid c;clear hx l m n o p p1 p5 p6 p7 c k b;have R:¬(6:Int)<x.ah.length:=aD
 have U:¬(6:Int)<x.aV.length:=aD
 have V:¬(16:Int)<x.aX.length:=aD
 generalize aC.xC x=T at*;generalize x.ah.length=X at*;generalize x.aV.length=Y at*;generalize x.aX.length=Z at*;generalize x.aQ=N at*;obtain⟨f,g,i,j⟩:=b4z (HX.out w1 aG);go_enter func51,ntmps51;go_upto_region 1 with fail;rw[<-M.out];go_wp2_with fail;refine(H1.out _).mono ?_;rintro e w' ⟨rfl,rfl⟩;go_wp2_with fail;refine(I.out _ q.out).mono ?_;rintro e w2 ⟨rfl,a⟩;have r:=hid a;have t:=aR q a;clear a f g i j;obtain⟨f,g,i,j⟩:=b4z (HX.out w2 r.out);go_wp2_with fail;refine(J.out _ t.out).mono ?_;rintro e w3 ⟨rfl,a⟩;have gT:=aR r a;have u:=aR t a;clear a f g i j;obtain⟨f,g,i,j⟩:=b4z (HX.out w3 gT.out);go_wp2_with fail;refine(K.out _ u.out).mono ?_;rintro e w4 ⟨rfl,a⟩;have O:=aR gT a;have y:=aR u a;clear a f g i j;obtain⟨f,g,i,j⟩:=b4z (HX.out w4 O.out);go_wp2_with fail;refine(L.out _ y.out).mono ?_;rintro e w5 ⟨s,rfl,P,a⟩;have Q:=aR y a;have h8:¬(8192:Int)<s.size:=Nw
 clear a P f g i j;go_wp2;go_ret;exact⟨rfl,Q.out⟩
theorem YX(h:p:=by
  go_wp2
  go_ret
  exact⟨WS,aG.alloc aL _⟩):p:=h
theorem OA(a s:ByteArray)(c d:Int)(e:Value)(b:Nat)(w:World)(f:w.cell? ⟨b,0,none⟩=some (.string s)):
  CB 148 #[.agg #[.string a,.int .i64 c,.int .i64 d,e],.pointer (some ⟨b,0,none⟩)] w (.bool (decide (a=s))):=by
 have g:b<w.heap.size:=kK w _ f;have HD:Hid ((a.toList==s.toList)=decide (a=s)):=hid NF;go_enter func148,ntmps148;exact YX
theorem Lh(f:aC.dA)(s:ByteArray)(a c:Value)(b:Nat)(w:World)(d:w.cell? ⟨b,0,none⟩=some (.string s)):
  CB 100 #[.agg (dh f a c).toArray,.pointer (some ⟨b,0,none⟩)] w (.bool (decide (f.name=s))):=by
 have e:b<w.heap.size:=kK w _ d;have HD:Hid ((f.name.toList==s.toList)=decide (f.name=s)):=hid NF;obtain⟨g,o,up,k,h,i,j,l⟩:=f;simp only[dh] at HD ⊢;go_enter func100,ntmps100;exact YX
theorem aaI(h:p:=by
  go_upto_region 1 with fail
  rw[<-HW.out]
  go_wp2_with fail
  refine HK.out.mono ?_
  rintro e w' ⟨rfl,hb⟩
  have HB:=aR bL hb
  clear hb
  go_wp2
  go_ret
  exact⟨rfl,HB.out⟩):p:=h
theorem qY(x:aC.cE)(s:ByteArray)(v:Value)(S:Nat->Prop)(w:World)(a:dO S w v x):
  CB 98 #[v,.string s] w (.int .i64 (aC.dc x s)):=by
 obtain⟨b,c,d,f,g,h,rfl,i,l,m,n,o,q⟩:=a.form;obtain⟨w1,hw1⟩:=bJ ((bSx w x b d g c f h).alloc (.cells #[.string s] 9));have bL:Hid (Below w.heap.size w w1):=hid J8;have HX:Hid (w1.heap[w.heap.size]?=some (.cells (sBx x b d g c f h) 27 (0,0))):=hid BK;have r:Hid (w1.cell? ⟨w.heap.size+1,0,none⟩=some (.string s)):=hid (by rw[hw1];delta bSx fJ;simp);have t:w.heap.size+1<w1.heap.size:=by rw[hw1];simp[bSx,fJ]
 have HK:=hid (YO dF x.ah (fun k:aC.fT=>decide (k.name=s)) _ S w1 (i.keep (aH.below bL.out)) 148 #[.pointer (some ⟨w.heap.size+1,0,none⟩)] (cF func148 zK rfl) (fun X u j C D _ y=>by
  obtain⟨A,rfl,E⟩:=y;exact OA _ s _ _ A _ X ((u.cell (p:=⟨w.heap.size+1,0,none⟩) t).trans r.out)))
 have B:Hid (aC.iN (fun k:aC.fT=>decide (k.name=s)) x.ah 0=aC.dc x s):=hid rfl;rw[B.out] at HK;generalize aC.dc x s=z at*;delta bSx fJ at hw1;have HW:=hid hw1;clear a i l m hw1;obtain⟨F,G,H,I⟩:=b4z HX.out;go_enter func98,ntmps98;exact aaI
theorem pH(k:aC.fT)(s:ByteArray)(b:Value)(S:Nat->Prop)(w:World)(a:dx S w b k.aF):
  CB 57 #[.agg (kH k b).toArray,.string s] w (.int .i64 (aC.bV k s)):=by
 obtain⟨c,d,rfl,g, -, -⟩:=a.form;obtain⟨w1,hw1⟩:=bJ ((w.alloc (.cells (kH k (.slice c k.aF.length d)).toArray 53)).alloc (.cells #[.string s] 9));have bL:Hid (Below w.heap.size w w1):=hid Qw;have HX:Hid (w1.heap[w.heap.size]?=some (.cells (kH k (.slice c k.aF.length d)).toArray 53 (0,0))):=hid abu;have h:Hid (w1.cell? ⟨w.heap.size+1,0,none⟩=some (.string s)):=hid J6;have i:w.heap.size+1<w1.heap.size:=J6
 have HK:=hid (YN bQ k.aF (fun f:aC.dA=>decide (f.name=s)) _ S w1 (a.keep (aH.below bL.out)) 100 #[.pointer (some ⟨w.heap.size+1,0,none⟩)] (cF func100 zK rfl) (fun X l j t u _ m=>by
  obtain⟨o,q,rfl,v,x⟩:=m;exact Lh k.aF[j] s o q _ X ((l.cell (p:=⟨w.heap.size+1,0,none⟩) i).trans h.out)))
 have r:Hid (aC.iN (fun f:aC.dA=>decide (f.name=s)) k.aF 0=aC.bV k s):=hid rfl;rw[r.out] at HK;generalize aC.bV k s=z at*;clear a;obtain⟨y,A,B,fs⟩:=k;simp only[kH] at hw1 HX HK ⊢;generalize fs.length=n at*;have HW:=hid hw1;clear hw1;obtain⟨C,D,E,F⟩:=b4z HX.out;go_enter func57,ntmps57;exact aaI
def mq(x:aC.cE)(i j:Int):aC.dA:=if aC.hasB x i j=true then aC.fd x i j else aC.AP
def AtP(x:aC.cE)(i j:Int)(S:Nat->Prop)(w:World)(e:Ending)(w':World):Prop:=
 ∃a1 a c1 b c c2,e=.returned (.tuple #[.agg (dh (mq x i j) (.slice a1 a c1) (.slice b c c2)).toArray,.bool (aC.hasB x i j)])/\
  (∀W,BL w W->gE S W (.slice a1 a c1) (mq x i j).cV/\bB S W (.slice b c c2) (mq x i j).bY)/\BL w w'
theorem I6{w:World}{g:Nat}{b c d e f i j k bd:Value}{a:Array Value}(h:w.heap[g]?=some (.cells #[b,c,d,e,f,i,j,k] 85 (0,0)))(l:a[6]?=some (.pointer (some ⟨g,0,none⟩)))(m:a[7]?=some bd):
  (results Tryz.f103 a).run prog w=.ok (.tuple #[.agg #[b,c,d,e,f,i,j,k],bd]) w:=by
 obtain⟨⟨n,o,p,q,r,s,t,u⟩, -⟩:=ez h;simp[results,results103,go_sem,l,m,n,o,p,q,r,s,t,u]
theorem Rn{x:aC.cE}{i j:Int}{S:Nat->Prop}{w w':World}(h:aC.hasB x i j=false)(a:BL w w'):
  AtP x i j S w (.returned (.tuple #[.agg #[.string {data:=#[]},.string {data:=#[]},.string {data:=#[]},.int .i64 0,.int .i64 0,.int .i64 0,.slice none 0 0,.slice none 0 0],.bool false])) w':=by
 have e:mq x i j=aC.AP:=by unfold mq;rw[h];rfl
 refine⟨none,0,0,none,0,0,?_,fun W _=>?_,a⟩
 ·rw[e,h];rfl
 ·rw[e];exact⟨eA.nil _ _ _,eA.nil _ _ _⟩
theorem Gr(h:p:=by
  go_enter func103,ntmps103
  go_upto_region 1 with fail
  rw[<-HW.out]
  go_wp2
  exact bodyPost_ret (I6 (agt.out _ _ _ _ _ _ _ _) rfl rfl) rfl (Rn HA.out (nM.out _ _ _ _ _ _ _ _))):p:=h
theorem qd(x:aC.cE)(i j:Int)(v:Value)(S:Nat->Prop)(w:World)(U:dO S w v x):
  CP 103 #[v,.int .i64 i,.int .i64 j] w (AtP x i j S w):=by
 obtain⟨A,V,X,Y,Z,cr,rfl,D,hl,hr,E,aa,ab⟩:=U.form;obtain⟨w1,hw1⟩:=bJ ((bSx w x A X Z V Y cr).alloc (.cells #[.string {data:=#[]},.string {data:=#[]},.string {data:=#[]},.int .i64 0,.int .i64 0,.int .i64 0,.slice none 0 0,.slice none 0 0] 85));have d:Hid (Below w.heap.size w w1):=hid J8;have HX:Hid (w1.heap[w.heap.size]?=some (.cells #[.int .i64 x.aQ,.slice A x.ah.length V,.slice X x.aV.length Y,.slice Z x.aX.length cr] 27 (0,0))):=hid BK;have F:Hid (w1.heap[w.heap.size+1]?=some (.cells #[.string {data:=#[]},.string {data:=#[]},.string {data:=#[]},.int .i64 0,.int .i64 0,.int .i64 0,.slice none 0 0,.slice none 0 0] 85 (0,0))):=hid (by rw[hw1];exact bD _ _ (by simp[bSx,fJ]));have G:=hid (D.keep (aH.below d.out));have Zd:=hid D;delta bSx fJ at hw1;have HW:=hid hw1
 have nM:Hid (∀o k r s t u y z:Value,BL w ((((((((w1.setCell ⟨w.heap.size+1,0,none⟩ o).setCell ⟨w.heap.size+1,1,none⟩ k).setCell ⟨w.heap.size+1,2,none⟩ r).setCell ⟨w.heap.size+1,3,none⟩ s).setCell ⟨w.heap.size+1,4,none⟩ t).setCell ⟨w.heap.size+1,5,none⟩ u).setCell ⟨w.heap.size+1,6,none⟩ y).setCell ⟨w.heap.size+1,7,none⟩ z)):=hid (fun o k r s t u y z=>by
  have:=Kq F.out o k r s t u y z;exact d.out.trans (Turns.below this.2 d.out.size (fun b hb=>by omega)))
 clear U D hl hr hw1;obtain⟨o,k,r,s⟩:=b4z HX.out;obtain⟨⟨g0,g1,g2,g3,g4,g5,g6,g7⟩,gf⟩:=ez F.out;obtain⟨n,H⟩:=bJ x.ah.length;have HN:=hid H;rw[<-H] at k E G Zd HX HW ⊢;clear H;have g:=fun o k r s t u y z=>(Kq F.out o k r s t u y z).1;have agt:=hid g;clear g;by_cases h1:i<0
 ·have HA:Hid (aC.hasB x i j=false):=hid FX
  exact Gr
 ·by_cases h2:(n:Int)<=i
  ·have HA:Hid (aC.hasB x i j=false):=hid (by unfold aC.hasB;rw[decide_eq_false (show ¬i<x.ah.length by rw[<-HN.out];omega)];simp)
   exact Gr
  ·by_cases h3:j<0
   ·have HA:Hid (aC.hasB x i j=false):=hid yx
    exact Gr
   ·obtain⟨m,rfl⟩:∃m:Nat,i=(m:Int):=⟨i.toNat,aD⟩
    have I:m<x.ah.length:=abp
    have J:(0:Int)<=m:=aD
    have ad:(m:Int)<n:=aD
    have HA:Hid (aC.hasB x m j=decide (j<(x.ah[m].aF.length:Int))):=hid (by
     unfold aC.hasB
     rw[decide_eq_true J,decide_eq_true (show (m:Int)<x.ah.length by rw[<-HN.out];omega),decide_eq_true (show 0<=j by omega),dH I];rfl)
    obtain⟨pU, -, -, -, -,uf,v3,B⟩:=Zd.out.at I;obtain⟨a,cap,rfl,ae, -, -⟩:=B.form;have c3:=(d.out.cell (p:=⟨bM A,bT A+m*4+3,none⟩) pU).trans v3;clear v3;by_cases h4:(x.ah[m].aF.length:Int)<=j
    ·have C:Hid (aC.hasB x m j=false):=hid (by rw[HA.out];exact decide_eq_false aD)
     clear B;generalize x.ah[m].aF.length=q at*;go_enter func103,ntmps103;go_upto_region 1 with fail;rw[<-HW.out];go_wp2;exact bodyPost_ret (I6 (agt.out _ _ _ _ _ _ _ _) rfl rfl) rfl (Rn C.out (nM.out _ _ _ _ _ _ _ _))
    ·obtain⟨p,rfl⟩:∃p:Nat,j=(p:Int):=⟨j.toNat,aD⟩
     have K:p<x.ah[m].aF.length:=aD
     have af:(0:Int)<=p:=aD
     have ag:(p:Int)<x.ah[m].aF.length:=aD
     have C:Hid (aC.hasB x m p=true):=hid (by rw[HA.out];exact decide_eq_true aD);have HF:Hid (mq x m p=x.ah[m].aF[p]):=hid (by unfold mq;rw[C.out];exact iX I K);obtain⟨h, -,L,M,N,O,P,Q,uw,ug,d6,d7,l,R⟩:=B.at K;obtain⟨a1,n1,e1,rfl⟩:∃a n c,uw=.slice a n c:=by obtain⟨a,c,e, -⟩:=l.form;exact⟨_,_,_,e⟩
     obtain⟨a2,n2,e2,rfl⟩:∃a n c,ug=.slice a n c:=by obtain⟨a,c,e, -⟩:=R.form;exact⟨_,_,_,e⟩
     have L:=(d.out.cell (p:=⟨bM a,bT a+p*8,none⟩) h).trans L;have M:=(d.out.cell (p:=⟨bM a,bT a+p*8+1,none⟩) h).trans M;have N:=(d.out.cell (p:=⟨bM a,bT a+p*8+2,none⟩) h).trans N;have O:=(d.out.cell (p:=⟨bM a,bT a+p*8+3,none⟩) h).trans O;have P:=(d.out.cell (p:=⟨bM a,bT a+p*8+4,none⟩) h).trans P;have Q:=(d.out.cell (p:=⟨bM a,bT a+p*8+5,none⟩) h).trans Q;have d6:=(d.out.cell (p:=⟨bM a,bT a+p*8+6,none⟩) h).trans d6;have d7:=(d.out.cell (p:=⟨bM a,bT a+p*8+7,none⟩) h).trans d7
     have KR:Hid (∀T,BL w T->AtP x m p S w (.returned (.tuple #[.agg (dh x.ah[m].aF[p] (.slice a1 n1 e1) (.slice a2 n2 e2)).toArray,.bool true])) T):=hid (fun T hb=>
      ⟨a1,n1,e1,a2,n2,e2,by rw[HF.out,C.out],fun W hW=>by rw[HF.out];exact⟨l.keep (aH.below hW),R.keep (aH.below hW)⟩,hb⟩)
     clear B l R;generalize x.ah[m].aF[p]=f at*;obtain⟨ai,fo,fu,fk,fl,fh,EW,EX⟩:=f;simp only[dh] at KR;simp only at L M N O P Q;clear K;generalize x.ah[m].aF.length=q at*;go_enter func103,ntmps103;go_upto_region 1 with fail;rw[<-HW.out];go_wp2;exact bodyPost_ret (I6 (agt.out _ _ _ _ _ _ _ _) rfl rfl) rfl (KR.out _ (nM.out _ _ _ _ _ _ _ _))
theorem agu{x:aC.cE}{i j:Int}(h:aC.hasB x i j=false):aC.eD x i j= -1:=by unfold aC.eD;rw[h];rfl
theorem Tz{x:aC.cE}{i j:Int}(h:aC.hasB x i j=true)(a:¬(aC.fd x i j).kind=7)(b:¬(aC.fd x i j).kind=8)(h1:¬(aC.fd x i j).kind=1):aC.eD x i j= -1:=by
 unfold aC.eD;rw[if_pos h];simp only;rw[if_neg aD,if_neg h1]
theorem Li{x:aC.cE}{i j:Int}(h:aC.hasB x i j=true)(h1:(aC.fd x i j).kind=1):aC.eD x i j=aC.tM x i (aC.fd x i j):=by
 unfold aC.eD;rw[if_pos h];simp only;rw[if_neg aD,if_pos h1]
theorem TD{x:aC.cE}{i j:Int}(h:aC.hasB x i j=true)(a:(aC.fd x i j).kind=7\/(aC.fd x i j).kind=8):aC.eD x i j=if aC.hasB x i (aC.bV (aC.kd x i) (aC.fd x i j).up)=true/\aC.bV (aC.kd x i) (aC.fd x i j).up<j/\(aC.fd x i (aC.bV (aC.kd x i) (aC.fd x i j).up)).kind=1 then aC.tM x i (aC.fd x i (aC.bV (aC.kd x i) (aC.fd x i j).up)) else -1:=by
 unfold aC.eD;rw[if_pos h];simp only;rw[if_pos a]
theorem yT{x:aC.cE}{i j:Int}(h:aC.hasB x i j=true):mq x i j=aC.fd x i j:=by unfold mq;rw[if_pos h]
theorem Ro(x:aC.cE)(i j:Int)(g:¬(mq x i j).kind=7)(h:¬(mq x i j).kind=8)(v:Value)(S:Nat->Prop)(w:World)(E:dO S w v x):
  CB 72 #[v,.int .i64 i,.int .i64 j] w (.int .i64 (aC.eD x i j)):=by
 obtain⟨R,T,U,V,X,Y,rfl,J,Z,hr,aa,ab,ad⟩:=E.form;have C:=hid (fun W (hW:BL w W)=>E.keep (aH.below hW));have Zd:=hid J;obtain⟨w1,b⟩:=bJ (bSx w x R U X T V Y);have m:=yL b;have HX:=IQ b;delta bSx fJ at b;have F:=hid b;clear E J Z hr b;obtain⟨r,s,t,u⟩:=b4z (HX.out w1 aG);cases hb:aC.hasB x i j with
 |false=>
  have HE:=hid (agu hb)
  go_enter func72,ntmps72
  go_upto_region 1 with fail
  rw[<-F.out]
  go_wp2_with fail
  refine(qd x i j _ S w1 (C.out w1 m.out)).mono ?_
  rintro e w2 ⟨a1,n,c1,p,q,c2,rfl, -,a⟩
  have f9:Hid (BL w1 w2):=hid a
  have cH:=aR m a
  clear a r s t u
  rw[hb]
  clear hb
  have G:Hid (∀o,BL w (w2.alloc o)):=hid fun o=>cH.out.alloc cH.out.size _
  generalize mq x i j=f at*
  obtain⟨y,k,K,fk,L,M,N,O⟩:=f
  simp only[dh]
  go_wp2
  go_ret
  exact⟨wY,G.out _⟩
 |true=>
  have d:=yT hb
  by_cases h1:(mq x i j).kind=1
  ·have HE:Hid (aC.eD x i j=aC.tM x i (mq x i j)):=hid (by rw[d] at h1 ⊢;exact Li hb h1)
   go_enter func72,ntmps72;go_upto_region 1 with fail;rw[<-F.out];go_wp2_with fail;refine(qd x i j _ S w1 (C.out w1 m.out)).mono ?_;rintro e w2 ⟨a1,n,c1,p,q,c2,rfl, -,a⟩;have f9:Hid (BL w1 w2):=hid a;have cH:=aR m a;clear a r s t u;rw[hb];clear hb d;obtain⟨f,l⟩:=bJ (mq x i j);rw[<-l];have H:=hid l;clear l;obtain⟨w3,hw3⟩:=bJ (w2.alloc (.cells (dh f (.slice a1 n c1) (.slice p q c2)).toArray 85));have gT:Hid (Below w1.heap.size w1 w3):=hid zR;have D:Hid (Below w.heap.size w w3):=hid WB;have z:Hid (w3.heap[w2.heap.size]?=some (.cells (dh f (.slice a1 n c1) (.slice p q c2)).toArray 85 (0,0))):=hid ahS;have c:=hid hw3;clear hw3;rw[<-H.out] at h1 g h HE;obtain⟨y,k,K,fk,L,M,N,O⟩:=f;simp only[dh] at z c ⊢;obtain⟨⟨u0,u1,u2,u3,u4,u5,u6,u7⟩, -⟩:=ez z.out;obtain⟨r,s,t,u⟩:=b4z (HX.out w3 gT.out);simp only at h1 g h;subst h1;have vE:=hid (qY x k _ S w3 (C.out w3 D.out));have HR:Hid (aC.eD x i j=if aC.dc x k<i then aC.dc x k else -1):=hid wY;have ae: -1<=aC.dc x k:=aC.j8 _ _ _;generalize aC.dc x k=P at*;go_upto_region 2 with fail;rw[<-c.out];go_wp2_with fail;refine vE.out.mono ?_;rintro e w4 ⟨rfl,A⟩;have Q:=aR D A;clear A;by_cases B:P<i
   ·have I:Hid (aC.eD x i j=P):=hid (by rw[HR.out,if_pos B])
    go_wp2;go_ret;exact⟨by rw[I.out];rfl,Q.out⟩
   ·have I:Hid (aC.eD x i j= -1):=hid (by rw[HR.out,if_neg B])
    go_wp2;go_ret;exact⟨by rw[I.out];rfl,Q.out⟩
  ·have HE:Hid (aC.eD x i j= -1):=hid (by rw[d] at h1 g h;exact Tz hb g h h1)
   go_enter func72,ntmps72;go_upto_region 1 with fail;rw[<-F.out];go_wp2_with fail;refine(qd x i j _ S w1 (C.out w1 m.out)).mono ?_;rintro e w2 ⟨a1,n,c1,p,q,c2,rfl, -,a⟩;have f9:Hid (BL w1 w2):=hid a;have cH:=aR m a;clear a r s t u;rw[hb];clear hb d;obtain⟨f,l⟩:=bJ (mq x i j);rw[<-l];have H:=hid l;clear l;obtain⟨w3,hw3⟩:=bJ (w2.alloc (.cells (dh f (.slice a1 n c1) (.slice p q c2)).toArray 85));have gT:Hid (Below w1.heap.size w1 w3):=hid zR;have D:Hid (Below w.heap.size w w3):=hid WB;have z:Hid (w3.heap[w2.heap.size]?=some (.cells (dh f (.slice a1 n c1) (.slice p q c2)).toArray 85 (0,0))):=hid ahS;have c:=hid hw3;clear hw3;rw[<-H.out] at h1 g h;obtain⟨y,k,K,fk,L,M,N,O⟩:=f;simp only[dh] at z c ⊢;obtain⟨⟨u0,u1,u2,u3,u4,u5,u6,u7⟩, -⟩:=ez z.out;obtain⟨r,s,t,u⟩:=b4z (HX.out w3 gT.out);simp only at h1 g h;have e1:(fk==7)=false:=by simpa using g
   have e2:(fk==8)=false:=by simpa using h
   have e3:(fk !=1)=true:=Wz
   go_upto_region 2 with fail;rw[<-c.out];go_wp2;go_ret;exact⟨wY,D.out⟩
theorem uE(x:aC.cE)(i j:Int)(v:Value)(S:Nat->Prop)(w:World)(hv:dO S w v x):
  CB 72 #[v,.int .i64 i,.int .i64 j] w (.int .i64 (aC.eD x i j)):=by
 by_cases b:(mq x i j).kind=7\/(mq x i j).kind=8
 ·have H:aC.hasB x i j=true:=by
   cases H:aC.hasB x i j
   ·unfold mq at b
    rw[H] at b;simp[aC.AP] at b
   ·rfl
  have T:=yT H;obtain⟨m,p,rfl,rfl,hm,hp⟩:=yK H
  have U:aC.eD x (m:Int) (p:Int)=if aC.hasB x m (aC.bV (aC.kd x m) (mq x m p).up)=true/\aC.bV (aC.kd x m) (mq x m p).up<p/\(aC.fd x m (aC.bV (aC.kd x m) (mq x m p).up)).kind=1 then aC.tM x m (aC.fd x m (aC.bV (aC.kd x m) (mq x m p).up)) else -1:=by
   rw[T] at b ⊢;exact TD H b
  have I:=hid U;clear U;obtain⟨d,ck,al,cl,ar,cr,rfl,hk,hl,hr,an,ao,ap⟩:=hv.form;have HV:=hid (fun W (q:BL w W)=>hv.keep (aH.below q));have Zd:=hid hk;obtain⟨w1,n⟩:=bJ (bSx w x d al ar ck cl cr);have bL:=yL n;have HX:=IQ n;delta bSx fJ at n;have HW:=hid n;clear hv hk hl hr n;obtain⟨r,t,u,y⟩:=b4z (HX.out w1 aG);obtain⟨pU, -,k0,k1,k2,uf,k3,nN⟩:=Zd.out.at hm;obtain⟨af,cf,rfl, -, -, -⟩:=nN.form
  have Lj:Hid (∀W,BL w W->W.cell? ⟨bM d,bT d+m*4,none⟩=some (.string x.ah[m].name)/\W.cell? ⟨bM d,bT d+m*4+1,none⟩=some (.int .i64 x.ah[m].lo)/\W.cell? ⟨bM d,bT d+m*4+2,none⟩=some (.int .i64 x.ah[m].hi)/\W.cell? ⟨bM d,bT d+m*4+3,none⟩=some (.slice af x.ah[m].aF.length cf)):=hid (fun W q=>
   ⟨(q.cell (p:=⟨bM d,bT d+m*4,none⟩) pU).trans k0,(q.cell (p:=⟨bM d,bT d+m*4+1,none⟩) pU).trans k1,(q.cell (p:=⟨bM d,bT d+m*4+2,none⟩) pU).trans k2,(q.cell (p:=⟨bM d,bT d+m*4+3,none⟩) pU).trans k3⟩)
  have JU:=hid (fun(s:ByteArray) (W:World) (q:BL w W)=>pH x.ah[m] s _ S W (nN.keep (aH.below q)));rw[<-dH hm] at JU;have aq:(0:Int)<=m:=aD
  have au:(m:Int)<x.ah.length:=aD
  have Fu:Hid ((aC.kd x m).aF.length=x.ah[m].aF.length):=hid (by rw[dH hm]);clear k0 k1 k2 k3 nN;go_enter func72,ntmps72;go_upto_region 1 with fail;rw[<-HW.out];go_wp2_with fail;refine(qd x (m:Int) (p:Int) _ S w1 (HV.out w1 bL.out)).mono ?_;rintro e w2 ⟨a1,n1,c1,a2,n2,c2,rfl, -,c⟩;have f9:Hid (BL w1 w2):=hid c;have cH:=aR bL c;clear c r t u y;rw[H];clear H T;obtain⟨f,hf⟩:=bJ (mq x (m:Int) (p:Int));rw[<-hf];have HF:=hid hf;clear hf;obtain⟨w3,hw3⟩:=bJ (w2.alloc (.cells (dh f (.slice a1 n1 c1) (.slice a2 n2 c2)).toArray 85));have gT:Hid (Below w1.heap.size w1 w3):=hid zR;have cN:Hid (Below w.heap.size w w3):=hid WB;have rV:Hid (w3.heap[w2.heap.size]?=some (.cells (dh f (.slice a1 n1 c1) (.slice a2 n2 c2)).toArray 85 (0,0))):=hid ahS;have V:=hid hw3;clear hw3;rw[<-HF.out] at b I;obtain⟨av,fo,fu,fk,fl,fh,EW,EX⟩:=f;simp only[dh] at rV V ⊢;obtain⟨⟨u0,u1,u2,u3,u4,u5,u6,u7⟩, -⟩:=ez rV.out;obtain⟨r,t,u,y⟩:=b4z (HX.out w3 gT.out);simp only at b I;obtain⟨l,z⟩:=bJ (aC.bV (aC.kd x m) fu);have OB: -1<=l:=by rw[z];exact aC.j8 _ _ _
  rw[<-z] at I;have Y:=hid (fun(X:gV w3)=>Calls.fQ (x:=X) (JU.out fu X.1 (bO cN.out X.2)));rw[<-z] at Y;clear z;have aw:w2.heap.size<w3.heap.size:=aI rV.out;have aj:w.heap.size<w3.heap.size:=aI (HX.out w3 gT.out);have am:bM d<w3.heap.size:=by have:=cN.out.size;omega
  obtain⟨J,K,L,M⟩:=Lj.out w3 cN.out
  have hd:∀k,k=fk->(k==7||k==8)=true:=fun k e=>by
   subst e;rcases b with h|h<;>rw[h]<;>rfl
  have ad:Hid (fk=7\/fk=8):=hid b;clear b hd;generalize (aC.kd x m).name=kn at*;rw[dH hm] at Y;obtain⟨ae,Z⟩:=bJ (x.ah[m]);rw[<-Z] at Y J K L M;clear Z;obtain⟨ax,Gy,Gz,Fv⟩:=ae;simp only[kH] at Y;simp only at J K L M;generalize Fv.length=nf at*;have aa:∀(Q:Prop),(fk=7->Q)->(fk=8->Q)->Q:=fun Q h1 h2=>ad.out.elim h1 h2;refine aa _ ?_ ?_
  all_goals
   intro I7
   subst I7
   clear aa
   go_upto_region 2 with fail
   rw[<-V.out]
   go_wp2
   have hg:=gV.cell (w:=w3)
   refine cQ zK zK ?_
   repeat (go_big_quiet_step ((exact Y.out _)))
   refine iU ?_
   intro w4 hx
   have N:=eP hx
   have kJ:=aR gT N
   have gX:=aR cN N
   clear hx hg N r t u y u0 u1 u2 u3 u4 u5 u6 u7 J K L M
   obtain⟨r,t,u,y⟩:=b4z (HX.out w4 kJ.out)
   go_wp2_with fail
   refine(qd x (m:Int) l _ S w4 (HV.out w4 gX.out)).mono ?_
   rintro e w5 ⟨A,B,C,D,E,F,rfl, -,jZ⟩
   have kY:=aR kJ jZ
   have iH:=aR gX jZ
   clear jZ r t u y
   cases c:aC.hasB x (m:Int) l with
   |false=>
    have HE:Hid (aC.eD x (m:Int) (p:Int)= -1):=hid (by rw[I.out,if_neg (by rw[c];simp)])
    clear c
    obtain⟨f2,a⟩:=bJ (mq x (m:Int) l)
    rw[<-a]
    have Dc:=hid a
    clear a
    obtain⟨w6,wg⟩:=bJ (w5.alloc (.cells (dh f2 (.slice A B C) (.slice D E F)).toArray 85))
    have O:Hid (Below w1.heap.size w1 w6):=hid afh
    have G:Hid (Below w.heap.size w w6):=hid afi
    have JT:Hid (w6.heap[w5.heap.size]?=some (.cells (dh f2 (.slice A B C) (.slice D E F)).toArray 85 (0,0))):=hid Sl
    have o:=hid wg
    clear wg
    obtain⟨P,go,gu,gk,gl,gh,Fw,R⟩:=f2
    simp only[dh] at JT o ⊢
    obtain⟨⟨u0,u1,u2,u3,u4,u5,u6,u7⟩, -⟩:=ez JT.out
    obtain⟨r,t,u,y⟩:=b4z (HX.out w6 O.out)
    go_upto_region 7 with fail
    rw[<-o.out]
    go_wp2
    go_ret
    exact⟨wY,G.out⟩
   |true=>
    have OC:=yT c
    by_cases ab:l<(p:Int)
    ·by_cases h1:(mq x (m:Int) l).kind=1
     ·have HE:Hid (aC.eD x (m:Int) (p:Int)=aC.eD x (m:Int) l):=hid (by
       have g:=h1
       rw[OC] at g
       rw[I.out,if_pos ⟨c,ab,g⟩,Li c g])
      have ag:=hid (fun W (q:BL w W)=>Ro x (m:Int) l aD aD _ S W (HV.out W q));clear c OC;obtain⟨f2,a⟩:=bJ (mq x (m:Int) l);rw[<-a];have Dc:=hid a;rw[<-a] at h1;clear a;obtain⟨w6,wg⟩:=bJ (w5.alloc (.cells (dh f2 (.slice A B C) (.slice D E F)).toArray 85));have O:Hid (Below w1.heap.size w1 w6):=hid afh;have G:Hid (Below w.heap.size w w6):=hid afi;have JT:Hid (w6.heap[w5.heap.size]?=some (.cells (dh f2 (.slice A B C) (.slice D E F)).toArray 85 (0,0))):=hid Sl;have o:=hid wg;clear wg;obtain⟨P,go,gu,gk,gl,gh,Fw,R⟩:=f2;simp only[dh] at JT o ⊢;obtain⟨⟨u0,u1,u2,u3,u4,u5,u6,u7⟩, -⟩:=ez JT.out;obtain⟨r,t,u,y⟩:=b4z (HX.out w6 O.out);go_upto_region 7 with fail;rw[<-o.out];simp only at h1;subst h1;have ai:=hid (ag.out w6 G.out);generalize aC.eD x (m:Int) l=rz at*;go_wp2_with fail;refine ai.out.mono ?_;rintro e w7 ⟨rfl,mI⟩;have jb:=aR G mI;clear mI;go_wp2;go_ret;exact⟨wY,jb.out⟩
     ·have HE:Hid (aC.eD x (m:Int) (p:Int)= -1):=hid (by
       have g:=h1
       rw[OC] at g
       rw[I.out,if_neg (fun h=>g h.2.2)])
      clear c OC;obtain⟨f2,a⟩:=bJ (mq x (m:Int) l);rw[<-a];have Dc:=hid a;rw[<-a] at h1;clear a;obtain⟨w6,wg⟩:=bJ (w5.alloc (.cells (dh f2 (.slice A B C) (.slice D E F)).toArray 85));have O:Hid (Below w1.heap.size w1 w6):=hid afh;have G:Hid (Below w.heap.size w w6):=hid afi;have JT:Hid (w6.heap[w5.heap.size]?=some (.cells (dh f2 (.slice A B C) (.slice D E F)).toArray 85 (0,0))):=hid Sl;have o:=hid wg;clear wg;obtain⟨P,go,gu,gk,gl,gh,Fw,R⟩:=f2;simp only[dh] at JT o ⊢;obtain⟨⟨u0,u1,u2,u3,u4,u5,u6,u7⟩, -⟩:=ez JT.out;obtain⟨r,t,u,y⟩:=b4z (HX.out w6 O.out);go_upto_region 7 with fail;rw[<-o.out];simp only at h1;have e1:(gk==1)=false:=Wz
      go_wp2;go_ret;exact⟨wY,G.out⟩
    ·have HE:Hid (aC.eD x (m:Int) (p:Int)= -1):=hid (by rw[I.out,if_neg (fun h=>ab h.2.1)])
     clear c OC;obtain⟨f2,a⟩:=bJ (mq x (m:Int) l);rw[<-a];have Dc:=hid a;clear a;obtain⟨w6,wg⟩:=bJ (w5.alloc (.cells (dh f2 (.slice A B C) (.slice D E F)).toArray 85));have O:Hid (Below w1.heap.size w1 w6):=hid afh;have G:Hid (Below w.heap.size w w6):=hid afi;have JT:Hid (w6.heap[w5.heap.size]?=some (.cells (dh f2 (.slice A B C) (.slice D E F)).toArray 85 (0,0))):=hid Sl;have o:=hid wg;clear wg;obtain⟨P,go,gu,gk,gl,gh,Fw,R⟩:=f2;simp only[dh] at JT o ⊢;obtain⟨⟨u0,u1,u2,u3,u4,u5,u6,u7⟩, -⟩:=ez JT.out;obtain⟨r,t,u,y⟩:=b4z (HX.out w6 O.out);go_upto_region 7 with fail;rw[<-o.out];go_wp2;go_ret;exact⟨wY,G.out⟩
 ·exact Ro x i j (fun h=>b (.inl h)) (fun h=>b (.inr h)) v S w hv
theorem Ak(n:Nat)(cs:Nat->Int)(g cap:Nat)(w:World)(q:n<=100)(c:g<w.heap.size)(d:∀i,i<n->w.cell? ⟨g,i*2,none⟩=some (.bool false)/\w.cell? ⟨g,i*2+1,none⟩=some (.int .i64 (cs i))):
  CB 55 #[.slice (some ⟨g,0,none⟩) n cap] w (.int .i64 0):=by
 have e:=hid d;have f:=hid c;have h:dV (some ⟨g,0,none⟩) n:=fun _=>⟨_,_,rfl⟩;clear d c;go_enter func55,ntmps55;go_wp2;go_loopw [7] (fun i wr=>∃k:Nat,k<=n/\i=.int .i64 k/\Hid (BL w wr)) (fun i _=>n-(intOf i).toNat);case atStart=>exact⟨0,zxa _,rfl,hid aG⟩
 case round=>
  obtain⟨k,r,rfl,a⟩:=hrel;by_cases b:k<n
  ·have j:=zN k
   have l:=zL k n
   have s:wr.cell? ⟨g,k*2,none⟩=some (.bool false):=(a.out.cell (p:=⟨g,k*2,none⟩) f.out).trans (e.out k b).1;have t:wr.cell? ⟨g,k*2+1,none⟩=some (.int .i64 (cs k)):=(a.out.cell (p:=⟨g,k*2+1,none⟩) f.out).trans (e.out k b).2;have m:Hid (∀o,BL w (wr.alloc o)):=hid fun o=>a.out.alloc a.out.size _;go_wp2;go_roundw;case rel=>exact⟨k+1,aD,zG,hid (m.out _)⟩
   exact zI
  ·obtain rfl:k=n:=by omega
   go_wp2;go_ret;exact⟨rfl,a.out⟩
def Nk(x:aC.cE)(i o:Int)(s:aC.Nm)(k:Nat):List Int:=
 ((List.range k).map fun j:Nat=>(j:Int)).filter fun j=>decide ((aC.fd x o j).kind=7)&&decide ((aC.fd x o j).of=s)&&decide (aC.eD x o j=i)
theorem Ll(x:aC.cE)(i o:Int)(s:aC.Nm)(k:Nat):Nk x i o s (k+1)=Nk x i o s k++(if (decide ((aC.fd x o k).kind=7)&&decide ((aC.fd x o k).of=s)&&decide (aC.eD x o k=i))=true then [(k:Int)] else []):=by
 unfold Nk;rw[zxs,zxj,alX];congr 1;simp only[zxt,List.map_nil,List.filter_cons,List.filter_nil]
theorem Zj{x:aC.cE}{i o:Int}{s:aC.Nm}{k:Nat}(h:¬((aC.fd x o k).kind=7/\(aC.fd x o k).of=s/\aC.eD x o k=i)):Nk x i o s (k+1)=Nk x i o s k:=by
 rw[Ll,if_neg,zxp];simp only[pR,oW,and_assoc];exact h
theorem Rp{x:aC.cE}{i o:Int}{s:aC.Nm}{k:Nat}(h:(aC.fd x o k).kind=7/\(aC.fd x o k).of=s/\aC.eD x o k=i):Nk x i o s (k+1)=Nk x i o s k++[(k:Int)]:=by
 rw[Ll,if_pos];simp only[pR,oW,and_assoc];exact h
def vF(x:aC.cE)(i:Int)(f:aC.dA)(w:World)(e:Ending)(w':World):Prop:=
 ∃a cap,e=.returned (.tuple #[.int .i64 (aC.jQ x i f),.slice a (aC.jR x i f).length cap])/\bp (w.heap.size<=·) w' (.slice a (aC.jR x i f).length cap) (aC.jR x i f)/\BL w w'
theorem Lm{x:aC.cE}{i:Int}{f:aC.dA}{w w':World}(h:aC.jQ x i f= -1)(a:BL w w'):
  vF x i f w (.returned (.tuple #[.int .i64 (-1),.slice none 0 0])) w':=by
 have e:aC.jR x i f=[]:=by unfold aC.jR;rw[h];rfl
 refine⟨none,0,?_,?_,a⟩
 ·rw[h,e];rfl
 ·rw[e];exact bp.nil _ _
theorem amb(h:p:=by
  go_wp2
  go_roundw
  case rel=>exact⟨k+1,a,c,l,aD,zG,rfl,aD,yU,HI3,gT⟩
  exact zI):p:=h
theorem OD(x:aC.cE)(i:Int)(hi:0<=i)(f:aC.dA)(v uw ug:Value)(S:Nat->Prop)(w:World)(hv:dO S w v x)(h6:x.ah.length<=1000)(aa:∀k∈x.ah,k.aF.length<=1000):
  CP 268 #[v,.int .i64 i,.agg (dh f uw ug).toArray] w (vF x i f w):=by
 obtain⟨H,ck,al,cl,ar,cr,rfl,hk,hl,hr,ao,ap,aq⟩:=hv.form;have HV:=hid (fun W (n:BL w W)=>hv.keep (aH.below n));have Zd:=hid hk;obtain⟨w1,hw1⟩:=bJ ((bSx w x H al ar ck cl cr).alloc (.cells (dh f uw ug).toArray 85));have X:Hid (Below w.heap.size w w1):=hid J8;have HX:Hid (∀W,BL w1 W->W.heap[w.heap.size]?=some (.cells (sBx x H al ar ck cl cr) 27 (0,0))):=hid (fun W n=>(n.block _ (by rw[hw1];simp[bSx,fJ];omega)).trans BK);have K:Hid (∀W,BL w1 W->W.heap[w.heap.size+1]?=some (.cells (dh f uw ug).toArray 85 (0,0))):=hid (fun W n=>(n.block _ (by rw[hw1];simp[bSx,fJ])).trans (by rw[hw1];exact bD _ _ (by simp[bSx,fJ])));delta bSx fJ at hw1;have HW:=hid hw1;clear hv hk hl hr hw1;have vE:=hid (qY x f.of _ S w1 (HV.out w1 X.out));have L:Hid (aC.jQ x i f=if f.kind=6/\i<aC.dc x f.of then aC.dc x f.of else -1):=hid rfl;have GA:Hid (aC.jR x i f=if aC.jQ x i f<0 then [] else aC.mP x i (aC.jQ x i f) f.name):=hid rfl;have au: -1<=aC.dc x f.of:=aC.j8 _ _ _
 have av:aC.dc x f.of<x.ah.length:=by
  rcases kS (fun k:aC.fT=>decide (k.name=f.of)) x.ah with h|h
  ·exact h
  ·unfold aC.dc;rw[h];omega
 have M:=hid (fun(t:World) (h:aC.jQ x i f= -1) (u:BL w t)=>Lm h u);have ab:Hid (∀e t,(∃a cap,e=.returned (.tuple #[.int .i64 (aC.jQ x i f),.slice a (aC.jR x i f).length cap])/\bp (w.heap.size<=·) t (.slice a (aC.jR x i f).length cap) (aC.jR x i f)/\BL w t)->vF x i f w e t):=hid (fun _ _ h=>h);refine Calls.mono (R:=fun e t=>Hid (vF x i f w e t)) ?_ (fun _ _ h=>h.out);generalize vF x i f w=SP at*;generalize aC.jQ x i f=oi at*;generalize aC.jR x i f=sl at*;generalize aC.dc x f.of=Y at*;obtain⟨q,fo,fu,fk,fl,fh,EW,EX⟩:=f;simp only[dh] at K HW L GA vE ⊢;obtain⟨Z,y1,y2,y3⟩:=b4z (HX.out w1 aG);obtain⟨⟨z0,z1,z2,z3,z4,z5,z6,z7⟩, -⟩:=ez (K.out w1 aG);go_enter func268,ntmps268;go_upto_region 1 with fail;rw[<-HW.out];go_wp2_with fail;refine vE.out.mono ?_;rintro e w2 ⟨rfl,y⟩;have f9:Hid (BL w1 w2):=hid y;have cH:=aR X y;clear y Z y1 y2 y3 z0 z1 z2 z3 z4 z5 z6 z7;obtain⟨Z,y1,y2,y3⟩:=b4z (HX.out w2 f9.out);obtain⟨⟨z0,z1,z2,z3,z4,z5,z6,z7⟩, -⟩:=ez (K.out w2 f9.out);by_cases r:fk=6
 ·by_cases N:i<Y
  ·subst r
   obtain⟨o,rfl⟩:∃o:Nat,Y=(o:Int):=⟨Y.toNat,aD⟩;have ho:o<x.ah.length:=aD
   have I:Hid (oi=(o:Int)):=hid (by rw[L.out,if_pos ⟨rfl,N⟩]);have z:Hid (sl=Nk x i o q (aC.kd x o).aF.length):=hid (by rw[GA.out,I.out,if_neg aD];rfl);clear L GA;obtain⟨pU, -,k0,k1,k2,uf,k3,nN⟩:=Zd.out.at ho;have tF:=hid nN;obtain⟨af,cf,rfl,ad, -, -⟩:=nN.form;have m:Hid ((aC.kd x o).aF.length=x.ah[o].aF.length):=hid (by rw[dH ho]);have EV:Hid (∀(j:Nat) (h:j<x.ah[o].aF.length),aC.fd x o j=x.ah[o].aF[j]):=hid (fun j h=>iX ho h);have tr:x.ah[o].aF.length<=1000:=aa _ (eV ho);have u0:w2.cell? ⟨bM H,bT H+o*4+3,none⟩=some (.slice af x.ah[o].aF.length cf):=(cH.out.cell (p:=⟨bM H,bT H+o*4+3,none⟩) pU).trans k3;have ax:(0:Int)<=o:=aD
   have K4:(o:Int)<x.ah.length:=aD
   have ae:¬((o:Int)<=i):=aD
   have zM:=hid (fun(j:Nat) (W:World) (n:BL w W)=>uE x o j _ S W (HV.out W n));rw[m.out] at z;clear k0 k1 k2 k3 nN m;generalize x.ah[o].aF=fs at*;obtain⟨O,A⟩:=bJ fs.length;have AL:=hid A;rw[<-A] at u0 tr ad z tF;clear A;go_wp2;go_loopw [31,9] (fun k v wr=>∃(k':Nat) (a:Option Addr) (c:Nat) (l:List Int),k'<=O/\k=.int .i64 k'/\v=.slice a l.length c/\l.length<=k'/\Hid (l=Nk x i o q k')/\Hid (bp (w1.heap.size<=·) wr (.slice a l.length c) l)/\Hid (BL w1 wr)) (fun k _ _=>O-(intOf k).toNat);case atStart=>exact⟨0,none,0,[],zxa _,rfl,rfl,aL,hid rfl,hid (bp.nil _ _),f9⟩
   case round=>
    obtain⟨k,a,c,l,hk,rfl,rfl,ay,B,HI,nJ⟩:=hrel;have kM:=aR X nJ.out;by_cases C:k<O
    ·have az:=zN k
     have aA:=zL k O
     obtain⟨Nj, -,f0,f1,f2,f3,f4,f5,aB,aE,f6,f7,CV,P⟩:=dx.at (tF.out.keep (aH.below kM.out)) (show k<fs.length by rw[<-AL.out];exact C);obtain⟨aw,cw,rfl, -, -, -⟩:=CV.form;obtain⟨ag,cg,rfl, -, -, -⟩:=P.form;clear CV P;have HE:Hid (aC.fd x o k=fs[k]'(by rw[<-AL.out];exact C)):=hid (EV.out k _);have ai:=hid (fun W (n:BL w W)=>zM.out k W n);have m:Hid (¬((aC.fd x o k).kind=7/\(aC.fd x o k).of=q/\aC.eD x o k=i)->l=Nk x i o q (k+1)):=hid (fun h=>by rw[Zj h];exact B.out);have D:Hid (((aC.fd x o k).kind=7/\(aC.fd x o k).of=q/\aC.eD x o k=i)->l++[(k:Int)]=Nk x i o q (k+1)):=hid (fun h=>by rw[Rp h,B.out]);rw[HE.out] at m D;generalize fs[k]'(by rw[<-AL.out];exact C)=g at*;clear HE;obtain⟨gn,go,gu,gk,gl,gh,Fw,aj⟩:=g;generalize Fw.length=nw at*;generalize aj.length=ng at*;simp only at f0 f1 f2 f3 f4 f5 f6 f7 m D;generalize aC.eD x o k=uz at*;obtain⟨⟨z0,z1,z2,z3,z4,z5,z6,z7⟩, -⟩:=ez (K.out wr nJ.out);obtain⟨w3,d⟩:=bJ (wr.alloc (.cells #[.string gn,.string go,.string gu,.int .i64 gk,.int .i64 gl,.int .i64 gh,(.slice aw nw cw),(.slice ag ng cg)] 85));have gT:Hid (Below w1.heap.size w1 w3):=hid (by rw[d];exact nJ.out.alloc nJ.out.size _);have cN:Hid (Below w.heap.size w w3):=hid (by rw[d];exact kM.out.alloc kM.out.size _);have rV:Hid (w3.heap[wr.heap.size]?=some (.cells #[.string gn,.string go,.string gu,.int .i64 gk,.int .i64 gl,.int .i64 gh,(.slice aw nw cw),(.slice ag ng cg)] 85 (0,0))):=hid (by rw[d];exact bD wr _ rfl);have HI3:Hid (bp (w1.heap.size<=·) w3 (.slice a l.length c) l):=hid (by rw[d];exact aW.keep HI.out (aH.below (aG.alloc aL _)));have am:=hid d;clear d;go_upto_region 8 with fail;rw[<-am.out];clear f0 f1 f2 f3 f4 f5 f6 f7 z0 z1 z2 z3 z4 z5 z6 z7 Z y1 y2 y3;obtain⟨⟨f0,f1,f2,f3,f4,f5,f6,f7⟩, -⟩:=ez rV.out;obtain⟨⟨z0,z1,z2,z3,z4,z5,z6,z7⟩, -⟩:=ez (K.out w3 gT.out);obtain⟨Z,y1,y2,y3⟩:=b4z (HX.out w3 gT.out);by_cases J:gk=7
     ·by_cases GD:go=q
      ·have es:(go.toList==q.toList)=true:=by rw[GD];simp
       have an:=hid (ai.out w3 cN.out);have E:=hid (fun(h:uz=i)=>D.out ⟨J,GD,h⟩);have aI:=hid GD;subst J;clear GD;go_wp2_with fail;refine an.out.mono ?_;rintro e w4 ⟨rfl,s⟩;have Q:=aR gT s;have gX:=aR cN s;have F:Hid (bp (w1.heap.size<=·) w4 (.slice a l.length c) l):=hid (aW.keep HI3.out (aH.below s));clear s;by_cases T:uz=i
       ·have yU:=hid (E.out T)
        subst T;clear m D E B;go_wp2_with (at_builtin;go_must (refine dI rfl _ _ rfl Tryz.jG rfl F.out (aG.alloc aL _) rfl (lg dr w4 _ (k:Int) rfl trivial) aD ?_));intro v' w5 Nl A1;obtain⟨l2,G⟩:=bJ (l++[(k:Int)]);rw[<-G] at Nl yU;have U:l2.length<=k+1:=by rw[G];simp;omega
        obtain⟨a2,c2,rfl, -, -, -⟩:=(bp.sl Nl).form;have qf:Hid (bp (w1.heap.size<=·) w5 (.slice a2 l2.length c2) l2):=hid (aW.mono Nl (fun b _ u=>eE Q.out.size b u));have kY:Hid (BL w1 w5):=hid ((Q.out.alloc Q.out.size _).trans (A1.below (by have:=Q.out.size;simp;omega) (fun b u=>F.out.2 b u.symm)));clear Nl A1 G;go_wp2;go_roundw;case rel=>exact⟨k+1,a2,c2,l2,aD,zG,rfl,U,yU,qf,kY⟩
        exact zI
       ·have eu:(uz==i)=false:=by simpa using T
        have yU:=hid (m.out (fun h=>T h.2.2));clear m D E B T;go_wp2;go_roundw;case rel=>exact⟨k+1,a,c,l,aD,zG,rfl,aD,yU,F,Q⟩
        exact zI
      ·have es:(go.toList==q.toList)=false:=by rw[NF];simpa using GD
       have yU:=hid (m.out (fun h=>GD h.2.1));subst J;clear m D B GD;exact amb
     ·have e7:(gk==7)=false:=by simpa using J
      have yU:=hid (m.out (fun h=>J h.1));clear m D B J;exact amb
    ·obtain rfl:k=O:=by omega
     have V:Hid (sl=l):=hid (by rw[z.out,B.out]);go_wp2;go_ret2;exact hid<|ab.out _ _ ⟨a,c,by rw[V.out,I.out];rfl,by rw[V.out];exact aW.mono HI.out (fun b _ u=>zxb X.out.size u),kM.out⟩
  ·have I:Hid (oi= -1):=hid (by rw[L.out,if_neg (fun h=>N h.2)])
   subst r;have ae:Y<=i:=aD
   go_wp2;go_ret2;exact hid<|M.out _ I.out cH.out
 ·have I:Hid (oi= -1):=hid (by rw[L.out,if_neg (fun h=>r h.1)])
  have e6:(fk !=6)=true:=by simpa using r
  go_wp2;go_ret2;exact hid<|M.out _ I.out cH.out
end Go.Proofs.YtohddpbgflgiaaaGreatDoor
