/- Part 12 of the walks and plain laws that the proof needs (packed). -/
import Derived.Shelf.Sort.Plain
import Derived.Ground.Names2Prog
import Derived.Shelf.Slices.CompactI
import Derived.Shelf.Slices.Turned
import Derived.Shelf.Slices.In.SortNone
import Derived.Ground.SlsfProg
import Derived.Ground.SlsgProg
import Derived.Shelf.SlCmpFuncs.BinarySearchFunc
import Derived.Shelf.SlSortCmp.NoneTotal
import Derived.Test.YtohddpbgflgiaaaGreatDoorProg
import Derived.Lib.RowBridge
import Derived.Test.YtohddpbgflgiaaaGreatDoorQ1
import Derived.Test.YtohddpbgflgiaaaGreatDoorQ3
import Derived.Test.YtohddpbgflgiaaaGreatDoorQ6
import Derived.Test.YtohddpbgflgiaaaGreatDoorQ7
import Derived.Test.YtohddpbgflgiaaaGreatDoorQ10
import Derived.Test.YtohddpbgflgiaaaGreatDoorQ11
set_option linter.all false
set_option maxRecDepth 100000
set_option maxHeartbeats 8000000
open Go.Proofs.Tryz
variable{p:Prop}
namespace Go.Proofs.YtohddpbgflgiaaaGreatDoor
namespace Cz
def gZ{α:Type}(c:α->α->Int):List α->List α->Int
 |[],[]=>0
 |[],_::_=> -1
 |_::_,[]=>1
 |a::s,b::t=>if c a b=0 then gZ c s t else c a b
def dB(a b:Int):Int:=if a<b then -1 else if b<a then 1 else 0
structure Cb{α:Type}(c:α->α->Int):Prop where
 refl:∀a,c a a=0
 eq:∀a b,c a b=0->a=b
 anti:∀a b,c a b<0↔0<c b a
 trans:∀a b d,c a b<0->c b d<0->c a d<0
theorem gP:Cb dB where
 refl a:=by unfold dB;(repeat' split)<;>omega
 eq a b h:=by unfold dB at h;(repeat' split at h)<;>omega
 anti a b:=by unfold dB;(repeat' split)<;>omega
 trans a b d h g:=by
  unfold dB at*;(repeat' split at h)<;>(repeat' split at g)<;>(repeat' split)<;>omega
theorem DT{α:Type}{c:α->α->Int}(i:Cb c):Cb (gZ c) where
 refl a:=by
  induction a with
  |nil=>rfl
  |cons x s ih=>simp[gZ,i.refl,ih]
 eq a:=by
  induction a with
  |nil=>intro b h;cases b with
   |nil=>rfl
   |cons=>simp[gZ] at h
  |cons x s ih=>intro b h;cases b with
   |nil=>simp[gZ] at h
   |cons y t=>
    simp only[gZ] at h
    split at h
    ·rename_i e;rw[i.eq _ _ e,ih _ h]
    ·contradiction
 anti a:=by
  induction a with
  |nil=>intro b;cases b<;>simp[gZ]
  |cons x s ih=>intro b;cases b with
   |nil=>simp[gZ]
   |cons y t=>
    simp only[gZ]
    by_cases e:c x y=0
    ·have j:c y x=0:=by rw[i.eq _ _ e];exact i.refl _
     rw[if_pos e,if_pos j];exact ih t
    ·have j:c y x≠0:=fun h=>e (by rw[i.eq _ _ h];exact i.refl _)
     rw[if_neg e,if_neg j];exact i.anti _ _
 trans a:=by
  induction a with
  |nil=>intro b d h g;cases b with
   |nil=>simp[gZ] at h
   |cons y t=>cases d with
    |nil=>simp[gZ] at g
    |cons z u=>simp[gZ]
  |cons x s ih=>intro b d h g;cases b with
   |nil=>simp[gZ] at h
   |cons y t=>cases d with
    |nil=>simp[gZ] at g
    |cons z u=>
     simp only[gZ] at h g ⊢
     by_cases e:c x y=0
     ·have:=i.eq _ _ e;subst this
      rw[if_pos e] at h;by_cases f:c x z=0
      ·rw[if_pos f] at g ⊢;exact ih _ _ h g
      ·rw[if_neg f] at g ⊢;exact g
     ·rw[if_neg e] at h
      by_cases f:c y z=0
      ·have:=i.eq _ _ f;subst this
       rw[if_neg e];exact h
      ·rw[if_neg f] at g
       have:=i.trans _ _ _ h g;rw[if_neg aD];exact this
def DU{α:Type}(c:α->α->Int)(x:α):List α->List α
 |[]=>[x]
 |y::t=>if c x y<0 then x::y::t else if c x y=0 then y::t else y::DU c x t
def dU{α:Type}(c:α->α->Int)(l:List α):List α:=l.foldr (DU c) []
def Ph{α:Type}(c:α->α->Int)(x:α):List α->List α
 |[]=>[x]
 |y::t=>if c y x<0 then y::Ph c x t else x::y::t
def eU{α:Type}(c:α->α->Int)(l:List α):List α:=l.foldr (Ph c) []
section
variable {α:Type} {c:α->α->Int} (hc:Cb c)
include hc
theorem LO{x z:α}{l:List α}:z∈DU c x l↔z=x\/z∈l:=by
 induction l with
 |nil=>simp[DU]
 |cons y t ih=>
  unfold DU
  split
  ·simp
  ·split
   ·rename_i _ e
    have:=hc.eq _ _ e;subst this;simp
   ·simp[ih];constructor
    ·rintro (h|h|h)<;>simp[h]
    ·rintro (h|h|h)<;>simp[h]
theorem LP{x:α}{l:List α}(h:l.Pairwise (c · ·<0)):(DU c x l).Pairwise (c · ·<0):=by
 induction l with
 |nil=>simp[DU]
 |cons y t ih=>
  rw[List.pairwise_cons] at h
  unfold DU
  split
  ·rename_i e
   rw[List.pairwise_cons];refine⟨fun z a=>?_,List.pairwise_cons.2 h⟩;rcases mr.1 a with rfl|a
   ·exact e
   ·exact hc.trans _ _ _ e (h.1 z a)
  ·split
   ·exact List.pairwise_cons.2 h
   ·rename_i b d
    rw[List.pairwise_cons];refine⟨fun z a=>?_,ih h.2⟩;rcases (LO hc).1 a with rfl|a
    ·have:=(hc.anti z y);have:=hc.anti y z;omega
    ·exact h.1 z a
theorem amM{z:α}{l:List α}:z∈dU c l↔z∈l:=by
 unfold dU;induction l with
 |nil=>simp
 |cons y t ih=>rw[List.foldr_cons,LO hc,ih,mr]
theorem iP{l:List α}:(dU c l).Pairwise (c · ·<0):=by
 unfold dU;induction l with
 |nil=>simp
 |cons y t ih=>exact LP hc ih
theorem qU{s t:List α}(f:s.Pairwise (c · ·<0))(i:t.Pairwise (c · ·<0))(h:∀x,x∈s↔x∈t):s=t:=by
 induction s generalizing t with
 |nil=>cases t with
  |nil=>rfl
  |cons y t=>exact absurd ((h y).2 bH) bH
 |cons x s ih=>cases t with
  |nil=>exact absurd ((h x).1 bH) bH
  |cons y t=>
   rw[List.pairwise_cons] at f i
   have b:∀a,¬c a a<0:=fun a=>by rw[hc.refl];omega
   have j:x=y:=by
    rcases mr.1 ((h x).1 bH) with e|e
    ·exact e
    ·rcases mr.1 ((h y).2 bH) with k|k
     ·exact k.symm
     ·exact absurd (hc.trans _ _ _ (f.1 _ k) (i.1 _ e)) (b _)
   subst j
   rw[ih f.2 i.2 fun z=>?_]
   have:=h z
   simp only[mr] at this
   constructor
   ·intro d
    rcases this.1 (.inr d) with rfl|g
    ·exact absurd (f.1 _ d) (b _)
    ·exact g
   ·intro d
    rcases this.2 (.inr d) with rfl|g
    ·exact absurd (i.1 _ d) (b _)
    ·exact g
theorem qh{l a:List α}(h:∀x,x∈l↔x∈a):dU c l=dU c a:=
 qU hc (iP hc) (iP hc) fun x=>by rw[amM hc,amM hc];exact h x
omit hc in
theorem G4{x:α}{l:List α}:(Ph c x l).Perm (x::l):=by
 induction l with
 |nil=>exact .refl _
 |cons y t ih=>
  unfold Ph
  split
  ·exact(ih.cons y).trans (List.Perm.swap ..)
  ·exact .refl _
omit hc in
theorem fZ{l:List α}:(eU c l).Perm l:=by
 unfold eU;induction l with
 |nil=>exact .refl _
 |cons y t ih=>exact G4.trans (ih.cons y)
theorem LQ{x:α}{l:List α}(h:l.Pairwise (fun a b=>¬c b a<0)):(Ph c x l).Pairwise (fun a b=>¬c b a<0):=by
 induction l with
 |nil=>simp[Ph]
 |cons y t ih=>
  rw[List.pairwise_cons] at h
  unfold Ph
  split
  ·rename_i e
   rw[List.pairwise_cons];refine⟨fun z d=>?_,ih h.2⟩;rcases mr.1 (G4.mem_iff.1 d) with rfl|d
   ·have:=hc.anti y z;have:=hc.anti z y;omega
   ·exact h.1 z d
  ·rename_i e
   rw[List.pairwise_cons];refine⟨fun z d=>?_,List.pairwise_cons.2 h⟩;rcases mr.1 d with rfl|d
   ·exact e
   ·intro g
    have f:=h.1 z d;by_cases q:c x y=0
    ·rw[hc.eq _ _ q] at g;exact f g
    ·have:=hc.anti x y;have:=hc.anti y x
     exact f (hc.trans _ _ _ g aD)
theorem oK{l:List α}:(eU c l).Pairwise (fun a b=>¬c b a<0):=by
 unfold eU;induction l with
 |nil=>simp
 |cons y t ih=>exact LQ hc ih
theorem DV{s t:List α}(d:s.Pairwise (fun a b=>¬c b a<0))(f:t.Pairwise (fun a b=>¬c b a<0))(h:s.Perm t):s=t:=by
 induction s generalizing t with
 |nil=>exact(List.Perm.nil_eq h)
 |cons x s ih=>cases t with
  |nil=>exact absurd h.symm.nil_eq bH
  |cons y t=>
   rw[List.pairwise_cons] at d f
   have g:x=y:=by
    rcases mr.1 (h.mem_iff.1 (List.mem_cons_self ..)) with e|e
    ·exact e
    ·rcases mr.1 (h.mem_iff.2 (List.mem_cons_self ..)) with i|i
     ·exact i.symm
     ·have j:=d.1 _ i
      have k:=f.1 _ e;refine hc.eq _ _ ?_;have:=hc.anti x y;have:=hc.anti y x;omega
   subst g
   rw[ih d.2 f.2 (List.Perm.cons_inv h)]
theorem Bq{l a:List α}(h:l.Perm a):eU c l=eU c a:=
 DV hc (oK hc) (oK hc) (fZ.trans (h.trans fZ.symm))
theorem LS{l s:List α}(d:s.Pairwise (fun a b=>¬c b a<0))(h:s.Perm l):eU c l=s:=
 DV hc (oK hc) d (fZ.trans h.symm)
def pos(c:α->α->Int)(s:List α)(x:α):Nat:=(s.takeWhile (fun y=>decide (c y x<0))).length
omit hc in
theorem agS(s:List α)(x:α):pos c s x<=s.length:=by
 unfold pos;exact(List.takeWhile_sublist _).length_le
theorem acz{s:List α}(a:s.Pairwise (c · ·<0)){x:α}(hx:x∈s):s[pos c s x]?=some x:=by
 induction s with
 |nil=>cases hx
 |cons y t ih=>
  rw[List.pairwise_cons] at a
  unfold pos
  rw[List.takeWhile_cons]
  rcases mr.1 hx with rfl|h
  ·simp[hc.refl]
  ·have b:=a.1 x h
   simp only[b,decide_true,if_true,zxg,List.getElem?_cons_succ];exact ih a.2 h
end
abbrev Row:=List Int
abbrev Wd:=List (List Row)
abbrev iQ:=List (List Int)
def di:Row->Row->Int:=gZ dB
theorem dQ:Cb di:=DT gP
def sC:Wd->Wd->Int:=gZ (gZ di)
theorem l8:Cb sC:=DT (DT dQ)
def fk(ks:iQ)(k f:Nat):Int:=(ks.getD k []).getD f (-2)
def row(w:Wd)(k i:Nat):Row:=(w.getD k []).getD i []
def cell(w:Wd)(k i f:Nat):Int:=(row w k i).getD f 0
def len(w:Wd)(k:Nat):Nat:=(w.getD k []).length
def sg(S:List Row)(k i:Nat):Int:=(S.getD k []).getD i 0
def mask(fs:List Int)(r:Row):Row:=(List.range r.length).map fun f=>if fs.getD f (-2)= -2 then r.getD f 0 else 0
def rk(a:List Row)(l:Row):Int:=(pos di (dU di a) l:Nat)
def tA(a:List Row):Row:=a.map (rk a)
def S0(ks:iQ)(w:Wd):List Row:=(List.range w.length).map fun k=>tA ((List.range (len w k)).map fun i=>mask (ks.getD k []) (row w k i))
def jh(ks:iQ)(k:Nat):List (Nat×Nat):=(List.range ks.length).flatMap fun a=>((List.range (ks.getD a []).length).filter (fun f=>decide (fk ks a f=k))).map fun f=>(a,f)
def kg(w:Wd)(S:List Row)(k f i:Nat):Row:=((List.range (len w k)).filter (fun j=>decide (cell w k j f=i))).map (sg S k)
def gJ(ks:iQ)(w:Wd)(S:List Row)(k i:Nat):Row:=
 sg S k i::(((List.range (ks.getD k []).length).filter (fun f=>decide (0<=fk ks k f))).map (fun f=>sg S (fk ks k f).toNat (cell w k i f).toNat)++
  (jh ks k).flatMap fun p=>((kg w S p.1 p.2 i).length:Int)::eU dB (kg w S p.1 p.2 i))
def fF(ks:iQ)(w:Wd)(S:List Row):List Row:=(List.range w.length).map fun k=>tA ((List.range (len w k)).map (gJ ks w S k))
def diff(S:List Row):Nat:=(S.map fun l=>(dU dB l).length).sum
def qv(ks:iQ)(w:Wd):Nat->List Row->List Row
 |0,S=>S
 |n+1,S=>if diff (fF ks w S)=diff S then fF ks w S else qv ks w n (fF ks w S)
def eO(c:Int->Nat):Row->Nat
 |[]=>1
 |x::t=>(c x+1)*eO (fun y=>if y=x then c y+1 else c y) t
def arr(S:List Row):Nat:=S.foldr (fun l n=>eO (fun _=>0) l*n) 1
def l9(sort a:Row):Nat->List Nat->List (List Nat)
 |0,o=>[o]
 |n+1,o=>((List.range sort.length).filter (fun i=>decide (i∉o/\sort.getD i 0=a.getD o.length 0))).flatMap fun i=>l9 sort a n (o++[i])
def orders(l:Row):List (List Nat):=l9 l (eU dB l) l.length []
def lK:List Row->List (List Nat)->List (List (List Nat))
 |[],b=>[b]
 |l::S,b=>(orders l).flatMap fun o=>lK S (b++[o])
def val(ks:iQ)(a:List (List Nat))(k f:Nat)(v:Int):Int:=
 if fk ks k f= -2 then v else if fk ks k f= -1 then 0 else ((a.getD (fk ks k f).toNat []).idxOf v.toNat:Nat)
def bN(ks:iQ)(w:Wd)(a:List (List Nat)):Wd:=(List.range w.length).map fun k=>(a.getD k []).map fun i=>
 (List.range (row w k i).length).map fun f=>val ks a k f (cell w k i f)
def best(l:List Wd):Option Wd:=l.foldl (fun b v=>match b with
 |none=>some v
 |some b=>if sC v b<0 then some v else some b) none
def total(w:Wd):Nat:=(w.map List.length).sum
def sorts(ks:iQ)(w:Wd):List Row:=qv ks w (total w+1) (S0 ks w)
def canon(ks:iQ)(w:Wd):Option Wd:=if 720<arr (sorts ks w) then none else best ((lK (sorts ks w) []).map (bN ks w))
theorem bh{α:Type}{xs:List α}{d:α}{k:Nat}(h:k<xs.length):xs.getD k d=xs[k]:=by
 rw[iY,lN h];rfl
theorem eW{α:Type}(n:Nat)(g:Nat->α)(d:α){k:Nat}(h:k<n):((List.range n).map g).getD k d=g k:=by
 rw[bh Fa];simp
theorem eY{α:Type}(l:List α)(d:α):(List.range l.length).map (fun i=>l.getD i d)=l:=by
 refine alW bH fun i b a=>?_;simp only[zxo,zxy];exact bh a
theorem ZV{b a:List Row}(h:∀x,x∈b↔x∈a)(l:Row):rk b l=rk a l:=by
 unfold rk;rw[qh dQ h]
def A(a:List (List Nat))(k j:Nat):Nat:=(a.getD k []).getD j 0
structure rH(ks:iQ)(a:List (List Nat))(w v:Wd):Prop where
 l:v.length=w.length
 lk:w.length=ks.length
 n:∀k,k<w.length->len v k=len w k
 p:∀k,k<w.length->(a.getD k []).Perm (List.range (len w k))
 r:∀k j,k<w.length->j<len w k->(row v k j).length=(ks.getD k []).length/\(row w k j).length=(ks.getD k []).length
 num:∀k j f,k<w.length->j<len w k->f<(ks.getD k []).length->fk ks k f= -2->cell v k j f=cell w k (A a k j) f
 ref:∀k j f,k<w.length->j<len w k->f<(ks.getD k []).length->0<=fk ks k f->
  (fk ks k f).toNat<w.length/\0<=cell v k j f/\(cell v k j f).toNat<len w (fk ks k f).toNat/\cell w k (A a k j) f=A a (fk ks k f).toNat (cell v k j f).toNat
 code:∀k f, -2<=fk ks k f
theorem kN{α a:Type}{l:List α}{f g:α->List a}(h:∀x∈l,f x=g x):l.flatMap f=l.flatMap g:=by
 induction l with
 |nil=>rfl
 |cons x t ih=>rw[alZ,alZ,h x bH,ih fun y b=>h y (by simp[b])]
theorem xS{l d:Row}(h:l.Perm d):∀c,eO c l=eO c d:=by
 induction h with
 |nil=>intro c;rfl
 |cons x _ ih=>intro c;simp only[eO];rw[ih]
 |swap x y l=>
  intro c
  simp only[eO]
  by_cases e:x=y
  ·subst e;rfl
  ·have f:(fun z=>if z=x then (if z=y then c z+1 else c z)+1 else if z=y then c z+1 else c z)=(fun z=>if z=y then (if z=x then c z+1 else c z)+1 else if z=x then c z+1 else c z):=by
    funext z
    by_cases a:z=x
    ·have:z≠y:=fun b=>e (a.symm.trans b)
     simp[a,e]
    ·simp[a]
   rw[f,if_neg e,if_neg (Ne.symm e),<-Nat.mul_assoc,<-Nat.mul_assoc,Nat.mul_comm (c x+1)]
 |trans _ _ a b=>intro c;rw[a,b]
theorem kO{α:Type}(S:List α)(d:α):S=(List.range S.length).map fun k=>S.getD k d:=(eY S d).symm
theorem aeP(h:p:=by
  constructor
  ·rintro rfl;exact⟨[],bH⟩
  ·rintro ⟨t,rfl,ht, -⟩
   rw[List.length_eq_zero_iff.1 ht];simp):p:=h
theorem ZX{sort a:Row}{n:Nat}:∀{p o:List Nat},o∈l9 sort a n p↔∃t,o=p++t/\t.length=n/\(∀i∈t,i<sort.length)/\t.Nodup/\(∀i∈t,i∉p)/\∀j,j<n->sort.getD (t.getD j 0) 0=a.getD (p.length+j) 0:=by
 induction n with
 |zero=>
  intro p o
  simp only[l9,nL]
  exact aeP
 |succ n ih=>
  intro p o
  simp only[l9,List.mem_flatMap,List.mem_filter,List.mem_range,oW]
  constructor
  ·rintro ⟨i,⟨h,k,l⟩,m⟩
   obtain⟨t,rfl,e,f,c,d,g⟩:=ih.1 m;refine⟨i::t,bH,by simp[e],?_,?_,?_,?_⟩
   ·intro x hx
    rcases mr.1 hx with rfl|hx
    ·exact h
    ·exact f x hx
   ·rw[List.nodup_cons]
    exact⟨fun q=>d i q bH,c⟩
   ·intro x hx
    rcases mr.1 hx with rfl|hx
    ·exact k
    ·exact fun b=>d x hx (by simp[b])
   ·intro j r
    cases j with
    |zero=>simpa using l
    |succ j=>
     have:=g j aD
     rw[List.getD_cons_succ,this]
     congr 1
     simp;omega
  ·rintro ⟨t,rfl,e,f,c,d,g⟩
   cases t with
   |nil=>simp at e
   |cons i t=>
    rw[List.nodup_cons] at c
    refine⟨i,⟨f i bH,d i bH,by simpa using g 0 aD⟩,?_⟩
    refine ih.2 ⟨t,bH,by simpa using e,fun x hx=>f x ah3,c.2,fun x hx b=>?_,fun j r=>?_⟩
    ·rcases zxx.1 b with b|b
     ·exact d x ah3 b
     ·rw[nL] at b;subst b;exact c.1 hx
    ·have:=g (j+1) aD
     rw[List.getD_cons_succ] at this;rw[this];congr 1;simp;omega
def Br(l:Row)(o:List Nat):Prop:=o.Perm (List.range l.length)/\∀j,j<l.length->l.getD (o.getD j 0) 0=(eU dB l).getD j 0
theorem DW{n:Nat}{t:List Nat}(h1:t.length=n)(h2:∀i∈t,i<n)(b:t.Nodup):t.Perm (List.range n):=by
 refine(List.perm_ext_iff_of_nodup b List.nodup_range).2 fun x=>⟨fun hx=>by simpa using h2 x hx,fun hx=>?_⟩;apply Classical.byContradiction;intro c
 have:=List.Nodup.length_le_of_subset (l₁:=x::t) (l₂:=List.range n) (List.nodup_cons.2 ⟨c,b⟩) (fun y a=>by
  rcases mr.1 a with rfl|a
  ·exact hx
  ·simpa using h2 y a)
 simp at this;omega
theorem sD{l:Row}{o:List Nat}:o∈orders l↔Br l o:=by
 unfold orders Br;rw[ZX];constructor
 ·rintro ⟨t,rfl,c,d,e, -,f⟩
  exact⟨DW c d e,fun j a=>by simpa using f j a⟩
 ·rintro ⟨b,g⟩
  have h:o.length=l.length:=by simpa using b.length_eq
  refine⟨o,rfl,h,fun i k=>by simpa using b.mem_iff.1 k,b.nodup_iff.2 List.nodup_range,bH,fun j a=>by simpa using g j a⟩
theorem ZY{S:List Row}:∀{b a:List (List Nat)},a∈lK S b↔∃t,a=b++t/\t.length=S.length/\∀k,k<S.length->Br (S.getD k []) (t.getD k []):=by
 induction S with
 |nil=>
  intro b a
  simp only[lK,nL]
  exact aeP
 |cons l S ih=>
  intro b a
  simp only[lK,List.mem_flatMap]
  constructor
  ·rintro ⟨o,e,f⟩
   obtain⟨t,rfl,c,d⟩:=ih.1 f;refine⟨o::t,bH,by simp[c],fun k hk=>?_⟩;cases k with
   |zero=>simpa using sD.1 e
   |succ k=>simpa using d k abo
  ·rintro ⟨t,rfl,c,d⟩
   cases t with
   |nil=>simp at c
   |cons o t=>
    refine⟨o,sD.2 (by simpa using d 0 bH),ih.2 ⟨t,bH,by simpa using c,fun k hk=>?_⟩⟩
    simpa using d (k+1) abo
theorem vJ{S:List Row}{a:List (List Nat)}:a∈lK S []↔a.length=S.length/\∀k,k<S.length->Br (S.getD k []) (a.getD k []):=by
 rw[ZY];constructor
 ·rintro ⟨t,rfl,h⟩;exact h
 ·intro h;exact⟨a,rfl,h⟩
structure nH(ks:iQ)(w:Wd):Prop where
 lk:w.length=ks.length
 r:∀k i,k<w.length->i<len w k->(row w k i).length=(ks.getD k []).length
 ref:∀k i f,k<w.length->i<len w k->f<(ks.getD k []).length->0<=fk ks k f->(fk ks k f).toNat<w.length/\0<=cell w k i f/\(cell w k i f).toNat<len w (fk ks k f).toNat
 code:∀k f, -2<=fk ks k f
theorem getD_map{α a:Type}(l:List α)(g:α->a)(d:α)(e:a){j:Nat}(h:j<l.length):(l.map g).getD j e=g (l.getD j d):=by
 rw[bh Fa,bh h];simp
theorem RE{l:List Nat}{x:Nat}(h:x∈l):l.getD (l.idxOf x) 0=x:=by
 rw[bh (List.idxOf_lt_length_of_mem h)];exact List.getElem_idxOf _
section
variable {ks:iQ} {a:List (List Nat)} {w:Wd} (hw:nH ks w) (ha:∀k,k<w.length->(a.getD k []).Perm (List.range (len w k)))
include hw ha
omit hw in
theorem acA{k:Nat}(b:k<w.length):len (bN ks w a) k=len w k:=by
 unfold len bN;rw[eW _ _ _ b,sM,(ha k b).length_eq,List.length_range];rfl
omit hw in
theorem RF{k j:Nat}(b:k<w.length)(c:j<len w k):row (bN ks w a) k j=(List.range (row w k (A a k j)).length).map fun f=>val ks a k f (cell w k (A a k j) f):=by
 have d:j<(a.getD k []).length:=by rw[(ha k b).length_eq];simpa using c
 conv=>lhs;unfold row bN
 rw[eW _ _ _ b,getD_map _ _ 0 _ d];rfl
omit hw in
theorem Pk{k j:Nat}(b:k<w.length)(c:j<len w k):A a k j<len w k:=by
 have d:j<(a.getD k []).length:=by rw[(ha k b).length_eq];simpa using c
 have e:A a k j∈a.getD k []:=by unfold A;rw[bh d];exact eV _
 simpa using (ha k b).mem_iff.1 e
theorem LV{k j f:Nat}(b:k<w.length)(c:j<len w k)(d:f<(ks.getD k []).length):cell (bN ks w a) k j f=val ks a k f (cell w k (A a k j) f):=by
 conv=>lhs;unfold cell
 rw[RF ha b c,eW];rw[hw.r k _ b (Pk ha b c)];exact d
theorem acB{k j f:Nat}(d:k<w.length)(e:j<len w k)(g:f<(ks.getD k []).length)(h:0<=fk ks k f):
  (fk ks k f).toNat<w.length/\0<=val ks a k f (cell w k j f)/\(val ks a k f (cell w k j f)).toNat<len w (fk ks k f).toNat/\cell w k j f=A a (fk ks k f).toNat (val ks a k f (cell w k j f)).toNat:=by
 obtain⟨b,l,i⟩:=hw.ref k j f d e g h;have c:(cell w k j f).toNat∈a.getD (fk ks k f).toNat []:=(ha _ b).mem_iff.2 (by simpa using i);unfold val;rw[if_neg aD,if_neg aD];refine⟨b,aD,?_,?_⟩
 ·rw[zxk]
  have:=List.idxOf_lt_length_of_mem c;rw[(ha _ b).length_eq] at this;simpa using this
 ·rw[zxk]
  unfold A;rw[RE c];omega
theorem Jh:rH ks a w (bN ks w a) where
 l:=by simp[bN]
 lk:=hw.lk
 n k hk:=acA ha hk
 p:=ha
 r k j hk hj:=by
  refine⟨?_,hw.r k j hk hj⟩;rw[RF ha hk hj];simpa using hw.r k _ hk (Pk ha hk hj)
 num k j f hk hj hf e:=by
  rw[LV hw ha hk hj hf];unfold val;rw[if_pos e]
 ref k j f hk hj hf hr:=by
  rw[LV hw ha hk hj hf];exact acB hw ha hk (Pk ha hk hj) hf hr
 code:=hw.code
end
theorem rH.fit{ks:iQ}{a:List (List Nat)}{w v:Wd}(h:rH ks a w v):nH ks v where
 lk:=by rw[h.l,h.lk]
 r k i hk hi:=by
  rw[h.l] at hk;rw[h.n k hk] at hi;exact(h.r k i hk hi).1
 ref k i f hk hi hf hr:=by
  rw[h.l] at hk;rw[h.n k hk] at hi;obtain⟨b,c,d, -⟩:=h.ref k i f hk hi hf hr;exact⟨by rw[h.l];exact b,c,by rw[h.n _ b];exact d⟩
 code:=h.code
theorem DX:∀(l:List Wd) (b:Wd),∃m,l.foldl (fun b v=>match b with
 |none=>some v
 |some b=>if sC v b<0 then some v else some b) (some b)=some m/\(m=b\/m∈l)/\¬sC b m<0/\∀u∈l,¬sC u m<0
 |[],b=>⟨b,rfl,.inl rfl,by rw[l8.refl];omega,bH⟩
 |v::t,b=>by
  rw[List.foldl_cons];simp only;split
  ·rename_i e
   obtain⟨m,f,d,c,h⟩:=DX t v;refine⟨m,f,.inr ?_,fun g=>?_,fun u a=>?_⟩
   ·rcases d with rfl|d<;>simp_all
   ·exact c (l8.trans _ _ _ e g)
   ·rcases mr.1 a with rfl|a
    ·exact c
    ·exact h u a
  ·rename_i e
   obtain⟨m,f,d,c,h⟩:=DX t b;refine⟨m,f,?_,c,fun u a=>?_⟩
   ·rcases d with rfl|d<;>simp_all
   ·rcases mr.1 a with rfl|a
    ·intro g
     by_cases q:sC u b=0
     ·rw[l8.eq _ _ q] at g;exact c g
     ·have:=l8.anti u b;have:=l8.anti b u
      exact c (l8.trans _ _ _ aD g)
    ·exact h u a
theorem Ap{l:List Wd}(h:l≠[]):∃m,best l=some m/\m∈l/\∀u∈l,¬sC u m<0:=by
 cases l with
 |nil=>exact absurd rfl h
 |cons v t=>
  obtain⟨m,c,b,d,e⟩:=DX t v
  refine⟨m,c,by rcases b with rfl|b<;>simp_all,fun u a=>?_⟩
  rcases mr.1 a with rfl|a
  ·exact d
  ·exact e u a
theorem Z0(ks:iQ)(w:Wd):(S0 ks w).length=w.length/\∀k,k<w.length->((S0 ks w).getD k []).length=len w k:=by
 refine⟨by simp[S0],fun k a=>?_⟩;unfold S0;rw[eW _ _ _ a];simp[tA]
theorem zi(ks:iQ)(w:Wd)(S:List Row):(fF ks w S).length=w.length/\∀k,k<w.length->((fF ks w S).getD k []).length=len w k:=by
 refine⟨by simp[fF],fun k a=>?_⟩;unfold fF;rw[eW _ _ _ a];simp[tA]
theorem RH(ks:iQ)(w:Wd):∀(n:Nat) (S:List Row),(S.length=w.length/\∀k,k<w.length->(S.getD k []).length=len w k)->(qv ks w n S).length=w.length/\∀k,k<w.length->((qv ks w n S).getD k []).length=len w k
 |0,S,h=>h
 |n+1,S,_=>by
  unfold qv;split
  ·exact zi ks w S
  ·exact RH ks w n _ (zi ks w S)
theorem DY(ks:iQ)(w:Wd):(sorts ks w).length=w.length/\∀k,k<w.length->((sorts ks w).getD k []).length=len w k:=RH ks w _ _ (Z0 ks w)
theorem Ji{α d:Type}{g:α->d}{l f:List d}(h:l.Perm f):∀p:List α,f=p.map g->∃o:List α,o.Perm p/\l=o.map g:=by
 induction h with
 |nil=>intro p a;exact⟨p,.refl _,a⟩
 |cons x _ ih=>
  intro p a
  cases p with
  |nil=>cases a
  |cons y p=>
   rw[zxt] at a
   injection a with e1 e2
   obtain⟨o,b,e⟩:=ih p e2
   exact⟨y::o,b.cons y,by rw[zxt,e1,e]⟩
 |swap x y l=>
  intro p a
  cases p with
  |nil=>cases a
  |cons z p=>cases p with
   |nil=>cases a
   |cons z' p=>
    simp only[zxt] at a
    injection a with e1 e2
    injection e2 with e2 e3
    exact⟨z'::z::p,List.Perm.swap ..,by simp[e1,e2,e3]⟩
 |trans _ _ h1 h2=>
  intro p a
  obtain⟨o,b,e⟩:=h2 p a
  obtain⟨i,c,j⟩:=h1 o e
  exact⟨i,c.trans b,j⟩
theorem Z1(l:Row):∃o,Br l o:=by
 obtain⟨o,a,b⟩:=Ji (fZ (c:=dB) (l:=l)) (List.range l.length) (eY l 0).symm;refine⟨o,a,fun j d=>?_⟩;rw[b,getD_map _ _ 0 _ (by rw[a.length_eq];simpa using d)]
theorem all_some:∀(S:List Row) (b:List (List Nat)),lK S b≠[]
 |[],b=>by simp[lK]
 |l::S,b=>by
  obtain⟨o,a⟩:=Z1 l;intro e;simp only[lK,List.flatMap_eq_nil_iff] at e;exact all_some S _ (e o (sD.2 a))
theorem q9{α:Type}{c:α->α->Int}:∀l:List α,(dU c l).length<=l.length
 |[]=>aL
 |x::t=>by
  have h:∀(s:List α),(DU c x s).length<=s.length+1:=by
   intro s;induction s with
   |nil=>simp[DU]
   |cons y s ih=>unfold DU;(repeat' split)<;>simp<;>omega
  have:=h (dU c t);have:=q9 (c:=c) t;simp only[dU,List.foldr_cons,zxg] at*;omega
theorem r9{α:Type}{c:α->α->Int}(d:Cb c)(l:List α):(dU c l).Nodup:=
 (iP d).imp fun {a b} h e=>by subst e;rw[d.refl] at h;omega
theorem Uq{α a:Type}{c:α->α->Int}{d:a->a->Int}(b:Cb c)(hd:Cb d)(g:α->a)(l:List α):(dU d (l.map g)).length<=(dU c l).length:=by
 have:=List.Nodup.length_le_of_subset (l₂:=(dU c l).map g) (r9 hd (l.map g)) (fun x hx=>by
  rw[amM hd,List.mem_map] at hx;obtain⟨y,e,rfl⟩:=hx;exact List.mem_map.2 ⟨y,(amM b).2 e,rfl⟩)
 simpa using this
theorem Jj{w:Wd}{S:List Row}(h1:S.length=w.length)(h2:∀k,k<w.length->(S.getD k []).length=len w k):diff S<=total w:=by
 have e:total w=((List.range w.length).map fun k=>len w k).sum:=by
  unfold total;conv=>lhs;rw[kO w [],alV]
  rfl
 have b:diff S=((List.range w.length).map fun k=>(dU dB (S.getD k [])).length).sum:=by
  unfold diff;conv=>lhs;rw[kO S [],alV,h1]
  rfl
 rw[e,b]
 have:∀l:List Nat,(∀k∈l,k<w.length)->(l.map fun k=>(dU dB (S.getD k [])).length).sum<=(l.map fun k=>len w k).sum:=by
  intro l;induction l with
  |nil=>simp
  |cons k l ih=>
   intro a
   have:=ih fun x hx=>a x ah3
   have:=q9 (c:=dB) (S.getD k [])
   rw[h2 k (a k bH)] at this
   simp only[zxt,List.sum_cons]
   omega
 exact this _ fun k d=>by simpa using d
theorem Aq{ks:iQ}{w:Wd}{S:List Row}(h1:S.length=w.length)(h2:∀k,k<w.length->(S.getD k []).length=len w k):diff S<=diff (fF ks w S):=by
 have f:diff (fF ks w S)=((List.range w.length).map fun k=>(dU dB (tA ((List.range (len w k)).map (gJ ks w S k)))).length).sum:=by
  unfold diff fF;rw[alV];rfl
 have g:diff S=((List.range w.length).map fun k=>(dU dB (S.getD k [])).length).sum:=by
  unfold diff;conv=>lhs;rw[kO S [],alV,h1]
  rfl
 rw[f,g]
 have:∀l:List Nat,(∀k∈l,k<w.length)->(l.map fun k=>(dU dB (S.getD k [])).length).sum<=(l.map fun k=>(dU dB (tA ((List.range (len w k)).map (gJ ks w S k)))).length).sum:=by
  intro l;induction l with
  |nil=>simp
  |cons k l ih=>
   intro d
   have:=ih fun x hx=>d x ah3
   have c:=d k bH
   obtain⟨a,b⟩:=bJ ((List.range (len w k)).map (gJ ks w S k))
   have e:S.getD k []=(tA a).map fun r=>((dU di a).getD r.toNat []).getD 0 0:=by
    unfold tA;rw[alV];conv=>lhs;rw[<-eY (S.getD k []) 0,h2 k c]
    conv=>rhs;arg 2;rw[b]
    rw[alV];refine zxq fun i h=>?_;have j:gJ ks w S k i∈a:=by rw[b];exact List.mem_map.2 ⟨i,h,rfl⟩
    have:=acz dQ (iP dQ) ((amM dQ (l:=a)).2 j);simp only[Function.comp,rk,zxk];conv=>rhs;rw[iY (l:=dU di a),this]
    rfl
   have:=Uq gP gP (fun r:Int=>((dU di a).getD r.toNat []).getD 0 0) (tA a)
   rw[<-e] at this
   rw[b] at this
   simp only[zxt,List.sum_cons]
   omega
 exact this _ fun k c=>by simpa using c
end Cz
end Go.Proofs.YtohddpbgflgiaaaGreatDoor
namespace Go.Proofs.YtohddpbgflgiaaaGreatDoor.aC
structure Jk(x:cE)(W:dw):Prop where
 len:W.length=x.ah.length
 five:∀(k:Nat) (h:k<W.length),W[k].length<=5
 lX:∀(k:Nat) (h:k<W.length),∀r∈W[k],Gl x k W r
structure oy(x:cE)(k:Nat)(W:dw):Prop where
 len:W.length=x.ah.length
 five:∀(i:Nat) (h:i<W.length),W[i].length<=5
 lX:∀(i:Nat) (h:i<W.length),∀r∈W[i],Gl x i W r
 rest:∀(i:Nat) (h:i<W.length),k<=i->W[i]=[]
theorem oy.zero(x:cE):oy x 0 (List.replicate x.ah.length []):=
 ⟨bH,fun i h=>by simp,fun i h r a=>by simp at a,fun i h _=>by simp⟩
theorem oy.snoc{x:cE}{k:Nat}{W:dw}(o:eT x){rows:List (List Int)}(u:k<W.length)(h:oy x (k+1) (W.set k rows)){r:List Int}(p:Gl x k W r)(v:rows.length+1<=5):oy x (k+1) (W.set k (rows++[r])):=by
 have f:=h.len;rw[zxl] at f
 have conv:∀(i:Nat) (hi:i<W.length) (b:List Int) (s:List (List Int)),Gl x i (W.set k s) b->i<=k->Gl x i (W.set k (rows++[r])) b:=fun i hi b s ⟨q,g⟩ c=>by
  refine⟨q,fun j l=>⟨fun m=>?_,(g j l).2⟩⟩;have n:=(g j l).1 m;have t:=o i j aD aD m;have w:=Ab x i j aD;rw[Tc _ t aD] at n ⊢;exact n
 refine⟨by rw[zxl];exact f,fun i hi=>?_,fun i hi b a=>?_,fun i hi d=>?_⟩
 ·rw[zxl] at hi
  by_cases e:k=i
  ·subst e
   rw[List.getElem_set_self];simp;omega
  ·have:=h.five i WM
   rw[List.getElem_set_ne e] at this ⊢;exact this
 ·rw[zxl] at hi
  by_cases e:k=i
  ·subst e
   rw[List.getElem_set_self] at a;rcases zxx.1 a with a|a
   ·exact conv k hi b rows (h.lX k WM b (by rw[List.getElem_set_self];exact a)) aL
   ·rw[nL.1 a]
    exact conv k hi r W[k] (by rw[List.set_getElem_self];exact p) aL
  ·rw[List.getElem_set_ne e] at a
   by_cases c:i<=k
   ·exact conv i hi b rows (h.lX i WM b (by rw[List.getElem_set_ne e];exact a)) c
   ·have:=h.rest i WM aD
    rw[List.getElem_set_ne e] at this;rw[this] at a;simp at a
 ·rw[zxl] at hi
  rw[List.getElem_set_ne aD];have:=h.rest i WM d;rwa [List.getElem_set_ne aD] at this
theorem oy.next{x:cE}{k:Nat}{W:dw}(h:oy x k W):oy x (k+1) W:=⟨h.len,h.five,h.lX,fun i a b=>h.rest i a aD⟩
theorem oy.done{x:cE}{k:Nat}{W:dw}(h:oy x k W):Jk x W:=⟨h.len,h.five,h.lX⟩
end Go.Proofs.YtohddpbgflgiaaaGreatDoor.aC
namespace Go.Proofs.YtohddpbgflgiaaaGreatDoor
open Go.RowKit
def ajT(x:aC.cE)(w:World)(e:Ending)(w':World):Prop:=∃v W,e=.returned v/\aC.Jk x W/\cM (w.heap.size<=·) w' v W/\BL w w'
theorem LW(x:aC.cE)(hx:aC.eT x)(hk:x.ah.length<=10)(hf:∀k∈x.ah,k.aF.length<=20)(L:List Int)(hL:Fit L)(v u:Value)(S T:Nat->Prop)(w:World)(hv:dO S w v x)(hu:bB T w u L):
  CP 19 #[v,u] w (ajT x w):=by
 obtain⟨H,ck,al,cl,ar,cr,rfl,ai, -, -,bD, -, -⟩:=hv.form;obtain⟨au,cu,rfl,bE,bG,bI⟩:=hu.form;obtain⟨E,I⟩:=bJ (fJ w x.aQ (.slice H x.ah.length ck) (.slice al x.aV.length cl) (.slice ar x.aX.length cr));have bL:=hid (kT w x.aQ (.slice H x.ah.length ck) (.slice al x.aV.length cl) (.slice ar x.aX.length cr));have s:=hid (jt w x.aQ (.slice H x.ah.length ck) (.slice al x.aV.length cl) (.slice ar x.aX.length cr));rw[<-I] at bL s;have aw:=hid (dO.mono (S':=fun b=>b<w.heap.size+1) hv (fun b d _=>by omega)|>.keep (aH.below bL.out));have a1:=hid (iC.mono (S':=fun b=>b<w.heap.size+1) ai (fun b d _=>by omega)|>.keep (aH.below bL.out));have ax:=hid (bB.mono (S':=fun b=>b<w.heap.size+1) hu (fun b d _=>by omega)|>.keep (aH.below bL.out));unfold fJ at I;have a3:=hid I;have HX:=hid hx;have HF:=hid hf;have HL:=hid hL;have ay:E.heap.size=w.heap.size+1:=by rw[I];simp
 have Ur:=hid ay;clear hv ai hu I hx hf hL ay;have a5:=fun W=>oQ (P:=prog) (t:=33) (e:=42) (b:=24) zK zK aD x.ah.length aD W;obtain⟨b0,b1,b2,b3⟩:=b4z s.out;go_enter func19,ntmps19;go_upto_region 1 with fail;rw[<-a3.out];go_wp2;clear a5 b0 b1 b2 b3;obtain⟨C,V⟩:=bJ E.heap.size;have bK:Hid (C=E.heap.size):=hid V;have Rv:Hid (cM (E.heap.size<=·) (E.alloc (.cells (gM x.ah.length) 42)) (.slice (some ⟨C,0,none⟩) x.ah.length x.ah.length) (List.replicate x.ah.length [])):=hid (by rw[V];exact ud E _ aD);rw[<-V];clear V
 go_loopw [6,7] (fun at_ kk wr=>∃(k a:Nat) (W:aC.dw),k<=x.ah.length/\a<=1000*k/\at_=.int .i64 (a:Int)/\kk=.int .i64 (k:Int)/\Hid (aC.oy x k W)/\Hid (cM (E.heap.size<=·) wr (.slice (some ⟨C,0,none⟩) x.ah.length x.ah.length) W)/\Hid (BL E wr))
  (fun _ kk _=>x.ah.length-(intOf kk).toNat)
 case atStart=>exact⟨0,0,List.replicate x.ah.length [],aD,aD,rfl,rfl,hid (aC.oy.zero x),Rv,hid (aG.alloc aL _)⟩
 case round=>
  obtain⟨k,a,W,bN,bP,rfl,rfl,HU,HO,HB⟩:=hrel;obtain⟨wo,rfl⟩:=bJ (wr:World);have bQ:=HB.out.size;have bR:=Ur.out;have c1:=(bF ((HB.out.block _ (aI s.out)).trans s.out)).1.2.1;by_cases y:k<x.ah.length
  ·have bS:(0:Int)<=k:=by omega
   have bU:(k:Int)<x.ah.length:=aD
   have Nn:=hid (Dd L HL.out (.slice au L.length cu) a 6 (·<w.heap.size+1) wo (ax.out.keep (aH.bg HB.out (fun b d=>by have h9:b<w.heap.size+1:=d;omega))) aD aD aD);go_upto_region 6 with fail;go_cut [8] from 26 to 29 (fun n wx=>∃m:Nat,n=.int .i64 (m:Int)/\Hid (m<=5)/\wo=wx)
   case first=>
    go_wp2_with fail;refine Nn.out.mono ?_;rintro e w' ⟨z,rfl,z0,z1,rfl⟩;obtain⟨m,rfl⟩:∃m:Nat,z=(m:Int):=⟨z.toNat,aD⟩;go_wp2;go_meet;case rel=>exact⟨m,rfl,hid aD,rfl⟩
   case rest=>
    obtain⟨m0,rfl,HM,rfl⟩:=hcut;clear Nn;have NG:=HM.out;obtain⟨Z2, -, -, -, -,uf,y3,nN⟩:=a1.out.at y;obtain⟨af,cf,rfl,Ta, -, -⟩:=nN.form;obtain⟨G,X⟩:=bJ (x.ah[k].aF.length);have a6:G<=20:=by rw[X];exact HF.out _ (eV _)
    rw[<-X] at y3;have D:=hid X;have a7:=hid nN;have a8:dV af G:=by rw[D.out];exact Ta
    have Y:=hid y3;clear Ta;have y3:=(HB.out.cell (p:=⟨bM H,bT H+k*4+3,none⟩) Z2).trans Y.out;clear nN X;go_wp2;go_loopw [8,9] (fun n f w2=>∃m o:Nat,m<=m0/\o<=G/\n=.int .i64 (m:Int)/\f=.int .i64 (o:Int)/\Hid (0<m->∀j:Nat,j<o->(aC.fd x k j).kind=1->0<aC.gK W (aC.eD x k j))/\Hid (BL wo w2)) (fun _ f _=>G-(intOf f).toNat);case atStart=>exact⟨m0,0,aL,aD,rfl,rfl,hid (fun _ j h=>absurd h aD),hid aG⟩
    case round=>
     obtain⟨m,o,az,BQ,rfl,rfl,HP,cH⟩:=hrel;have J:=aR HB cH.out;have bV:=J.out.size;obtain⟨x0,x1,x2,x3⟩:=b4z ((J.out.block _ (aI s.out)).trans s.out);have aA:=(J.out.cell (p:=⟨bM H,bT H+k*4+3,none⟩) Z2).trans Y.out;by_cases aB:o<G
     ·have bv:(o:Int)<G:=by omega
      have bW:(0:Int)<=o:=aD
      go_wp2_with fail;refine(rX x k o _ (·<w.heap.size+1) wr (aw.out.keep (aH.bg J.out (fun b d=>by have h9:b<w.heap.size+1:=d;omega))) ⟨aD,aD⟩ ⟨aD,aD⟩).mono ?_;rintro e w3 ⟨rfl,aE⟩;have U:=aR cH aE;have FA:=aC.Ab x k o aD;obtain⟨up,K⟩:=bJ (aC.eD x k o);rw[<-K] at FA ⊢;have aJ:=hid K;clear aE K x0 x1 x2 x3 aA;by_cases bX:0<=up
      ·obtain⟨q,rfl⟩:∃q:Nat,up=(q:Int):=⟨up.toNat,aD⟩
       have TG:=zL q k
       have Z:q<W.length:=by rw[HU.out.len];omega
       have a9:(q:Int)<x.ah.length:=aD
       have aK:=cM.sl (bZ.keep HO.out (aH.below U.out));obtain⟨uq,cq, -,M⟩:=eA.at aK Z;obtain⟨aq,ba,rfl, -, -, -⟩:=M.form;simp only[fK,fL,zxn] at cq
       have N:W[q].length=aC.gK W (aC.eD x k o):=by
        rw[<-aJ.out,aC.gK,zxk,iY,lN Z];rfl
       have bb:=hid N;have aM:dV (some ⟨C,0,none⟩) x.ah.length:=fun _=>⟨_,_,rfl⟩;clear aK M N;by_cases hz:W[q].length=0
       ·have bc:((W[q].length:Int)==0)=true:=by simp[hz]
        clear hz;generalize W[q].length=B at*;go_wp2;go_roundw;case rel=>exact⟨0,o+1,aD,aD,rfl,zG,hid (fun h=>absurd h aD),U⟩
        exact zI
       ·have bc:((W[q].length:Int)==0)=false:=tH aD
        have A:0<W[q].length:=aD
        have Nq:Hid (0<m->∀j:Nat,j<o+1->(aC.fd x k j).kind=1->0<aC.gK W (aC.eD x k j)):=hid (fun h j hj hR=>by
         by_cases e:j=o
         ·subst e;rw[<-bb.out];exact A
         ·exact HP.out h j aD hR)
        clear hz A;generalize W[q].length=B at*;go_wp2;go_roundw;case rel=>exact⟨m,o+1,az,aD,rfl,zG,Nq,U⟩
        exact zI
      ·have Nq:Hid (0<m->∀j:Nat,j<o+1->(aC.fd x k j).kind=1->0<aC.gK W (aC.eD x k j)):=hid (fun h j hj hR=>by
        by_cases e:j=o
        ·subst e
         have h1:=HX.out k j y (by rw[dH y,<-D.out];exact aB) hR;rw[<-aJ.out] at h1;omega
        ·exact HP.out h j aD hR)
       go_wp2;go_roundw;case rel=>exact⟨m,o+1,az,aD,rfl,zG,Nq,U⟩
       exact zI
     ·have aN:G=o:=by omega
      subst aN;clear aB BQ;obtain⟨wm,rfl⟩:=bJ (wr:World);have iy:k<W.length:=by rw[HU.out.len];exact y
      have aj:W.set k []=W:=by
       have:=HU.out.rest k iy aL;rw[<-this];exact List.set_getElem_self iy
      have bd:Hid (cM (E.heap.size<=·) wm (.slice (some ⟨C,0,none⟩) x.ah.length x.ah.length) (W.set k [])):=hid (by rw[aj];exact bZ.keep HO.out (aH.below cH.out));have be:Hid (aC.oy x (k+1) (W.set k [])):=hid (by rw[aj];exact HU.out.next);clear aj;go_wp2;clear x0 x1 x2 x3 aA
      go_loopw [6,11] (fun at_ ii w3=>∃(a':Nat) (rows:List (List Int)),rows.length<=m/\a'<=1000*k+1+100*rows.length/\at_=.int .i64 (a':Int)/\ii=.int .i64 ((rows.length:Nat):Int)/\Hid (aC.oy x (k+1) (W.set k rows))/\
       Hid (cM (E.heap.size<=·) w3 (.slice (some ⟨C,0,none⟩) x.ah.length x.ah.length) (W.set k rows))/\Hid (BL E w3)) (fun _ ii _=>m-(intOf ii).toNat)
      case atStart=>exact⟨a+1,[],bH,jo,zG,rfl,be,bd,J⟩
      case round=>
       obtain⟨a',rows,bY,b4,rfl,rfl,am,aa,U⟩:=hrel;obtain⟨wi,rfl⟩:=bJ (wr:World);have vW:=U.out.size;by_cases b5:rows.length<m
       ·have bw:(rows.length:Int)<m:=by omega
        have bf:0<m:=aD
        have b6:w.heap.size<wi.heap.size:=aD
        have y4:=(U.out.cell (p:=⟨bM H,bT H+k*4+3,none⟩) Z2).trans Y.out;go_wp2
        go_loopw [6,12,13] (fun at_ rv ff w4=>∃(a4:Nat) (r:List Int) (ra:Option Addr) (rc:Nat),r.length<=G/\a4<=a'+r.length/\at_=.int .i64 (a4:Int)/\rv=.slice ra r.length rc/\ff=.int .i64 ((r.length:Nat):Int)/\Hid (bp (wi.heap.size<=·) w4 (.slice ra r.length rc) r)/\
         Hid (∀(j:Nat) (h:j<r.length),((aC.fd x k j).kind=1->0<=r[j]/\r[j]<aC.gK W (aC.eD x k j))/\ -100<=r[j]/\r[j]<=100)/\Hid (BL wi w4)) (fun _ _ ff _=>G-(intOf ff).toNat)
        case atStart=>exact⟨a',[],none,0,bH,bH,rfl,rfl,rfl,hid (bp.nil _ _),hid (fun j h=>absurd h bH),hid aG⟩
        case round=>
         obtain⟨a4,r,ra,rc,b7,b8,rfl,rfl,rfl,HI,Fz,gX⟩:=hrel;have b9:=gX.out.size;have LX:=aR U gX.out;obtain⟨x0,x1,x2,x3⟩:=b4z ((LX.out.block _ (aI s.out)).trans s.out);have y5:=(LX.out.cell (p:=⟨bM H,bT H+k*4+3,none⟩) Z2).trans Y.out;by_cases F:r.length<G
         ·have bx:(r.length:Int)<G:=by omega
          have Cg:=(a7.out.keep (aH.bg LX.out (fun b d=>by have h9:b<w.heap.size+1:=d;omega))).at (j:=r.length) (by rw[<-D.out];exact F);obtain⟨-, -, -, -, -,f3, -⟩:=Cg;have bh:Hid (x.ah[k].aF[r.length]'(by rw[<-D.out];exact F)=aC.fd x k r.length):=hid (iX y (by rw[<-D.out];exact F)).symm;rw[bh.out] at f3;go_upto_region 21 with fail;go_cut [14] from 77 to 80 (fun q wx=>∃i:Int,q=.int .i64 i/\Hid (0<=i/\i<=39)/\wr=wx)
          case first=>
           have aO:=ax.out.keep (aH.bg LX.out (fun b d=>by have h9:b<w.heap.size+1:=d;omega));have bi:=hid aO;clear aO f3;go_wp2_with fail;refine(Dd L HL.out (.slice au L.length cu) a4 40 (·<w.heap.size+1) wr bi.out aD aD aD).mono ?_;rintro e w' ⟨z,rfl,z0,z1,rfl⟩;go_wp2;go_meet;case rel=>exact⟨_,rfl,hid ⟨aD,aD⟩,rfl⟩
          case rest=>
           obtain⟨i,rfl,O,rfl⟩:=hcut;have bj:=O.out;obtain⟨aP,aS⟩:=bj;have ca:=F;have pW:Hid (∀fk,fk=(aC.fd x k r.length).kind->fk=(aC.fd x k r.length).kind):=hid (fun _ h=>h);obtain⟨fk,nN⟩:=bJ ((aC.fd x k r.length).kind);rw[<-nN] at f3;have tF:=hid nN;clear nN pW;go_upto_if 92 with fail;go_cut [14] from 93 to 105 (fun q wx=>∃i:Int,q=.int .i64 i/\Hid ((fk=1->0<=i/\i<aC.gK W (aC.eD x k r.length))/\ -100<=i/\i<=100)/\Hid (BL wr wx))
           case first=>
            by_cases ab:fk=1
            ·subst ab
             have K:=aC.Ab x k r.length aD;have aT:0<=aC.eD x k r.length:=HX.out k r.length y (by rw[dH y,<-D.out];exact F) tF.out.symm;have A:=HP.out bf r.length F tF.out.symm;go_wp2_with fail;refine(rX x k r.length _ (·<w.heap.size+1) wr (aw.out.keep (aH.bg LX.out (fun b d=>by have h9:b<w.heap.size+1:=d;omega))) ⟨aD,aD⟩ ⟨aD,aD⟩).mono ?_;rintro e w6 ⟨rfl,oH⟩;have mA:=hid oH;obtain⟨q,hq⟩:∃q:Nat,aC.eD x k r.length=(q:Int):=⟨(aC.eD x k r.length).toNat,aD⟩;have HQ:=hid hq;rw[hq] at K aT A ⊢;have cb:q<k:=aD
             have a9:(q:Int)<x.ah.length:=aD
             have Z:q<(W.set k rows).length:=by rw[zxl];omega
             have aU:=cM.sl (bZ.keep aa.out (aH.below (bO gX.out oH)));obtain⟨uq,cq, -,M⟩:=eA.at aU Z;obtain⟨aq,ba,rfl, -, -, -⟩:=M.form;simp only[fK,fL,zxn] at cq
             have N:(W.set k rows)[q].length=aC.gK W (q:Int):=by
              rw[List.getElem_set_ne aD,aC.gK,zxk,iY,lN aD];rfl
             have aM:dV (some ⟨C,0,none⟩) x.ah.length:=fun _=>⟨_,_,rfl⟩;rw[N] at cq;clear aU M N oH hq f3 y5 x0 x1 x2 x3;obtain⟨B,an⟩:=bJ (aC.gK W (q:Int));rw[<-an] at cq A;have bk:=hid an;clear an;have bz:¬(B:Int)<1:=aD
             have bA:(1:Int)<=B:=aD
             have bC:¬(q:Int)<0:=aD
             have aY:=Int.emod_lt_of_pos i (show (0:Int)<B by omega);have aZ:=Int.emod_nonneg i (show (B:Int)≠0 by omega)
             have a0:i % (B:Int)<=i:=by
              have h1:=Int.emod_add_mul_ediv i B;have h2:=Int.mul_nonneg (show (0:Int)<=B by omega) (Int.ediv_nonneg (show 0<=i by omega) (show (0:Int)<=B by omega));omega
             have HV:Hid ((1=(1:Int)->0<=i % (B:Int)/\i % (B:Int)<aC.gK W (aC.eD x k r.length))/\ -100<=i % (B:Int)/\i % (B:Int)<=100):=hid ⟨fun _=>⟨aZ,by rw[HQ.out,<-bk.out];exact aY⟩,aD,aD⟩;clear aY aZ a0;go_wp2;go_meet;case rel=>exact⟨_,rfl,by first|exact HV|(rw[show max (B:Int) 1=B by omega];exact HV),mA⟩
            ·have cc:(fk==1)=false:=tH ab
             have bl:Hid (¬fk=1):=hid ab;clear ab;go_wp2;go_meet;case rel=>exact⟨i,rfl,hid ⟨fun h=>absurd h bl.out,aD,aD⟩,hid aG⟩
           case rest=>
            clear aP aS O f3 y5 x0 x1 x2 x3;obtain⟨i,rfl,O,jb⟩:=hcut;have uJ:=hid (aW.keep HI.out (aH.below jb.out));have cd:=jb.out.size;go_wp2_with (at_builtin;go_must (refine dI rfl _ _ rfl Tryz.jG rfl uJ.out (aG.alloc aL _) rfl (lg dr wc _ i rfl trivial) aD ?_));intro v' w8 FU mw;obtain⟨r2,wu⟩:=bJ (r++[i]);rw[<-wu] at FU;have Q:r2.length=r.length+1:=by rw[wu];simp
            obtain⟨a2,c2,rfl, -, -, -⟩:=(bp.sl FU).form;have zO:Hid (bp (wi.heap.size<=·) w8 (.slice a2 r2.length c2) r2):=hid (aW.mono FU (fun b _ d=>eE aD b d));have ou:Hid (BL wi w8):=hid (((bO gX.out jb.out).alloc aD _).trans (mw.below jo (fun b d=>uJ.out.2 b d.symm)))
            have Fo:Hid (∀(j:Nat) (h:j<r2.length),((aC.fd x k j).kind=1->0<=r2[j]/\r2[j]<aC.gK W (aC.eD x k j))/\ -100<=r2[j]/\r2[j]<=100):=hid (fun j hj=>by
             subst wu;by_cases Ul:j<r.length
             ·rw[Xi Ul];exact Fz.out j Ul
             ·have e:j=r.length:=by omega
              subst e;rw[zAr aL];simp only[Nat.sub_self,List.getElem_cons_zero];rw[<-tF.out];exact O.out)
            have f9:=hid Q;clear FU mw wu Q uJ Fz HI O jb;go_wp2;go_roundw;case rel=>exact⟨a4+1,r2,a2,c2,afl,afl,zG,rfl,by rw[f9.out];go_num,zO,Fo,ou⟩
            simp[intOf];have:=f9.out;omega
         ·have ao:r.length=G:=by omega
          have bm:Hid (aC.Gl x k W r):=hid ⟨by rw[ao,dH y,D.out],Fz.out⟩;have bn:=hid ao;clear ao;have bo:k<(W.set k rows).length:=by rw[zxl];exact iy
          obtain⟨g,ce,uu,TT,e1,e2,e3,Np,ap,bq,Bm,E3, -,R⟩:=jv.borrow cW aa.out k bo
          have br:C=g:=by
           simp only[Value.slice.injEq,Option.some.injEq,Addr.mk.injEq] at e1;exact e1.1.1
          subst br;rw[List.getElem_set_self] at Bm;obtain⟨ag,cg,rfl, -, -, -⟩:=(fE.sl Bm).form;have bs:C<wi.heap.size:=kK wi ⟨C,k,none⟩ ap;have ch:=(gX.out.cell (p:=⟨C,k,none⟩) bs).trans ap;have Z3:=hid Bm;have Rw:=hid (fun w2 u'=>R w2 u' (rows++[r]));have LY:=hid E3;have ci:dV (some ⟨C,0,none⟩) x.ah.length:=fun _=>⟨_,_,rfl⟩;have mz:=gX.out;clear e1 e2 e3 Bm E3 R ap bq;go_wp2_with (at_builtin;go_must (refine iM aW rfl _ _ rfl Tryz.mB rfl Z3.out mz rfl r HI.out rfl aD ?_));intro v' w9 Sc sS;obtain⟨ad,ae⟩:=bJ (rows++[r]);have bt:=Rw.out w9 v' ((Turns.bg mz).trans (sS.mono fun b _ d=>Z3.out.1 b d.symm)) Sc;obtain⟨k1,k2,k3,k4⟩:=bt;rw[List.set_set,<-ae] at k3;have Q:ad.length=rows.length+1:=by rw[ae];simp
          have rV:Hid (cM (E.heap.size<=·) (w9.setCell ⟨C,k,none⟩ v') (.slice (some ⟨C,0,none⟩) x.ah.length x.ah.length) (W.set k ad)):=hid (bZ.mono k3 (fun b _ d=>eE vW b d))
          have pX:Hid (BL E (w9.setCell ⟨C,k,none⟩ v')):=hid (U.out.trans (k4.below vW (fun b d=>by
           rcases d with d|d
           ·exact(LY.out b d).1
           ·rw[d];exact Np)))
          have bu:Hid (aC.oy x (k+1) (W.set k ad)):=hid (by
           rw[ae]
           exact aC.oy.snoc HX.out iy am.out bm.out (by have:=HM.out;omega))
          obtain⟨av,lv,cv,rfl⟩:∃a l c,v'=.slice a l c:=ahU
          have f9:=hid Q;clear Sc sS k3 k4 ae Q Rw Z3 LY am aa HI Fz;go_wp2;go_roundw;case rel=>exact⟨a4,ad,afl,by have:=f9.out;have:=bn.out;omega,rfl,by rw[f9.out];go_num,bu,rV,pX⟩
          simp[intOf];have:=f9.out;omega
       ·clear y3
        go_wp2;go_roundw;case rel=>exact⟨k+1,a',W.set k rows,aD,aD,rfl,zG,am,aa,U⟩
        exact zI
  ·have ai:k=x.ah.length:=by omega
   go_wp2;go_ret;exact⟨_,W,rfl,HU.out.done,bZ.mono HO.out (fun b _ d=>by have h9:E.heap.size<=b:=d;show w.heap.size<=b;omega),bL.out.trans (HB.out.mono aD)⟩
theorem FJ{α:Type}{xs ys:List α}{k:Nat}(hx:k<xs.length)(a:k<ys.length)(h:xs.take k=ys.take k)(e:xs[k]=ys[k]):xs.take (k+1)=ys.take (k+1):=by
 rw[yh hx,yh a,h,e]
theorem Jl{α:Type}{xs ys:List α}{k:Nat}(a:xs.length=ys.length)(b:k=xs.length)(h:xs.take k=ys.take k):xs=ys:=by
 have c:xs.take xs.length=xs:=zxw;have d:ys.take ys.length=ys:=zxw;rw[b] at h;rw[<-c,h,a,d]
theorem DZ(xs ys:List Int)(u v:Value)(S T:Nat->Prop)(w:World)(B:bB S w u xs)(C:bB T w v ys):
  CP 44 #[u,v] w fun e D=>e=.returned (.bool (decide (xs=ys)))/\∃n,D=w.drewN n:=by
 obtain⟨a,cap,rfl,E,r,g,F,c⟩:=B;obtain⟨M,s,rfl,N,O,G,p,H⟩:=C;clear F p;unfold maxLen at g G;by_cases h:xs.length=ys.length
 ·have q:((xs.length:Int) !=(ys.length:Int))=false:=by simp[h]
  have I:xs.length<=ys.length:=aD
  have HL:=hid h;clear h;go_enter func44,ntmps44;go_wp2;go_loopw [13] (fun i wr=>∃k:Nat,k<=xs.length/\i=.int .i64 k/\Hid (xs.take k=ys.take k)/\∃n,wr=w.drewN n) (fun i _=>xs.length-(intOf i).toNat);case atStart=>exact⟨0,zxa _,rfl,hid rfl,0,rfl⟩
  case round=>
   obtain⟨k,P,rfl,hpre,n,rfl⟩:=hrel;by_cases j:k<xs.length
   ·obtain⟨x,hx,l⟩:=c k j
    obtain⟨y,Q,m⟩:=H k aD;obtain⟨t,d⟩:=bJ (xs[k]);obtain⟨z,f⟩:=bJ (ys[k]);rw[<-d] at l;rw[<-f] at m;subst l;subst m;have J:=zN k
    have K:=zL k xs.length
    have L:=zL k ys.length
    have HX:=hid d;have A:=hid f;clear d f;by_cases b:t=z
    ·subst b
     go_wp2;go_quiet (fail);go_wp2;go_roundw;case rel=>exact⟨k+1,aD,zG,hid (Im j aD hpre.out (HX.out.symm.trans A.out)),_,rfl⟩
     exact zI
    ·have R:(t !=z)=true:=by simpa using b
     have o:xs≠ys:=by
      intro e;subst e;exact b (HX.out.trans A.out.symm)
     have HN:=hid o;clear b o;exact Xh
   ·exact aew
 ·have q:((xs.length:Int) !=(ys.length:Int))=true:=by simpa using (by omega:(xs.length:Int)≠ys.length)
  rw[decide_eq_false (fun e=>h ah4)];clear h;go_enter func44,ntmps44;go_wp2;go_ret;exact⟨rfl,0,rfl⟩
theorem Pn(xs ys:List Int)(u v:Value)(S T:Nat->Prop)(w:World)(a:bB S w u xs)(b:bB T w v ys):
  CB 44 #[u,v] w (.bool (decide (xs=ys))):=
 (DZ xs ys u v S T w a b).mono fun e c h=>⟨h.1,by obtain⟨n,rfl⟩:=h.2;exact aJ aG n⟩
theorem aeo(h:p:=by
  go_wp2_with fail
  refine HC.out.mono ?_
  rintro e w' ⟨rfl,hb⟩
  have HB:=hid hb
  clear hb
  go_wp2
  go_ret
  exact⟨rfl,HB.out⟩):p:=h
theorem Po(xs ys:List Int)(u v:Value)(S T:Nat->Prop)(w:World)(a:bB S w u xs)(b:bB T w v ys):
  CB 43 #[u,v] w (.bool (decide (xs=ys))):=by
 have HC:=hid (Pn xs ys u v S T w a b);clear a b;go_enter func43,ntmps43;exact aeo
theorem Lc(h:p:=by
  have hk0:=zN k
  have hk1:=zL k xs.length
  have hk2:=zL k ys.length
  have HE:Hid (∀d,d=decide (xs[k]=ys[k])->(d=true->xs.take (k+1)=ys.take (k+1))/\(d=false->xs≠ys)):=hid (by
   rintro d rfl
   refine⟨fun h=>FJ hlt aD hpre.out (of_decide_eq_true h),fun h e=>?_⟩
   subst e
   exact of_decide_eq_false h rfl)
  obtain⟨d,hd⟩:=bJ (decide (xs[k]=ys[k]))
  rw[<-hd] at HX
  have HD:=hid (HE.out d hd)
  clear hx2 hy2 hd HE
  go_wp2_with fail
  refine HX.out.mono ?_
  rintro e w' ⟨rfl,hb⟩
  have cH:=aR HB hb
  clear hb HX hx hy
  cases d with
  |true=>
   go_wp2
   go_roundw
   case rel=>exact⟨k+1,aD,zG,hid (HD.out.1 trivial),cH⟩
   exact zI
  |false=>
   go_wp2
   go_ret
   exact⟨gL (decide_eq_false (HD.out.2 trivial)).symm,cH.out⟩):p:=h
theorem aem(h:p:=by
  go_wp2
  go_ret
  exact⟨gL (decide_eq_true (Jl HL.out aD hpre.out)).symm,HB.out⟩):p:=h
theorem Pp(xs ys:List (List Int))(u v:Value)(S T:Nat->Prop)(w:World)(c:eA (bB S) S w u xs)(f:eA (bB T) T w v ys):
  CB 42 #[u,v,.func (.func 43) #[] #[]] w (.bool (decide (xs=ys))):=by
 obtain⟨a,cap,rfl,p,m,n⟩:=c.form;obtain⟨t,o,rfl,z,A,B⟩:=f.form;have q:=hid (fun W (g:BL w W)=>cG.keep c (aH.below g));have r:=hid (fun W (g:BL w W)=>cG.keep f (aH.below g));clear c f;by_cases b:xs.length=ys.length
 ·have l:((xs.length:Int) !=(ys.length:Int))=false:=by simp[b]
  have HL:=hid b;have s:xs.length<=ys.length:=aD
  clear b;go_enter func42,ntmps42;go_wp2;go_loopw [17] (fun i wr=>∃k:Nat,k<=xs.length/\i=.int .i64 k/\Hid (xs.take k=ys.take k)/\Hid (BL w wr)) (fun i _=>xs.length-(intOf i).toNat);case atStart=>exact⟨0,zxa _,rfl,hid rfl,hid aG⟩
  case round=>
   obtain⟨k,C,rfl,hpre,HB⟩:=hrel;by_cases hlt:k<xs.length
   ·obtain⟨x,hx, -,hx2⟩:=(q.out wr HB.out).at hlt
    obtain⟨y,hy, -,hy2⟩:=(r.out wr HB.out).at (j:=k) aD;have HX:=hid (Po xs[k] ys[k] x y _ _ wr hx2 hy2);exact Lc
   ·exact aem
 ·have l:((xs.length:Int) !=(ys.length:Int))=true:=by simpa using (by omega:(xs.length:Int)≠ys.length)
  rw[decide_eq_false (fun e=>b ah4)];clear b;go_enter func42,ntmps42;go_wp2;go_ret;exact⟨rfl,aG⟩
theorem Pq(xs ys:List (List Int))(u v:Value)(S T:Nat->Prop)(w:World)(a:cG S w u xs)(b:cG T w v ys):
  CB 41 #[u,v] w (.bool (decide (xs=ys))):=by
 have HC:=hid (Pp xs ys u v S T w a b);clear a b;go_enter func41,ntmps41;exact aeo
theorem LZ(xs ys:List (List (List Int)))(u v:Value)(S T:Nat->Prop)(w:World)(c:eA (cG S) S w u xs)(f:eA (cG T) T w v ys):
  CB 40 #[u,v,.func (.func 41) #[] #[]] w (.bool (decide (xs=ys))):=by
 obtain⟨a,cap,rfl,p,m,n⟩:=c.form;obtain⟨t,o,rfl,z,A,B⟩:=f.form;have q:=hid (fun W (g:BL w W)=>bK.keep c (aH.below g));have r:=hid (fun W (g:BL w W)=>bK.keep f (aH.below g));clear c f;by_cases b:xs.length=ys.length
 ·have l:((xs.length:Int) !=(ys.length:Int))=false:=by simp[b]
  have HL:=hid b;have s:xs.length<=ys.length:=aD
  clear b;go_enter func40,ntmps40;go_wp2;go_loopw [17] (fun i wr=>∃k:Nat,k<=xs.length/\i=.int .i64 k/\Hid (xs.take k=ys.take k)/\Hid (BL w wr)) (fun i _=>xs.length-(intOf i).toNat);case atStart=>exact⟨0,zxa _,rfl,hid rfl,hid aG⟩
  case round=>
   obtain⟨k,C,rfl,hpre,HB⟩:=hrel;by_cases hlt:k<xs.length
   ·obtain⟨x,hx, -,hx2⟩:=(q.out wr HB.out).at hlt
    obtain⟨y,hy, -,hy2⟩:=(r.out wr HB.out).at (j:=k) aD;have HX:=hid (Pq xs[k] ys[k] x y _ _ wr hx2 hy2);exact Lc
   ·exact aem
 ·have l:((xs.length:Int) !=(ys.length:Int))=true:=by simpa using (by omega:(xs.length:Int)≠ys.length)
  rw[decide_eq_false (fun e=>b ah4)];clear b;go_enter func40,ntmps40;go_wp2;go_ret;exact⟨rfl,aG⟩
theorem Us(xs ys:List (List (List Int)))(u v:Value)(S T:Nat->Prop)(w:World)(a:bK S w u xs)(b:bK T w v ys):
  CB 23 #[u,v] w (.bool (decide (xs=ys))):=by
 have HC:=hid (LZ xs ys u v S T w a b);clear a b;go_enter func23,ntmps23;exact aeo
theorem D1{α:Type}{c:α->α->Int}{xs ys:List α}{k:Nat}(hx:k<xs.length)(a:k<ys.length):
  Cz.gZ c (xs.drop k) (ys.drop k)=if c xs[k] ys[k]=0 then Cz.gZ c (xs.drop (k+1)) (ys.drop (k+1)) else c xs[k] ys[k]:=by
 rw[zxe hx,zxe a];rfl
theorem Z5{α:Type}{c:α->α->Int}{xs ys:List α}{k:Nat}(hx:k<xs.length)(a:ys.length<=k):Cz.gZ c (xs.drop k) (ys.drop k)=1:=by
 rw[zxe hx,List.drop_eq_nil_of_le a];rfl
theorem Jm{α:Type}{c:α->α->Int}{xs ys:List α}{k:Nat}(hx:xs.length<=k):Cz.gZ c (xs.drop k) (ys.drop k)=if k<ys.length then -1 else 0:=by
 rw[List.drop_eq_nil_of_le hx];by_cases h:k<ys.length
 ·rw[zxe h,if_pos h];rfl
 ·rw[List.drop_eq_nil_of_le aD,if_neg h];rfl
theorem G6(a:Int)(w:World):CP 164 #[.int .i64 a] w fun e b=>e=.returned (.bool false)/\w=b:=by
 have h:(a !=a)=false:=bH
 go_enter func164,ntmps164;exact Ez
theorem aeS(h:p:=by
  go_wp2
  go_ret
  exact⟨Ij,rfl⟩):p:=h
theorem Z6(a b:Int)(w:World):CP 123 #[.int .i64 a,.int .i64 b] w fun e c=>e=.returned (.int .i64 (Cz.dB a b))/\w=c:=by
 have H:Hid (Cz.dB a b=if a<b then -1 else if b<a then 1 else 0):=hid rfl;obtain⟨r,f⟩:=bJ (Cz.dB a b);rw[<-f] at H ⊢;clear f;go_enter func123,ntmps123;go_wp2_with fail;refine(G6 a w).mono ?_;rintro e c ⟨rfl,rfl⟩;go_wp2_with fail;refine(G6 b w).mono ?_;rintro e c ⟨rfl,rfl⟩;by_cases d:a<b
 ·have HP:Hid (r= -1):=hid (by rw[H.out,if_pos d])
  exact aeS
 ·by_cases g:b<a
  ·have HP:Hid (r=1):=hid (by rw[H.out,if_neg d,if_pos g])
   exact aeS
  ·have HP:Hid (r=0):=hid (by rw[H.out,if_neg d,if_neg g])
   exact aeS
theorem Xg(h:p:=by
  by_cases hl:(xs.length:Int)<(ys.length:Int)
  ·have HP:Hid (r= -1):=hid (by rw[hpre.out,HE.out,if_pos aD])
   exact aeS
  ·have HP:Hid (r=0):=hid (by rw[hpre.out,HE.out,if_neg aD])
   exact aeS):p:=h
theorem aeB(h:p:=by
  have hge:(ys.length:Int)<=(k:Int):=by omega
  have HP:Hid (r=1):=hid (by rw[hpre.out,Z5 hlt aD])
  clear hx2
  exact aeS):p:=h
theorem aev(h:p:=by
  have hb:(d !=0)=false:=by simp[h0]
  clear h0
  go_wp2
  go_roundw
  case rel=>exact⟨k+1,aD,aD,zG,HP,trivial⟩
  exact zI):p:=h
theorem amy(h:p:=by
  have HP:Hid (r=d):=hid Qq
  have hb:(d !=0)=true:=WO
  clear h0
  exact aeS):p:=h
theorem sE(xs ys:List (Int))(u v:Value)(S T:Nat->Prop)(w:World)(f:eA (fun _ u (x:Int)=>u=.int .i64 x) S w u xs)(g:eA (fun _ u (x:Int)=>u=.int .i64 x) T w v ys):
  CP 74 #[u,v] w fun e m=>e=.returned (.int .i64 (Cz.gZ Cz.dB xs ys))/\w=m:=by
 obtain⟨a,cap,rfl,q,n,o⟩:=f.form;obtain⟨G,p,rfl,H,I,J⟩:=g.form;have s:=hid f;have t:=hid g;have HR:Hid (∀z,z=Cz.gZ Cz.dB xs ys->z=Cz.gZ Cz.dB (xs.drop 0) (ys.drop 0)):=hid (fun z h=>h);obtain⟨r,j⟩:=bJ (Cz.gZ Cz.dB xs ys);have A:=hid (HR.out r j);rw[<-j];clear f g j HR;go_enter func74,ntmps74;go_wp2;go_loopw [11] (fun i wr=>∃k:Nat,k<=xs.length/\k<=ys.length/\i=.int .i64 k/\Hid (r=Cz.gZ Cz.dB (xs.drop k) (ys.drop k))/\wr=w) (fun i _=>xs.length-(intOf i).toNat);case atStart=>exact⟨0,zxa _,zxa _,rfl,A,rfl⟩
 case round=>
  obtain⟨k,K,B,rfl,hpre,rfl⟩:=hrel;by_cases hlt:k<xs.length
  ·obtain⟨x,hx, -,hx2⟩:=s.out.at hlt
   have C:=zN k
   have D:=zL k xs.length
   by_cases b:k<ys.length
   ·obtain⟨y,E, -,l⟩:=t.out.at b
    have F:=zL k ys.length
    have hge:¬(ys.length:Int)<=(k:Int):=aD
    have HX:=hid (Z6 xs[k] ys[k] wr);have HS:=hid (D1 (c:=Cz.dB) hlt b);obtain⟨d,hd⟩:=bJ (Cz.dB xs[k] ys[k]);rw[<-hd] at HX HS;obtain rfl:x=.int .i64 xs[k]:=hx2;obtain rfl:y=.int .i64 ys[k]:=l;generalize xs[k]=L at*;generalize ys[k]=M at*;clear hd;go_wp2_with fail;refine HX.out.mono ?_;rintro e m ⟨rfl,rfl⟩;clear HX hx E;by_cases h0:d=0
    ·have HP:Hid (r=Cz.gZ Cz.dB (xs.drop (k+1)) (ys.drop (k+1))):=hid WL
     exact aev
    ·exact amy
   ·exact aeB
  ·have HE:=hid (Jm (c:=Cz.dB) (xs:=xs) (ys:=ys) (k:=k) aD)
   exact Xg
theorem Jo(xs ys:List (List Int))(u v:Value)(S T:Nat->Prop)(w:World)(j:eA (bB S) S w u xs)(l:eA (bB T) T w v ys):
  CP 73 #[u,v,.func (.func 74) #[] #[]] w fun e g=>e=.returned (.int .i64 (Cz.gZ Cz.di xs ys))/\w=g:=by
 obtain⟨a,cap,rfl,q,n,o⟩:=j.form;obtain⟨G,p,rfl,H,I,J⟩:=l.form;have s:=hid j;have t:=hid l;have HR:Hid (∀z,z=Cz.gZ Cz.di xs ys->z=Cz.gZ Cz.di (xs.drop 0) (ys.drop 0)):=hid (fun z h=>h);obtain⟨r,m⟩:=bJ (Cz.gZ Cz.di xs ys);have A:=hid (HR.out r m);rw[<-m];clear j l m HR;go_enter func73,ntmps73;go_wp2;go_loopw [13] (fun i wr=>∃k:Nat,k<=xs.length/\k<=ys.length/\i=.int .i64 k/\Hid (r=Cz.gZ Cz.di (xs.drop k) (ys.drop k))/\wr=w) (fun i _=>xs.length-(intOf i).toNat);case atStart=>exact⟨0,zxa _,zxa _,rfl,A,rfl⟩
 case round=>
  obtain⟨k,K,B,rfl,hpre,rfl⟩:=hrel;by_cases hlt:k<xs.length
  ·obtain⟨x,hx, -,hx2⟩:=s.out.at hlt
   have C:=zN k
   have D:=zL k xs.length
   by_cases b:k<ys.length
   ·obtain⟨y,E, -,f⟩:=t.out.at b
    have F:=zL k ys.length
    have hge:¬(ys.length:Int)<=(k:Int):=aD
    have HX:Hid (CP 74 #[x,y] wr fun e g=>e=.returned (.int .i64 (Cz.di xs[k] ys[k]))/\wr=g):=hid (sE xs[k] ys[k] x y _ _ wr hx2 f);have HS:=hid (D1 (c:=Cz.di) hlt b);obtain⟨d,hd⟩:=bJ (Cz.di xs[k] ys[k]);rw[<-hd] at HX HS;clear hx2 f;clear hd;go_wp2_with fail;refine HX.out.mono ?_;rintro e g ⟨rfl,rfl⟩;clear HX hx E;by_cases h0:d=0
    ·have HP:Hid (r=Cz.gZ Cz.di (xs.drop (k+1)) (ys.drop (k+1))):=hid WL
     exact aev
    ·exact amy
   ·exact aeB
  ·have HE:=hid (Jm (c:=Cz.di) (xs:=xs) (ys:=ys) (k:=k) aD)
   exact Xg
theorem Jp(xs ys:List (List (List Int)))(t:xs.length=ys.length)(u v:Value)(S T:Nat->Prop)(w:World)(o:bK S w u xs)(p:bK T w v ys):
  CB 33 #[u,v] w (.int .i64 (Cz.sC xs ys)):=by
 obtain⟨a,cap,rfl,F,A,B⟩:=o.form;obtain⟨Q,C,rfl,R,U,V⟩:=p.form;have G:=hid (fun W (q:BL w W)=>bK.keep o (aH.below q));have H:=hid (fun W (q:BL w W)=>bK.keep p (aH.below q));have HR:Hid (∀z,z=Cz.sC xs ys->z=Cz.gZ (Cz.gZ Cz.di) (xs.drop 0) (ys.drop 0)):=hid (fun z h=>h);obtain⟨r,s⟩:=bJ (Cz.sC xs ys);have I:=hid (HR.out r s);have HL:=hid t;have J:xs.length<=ys.length:=aD
 rw[<-s];clear o p s HR t;go_enter func33,ntmps33;go_wp2;go_loopw [9] (fun i wr=>∃k:Nat,k<=xs.length/\i=.int .i64 k/\Hid (r=Cz.gZ (Cz.gZ Cz.di) (xs.drop k) (ys.drop k))/\Hid (BL w wr)) (fun i _=>xs.length-(intOf i).toNat);case atStart=>exact⟨0,zxa _,rfl,I,hid aG⟩
 case round=>
  obtain⟨k,X,rfl,hpre,f⟩:=hrel;by_cases g:k<xs.length
  ·have b:k<ys.length:=by omega
   obtain⟨x,hx, -,j⟩:=(G.out wr f.out).at g;obtain⟨y,K, -,l⟩:=(H.out wr f.out).at b;have L:=zN k
   have M:=zL k xs.length
   have N:=zL k ys.length
   have HX:=hid (fun nq=>Jo xs[k] ys[k] x y _ _ (wr.drewN nq) (cG.keep j (aH.below (aJ aG nq))) (cG.keep l (aH.below (aJ aG nq))));have HS:=hid (D1 (c:=Cz.gZ Cz.di) g b);obtain⟨d,hd⟩:=bJ (Cz.gZ Cz.di xs[k] ys[k]);have D:Hid (∀nq,CP 73 #[x,y,.func (.func 74) #[] #[]] (wr.drewN nq) fun e O=>e=.returned (.int .i64 d)/\∃m,O=wr.drewN m):=hid (by rw[hd];exact fun nq=>(HX.out nq).mono fun _ _ h=>⟨h.1,nq,h.2.symm⟩);rw[<-hd] at HS;clear j l hd HX;go_wp2;go_quiet ((exact D.out _));have E:=hid (fun n=>f.out.trans (aJ (Below.refl wr.heap.size wr) n|>.mono f.out.size));clear hx K D;by_cases h0:d=0
   ·have HP:Hid (r=Cz.gZ (Cz.gZ Cz.di) (xs.drop (k+1)) (ys.drop (k+1))):=hid WL
    have P:(d !=0)=false:=by simp[h0]
    clear h0;go_wp2;go_roundw;case rel=>exact⟨k+1,aD,zG,HP,hid (E.out _)⟩
    exact zI
   ·have HP:Hid (r=d):=hid Qq
    have P:(d !=0)=true:=WO
    clear h0;go_wp2;go_ret;exact⟨Ij,E.out _⟩
  ·have HP:Hid (r=0):=hid (by rw[hpre.out,Jm aD,if_neg abr])
   go_wp2;go_ret;exact⟨Ij,f.out⟩
end Go.Proofs.YtohddpbgflgiaaaGreatDoor
namespace Go.Proofs
open Go.Shelf Go.Proofs.YtohddpbgflgiaaaGreatDoor
def Tryz.L5:Go.Shelf.Ren:=⟨fun|189=>120|125=>160|257=>163|128=>199|129=>200|294=>202|295=>203|296=>204|297=>205|298=>206|299=>207|216=>208|300=>209|301=>210|328=>228|329=>224|330=>225|331=>229|332=>230|215=>164|343=>233|n=>n,fun|28=>22|3=>3|46=>183|0=>0|51=>227|53=>230|4=>4|183=>254|182=>253|131=>188|5=>5|9=>9|218=>276|222=>280|228=>285|229=>286|n=>n,fun|n=>n⟩
theorem Tryz.RI:Go.Proofs.Lays.n189 prog Tryz.L5:={
 mixed:=by kernel_rfl
 f125:=func160.trans (congrArg some zK)
 f128:=func199.trans (congrArg some zK)
 f129:=func200.trans (congrArg some zK)
 f189:=func120.trans (congrArg some zK)
 f215:=func164.trans (congrArg some zK)
 f216:=func208.trans (congrArg some zK)
 f257:=func163.trans (congrArg some zK)
 f294:=func202.trans (congrArg some zK)
 f295:=func203.trans (congrArg some zK)
 f296:=func204.trans (congrArg some zK)
 f297:=func205.trans (congrArg some zK)
 f298:=func206.trans (congrArg some zK)
 f299:=func207.trans (congrArg some zK)
 f300:=func209.trans (congrArg some zK)
 f301:=func210.trans (congrArg some zK)
 f328:=func228.trans (congrArg some zK)
 f329:=func224.trans (congrArg some zK)
 f330:=func225.trans (congrArg some zK)
 f331:=func229.trans (congrArg some zK)
 f332:=func230.trans (congrArg some zK)
 f343:=func233.trans (congrArg some zK)
 t0:=underlying0
 a0:=Tryz.isAgg0
 z0:=Tryz.sizeOf0
 v0:=Tryz.zeroValue0
 t3:=underlying3
 a3:=Tryz.isAgg3
 z3:=Tryz.sizeOf3
 v3:=Tryz.zeroValue3
 t4:=underlying4
 a4:=Tryz.isAgg4
 z4:=Tryz.sizeOf4
 v4:=Tryz.zeroValue4
 t5:=underlying5
 a5:=Tryz.isAgg5
 z5:=Tryz.sizeOf5
 v5:=Tryz.zeroValue5
 t9:=underlying9
 a9:=Tryz.isAgg9
 z9:=Tryz.sizeOf9
 v9:=Tryz.zeroValue9
 t28:=underlying22
 a28:=Tryz.isAgg22
 z28:=Tryz.sizeOf22
 v28:=Tryz.zeroValue22
 t46:=underlying183
 a46:=Tryz.isAgg183
 z46:=Tryz.sizeOf183
 v46:=Tryz.zeroValue183
 t51:=underlying227
 a51:=Tryz.isAgg227
 z51:=Tryz.sizeOf227
 v51:=Tryz.zeroValue227
 t53:=underlying230
 a53:=Tryz.isAgg230
 z53:=Tryz.sizeOf230
 v53:=Tryz.zeroValue230
 t131:=underlying188
 a131:=Tryz.isAgg188
 z131:=Tryz.sizeOf188
 v131:=Tryz.zeroValue188
 t182:=underlying253
 a182:=Tryz.isAgg253
 z182:=Tryz.sizeOf253
 v182:=Tryz.zeroValue253
 t183:=underlying254
 a183:=Tryz.isAgg254
 z183:=Tryz.sizeOf254
 v183:=Tryz.zeroValue254
 t218:=underlying276
 a218:=Tryz.isAgg276
 z218:=Tryz.sizeOf276
 v218:=Tryz.zeroValue276
 t222:=underlying280
 a222:=Tryz.isAgg280
 z222:=Tryz.sizeOf280
 v222:=Tryz.zeroValue280
 t228:=underlying285
 a228:=Tryz.isAgg285
 z228:=Tryz.sizeOf285
 v228:=Tryz.zeroValue285
 t229:=underlying286
 a229:=Tryz.isAgg286
 z229:=Tryz.sizeOf286
 v229:=Tryz.zeroValue286}
def Tryz.L6:Go.Shelf.Ren:=⟨fun|108=>71|n=>n,fun|28=>22|3=>3|0=>0|4=>4|n=>n,fun|n=>n⟩
theorem Tryz.RJ:Go.Proofs.Lays.n108 prog Tryz.L6:={
 mixed:=by kernel_rfl
 f108:=func71.trans (congrArg some zK)
 t0:=underlying0
 a0:=Tryz.isAgg0
 z0:=Tryz.sizeOf0
 v0:=Tryz.zeroValue0
 t3:=underlying3
 a3:=Tryz.isAgg3
 z3:=Tryz.sizeOf3
 v3:=Tryz.zeroValue3
 t4:=underlying4
 a4:=Tryz.isAgg4
 z4:=Tryz.sizeOf4
 v4:=Tryz.zeroValue4
 t28:=underlying22
 a28:=Tryz.isAgg22
 z28:=Tryz.sizeOf22
 v28:=Tryz.zeroValue22}
def Tryz.FK:Go.Shelf.Ren:=⟨fun|20=>115|n=>n,fun|22=>22|3=>3|4=>4|0=>0|n=>n,fun|n=>n⟩
theorem Tryz.G7:Go.Proofs.Lays2.n20 prog Tryz.FK:={
 mixed:=by kernel_rfl
 f20:=func115.trans (congrArg some zK)
 t0:=underlying0
 a0:=Tryz.isAgg0
 z0:=Tryz.sizeOf0
 v0:=Tryz.zeroValue0
 t3:=underlying3
 a3:=Tryz.isAgg3
 z3:=Tryz.sizeOf3
 v3:=Tryz.zeroValue3
 t4:=underlying4
 a4:=Tryz.isAgg4
 z4:=Tryz.sizeOf4
 v4:=Tryz.zeroValue4
 t22:=underlying22
 a22:=Tryz.isAgg22
 z22:=Tryz.sizeOf22
 v22:=Tryz.zeroValue22
 i3:=by kernel_rfl}
def Tryz.xT:Go.Shelf.Ren:=⟨fun|6=>112|15=>160|14=>159|28=>199|29=>200|20=>191|21=>192|22=>193|23=>194|24=>195|25=>196|26=>197|27=>198|46=>223|47=>224|48=>225|49=>226|50=>227|57=>232|n=>n,fun|22=>42|24=>22|25=>141|3=>3|39=>183|0=>0|53=>227|55=>230|4=>4|46=>254|45=>253|50=>188|5=>5|9=>9|66=>276|70=>280|76=>285|77=>286|n=>n,fun|n=>n⟩
theorem Tryz.Pr:Go.Proofs.SlLaysF.n6 prog Tryz.xT:={
 mixed:=by kernel_rfl
 f6:=⟨Tryz.f112.name,iG,func112.trans (congrArg some zK)⟩
 f14:=⟨Tryz.f159.name,iG,func159.trans (congrArg some zK)⟩
 f15:=func160.trans (congrArg some zK)
 f20:=⟨Tryz.f191.name,iG,func191.trans (congrArg some zK)⟩
 f21:=⟨Tryz.f192.name,iG,func192.trans (congrArg some zK)⟩
 f22:=⟨Tryz.f193.name,iG,func193.trans (congrArg some zK)⟩
 f23:=⟨Tryz.f194.name,iG,func194.trans (congrArg some zK)⟩
 f24:=⟨Tryz.f195.name,iG,func195.trans (congrArg some zK)⟩
 f25:=⟨Tryz.f196.name,iG,func196.trans (congrArg some zK)⟩
 f26:=⟨Tryz.f197.name,iG,func197.trans (congrArg some zK)⟩
 f27:=⟨Tryz.f198.name,iG,func198.trans (congrArg some zK)⟩
 f28:=func199.trans (congrArg some zK)
 f29:=func200.trans (congrArg some zK)
 f46:=⟨Tryz.f223.name,iG,func223.trans (congrArg some zK)⟩
 f47:=func224.trans (congrArg some zK)
 f48:=func225.trans (congrArg some zK)
 f49:=⟨Tryz.f226.name,iG,func226.trans (congrArg some zK)⟩
 f50:=⟨Tryz.f227.name,iG,func227.trans (congrArg some zK)⟩
 f57:=⟨Tryz.f232.name,iG,func232.trans (congrArg some zK)⟩
 t0:=underlying0
 a0:=Tryz.isAgg0
 z0:=Tryz.sizeOf0
 v0:=Tryz.zeroValue0
 t3:=underlying3
 a3:=Tryz.isAgg3
 z3:=Tryz.sizeOf3
 v3:=Tryz.zeroValue3
 t4:=underlying4
 a4:=Tryz.isAgg4
 z4:=Tryz.sizeOf4
 v4:=Tryz.zeroValue4
 t5:=underlying5
 a5:=Tryz.isAgg5
 z5:=Tryz.sizeOf5
 v5:=Tryz.zeroValue5
 t9:=underlying9
 a9:=Tryz.isAgg9
 z9:=Tryz.sizeOf9
 v9:=Tryz.zeroValue9
 t22:=underlying42
 a22:=Tryz.isAgg42
 z22:=Tryz.sizeOf42
 v22:=Tryz.zeroValue42
 a24:=Tryz.isAgg22
 z24:=Tryz.sizeOf22
 t25:=underlying141
 a25:=Tryz.isAgg141
 z25:=Tryz.sizeOf141
 v25:=Tryz.zeroValue141
 t39:=underlying183
 a39:=Tryz.isAgg183
 z39:=Tryz.sizeOf183
 v39:=Tryz.zeroValue183
 t45:=underlying253
 a45:=Tryz.isAgg253
 z45:=Tryz.sizeOf253
 v45:=Tryz.zeroValue253
 t46:=underlying254
 a46:=Tryz.isAgg254
 z46:=Tryz.sizeOf254
 v46:=Tryz.zeroValue254
 t50:=underlying188
 a50:=Tryz.isAgg188
 z50:=Tryz.sizeOf188
 v50:=Tryz.zeroValue188
 t53:=underlying227
 a53:=Tryz.isAgg227
 z53:=Tryz.sizeOf227
 v53:=Tryz.zeroValue227
 t55:=underlying230
 a55:=Tryz.isAgg230
 z55:=Tryz.sizeOf230
 v55:=Tryz.zeroValue230
 t66:=underlying276
 a66:=Tryz.isAgg276
 z66:=Tryz.sizeOf276
 v66:=Tryz.zeroValue276
 t70:=underlying280
 a70:=Tryz.isAgg280
 z70:=Tryz.sizeOf280
 v70:=Tryz.zeroValue280
 t76:=underlying285
 a76:=Tryz.isAgg285
 z76:=Tryz.sizeOf285
 v76:=Tryz.zeroValue285
 t77:=underlying286
 a77:=Tryz.isAgg286
 z77:=Tryz.sizeOf286
 v77:=Tryz.zeroValue286}
def Tryz.Ps:Go.Shelf.Ren:=⟨fun|14=>114|n=>n,fun|22=>42|24=>22|29=>22|32=>141|3=>3|4=>4|35=>183|0=>0|n=>n,fun|n=>n⟩
theorem Tryz.agV:Go.Proofs.SlLaysG2.n14 prog Tryz.Ps:={
 mixed:=by kernel_rfl
 f14:=⟨Tryz.f114.name,iG,func114.trans (congrArg some zK)⟩
 t0:=underlying0
 a0:=Tryz.isAgg0
 z0:=Tryz.sizeOf0
 v0:=Tryz.zeroValue0
 t3:=underlying3
 a3:=Tryz.isAgg3
 z3:=Tryz.sizeOf3
 v3:=Tryz.zeroValue3
 t4:=underlying4
 a4:=Tryz.isAgg4
 z4:=Tryz.sizeOf4
 v4:=Tryz.zeroValue4
 t22:=underlying42
 a22:=Tryz.isAgg42
 z22:=Tryz.sizeOf42
 v22:=Tryz.zeroValue42
 a24:=Tryz.isAgg22
 z24:=Tryz.sizeOf22
 a29:=Tryz.isAgg22
 z29:=Tryz.sizeOf22
 t32:=underlying141
 a32:=Tryz.isAgg141
 z32:=Tryz.sizeOf141
 v32:=Tryz.zeroValue141
 t35:=underlying183
 a35:=Tryz.isAgg183
 z35:=Tryz.sizeOf183
 v35:=Tryz.zeroValue183}
end Go.Proofs
namespace Go.Proofs.YtohddpbgflgiaaaGreatDoor
open Go.RowKit Go.Shelf Go.Lib Go.Sort
theorem Cc(xs:List Int):(xs.mergeSort fun x y=>decide (x<=y))=Cz.eU Cz.dB xs:=by
 refine(Cz.LS Cz.gP ?_ (List.mergeSort_perm xs _)).symm;refine(List.pairwise_mergeSort (fun a b c d e=>?_) (fun a b=>?_) xs).imp (fun {a b} h=>?_)
 ·simp at*;omega
 ·simp;omega
 ·unfold Cz.dB;simp at h;(repeat' split)<;>omega
theorem RK{a b:Int}:Cz.dB a b<0↔a<b:=by unfold Cz.dB;(repeat' split)<;>omega
theorem aej(h:p:=by
  have he:zs[m]=zs[m-1]:=by
   apply Classical.byContradiction;intro hne;exact hk ahZ
  rw[hx,he]
  exact List.mem_take_iff_getElem.2 ⟨m-1,aD,rfl⟩):p:=h
theorem ams(h:p:=by
  unfold keeps at hk
  rw[hg,hg1] at hk
  exact(of_decide_eq_true hk).resolve_left h3):p:=h
theorem D3(zs:List Int)(h:zs.Pairwise (fun a b=>¬Cz.dB b a<0)):Lib.compact zs=Cz.dU Cz.dB zs:=by
 have f:∀i j (d:i<zs.length) (c:j<zs.length),i<j->zs[i]<=zs[j]:=fun i j d c g=>by
  have:=List.pairwise_iff_getElem.1 h i j d c g;rw[RK] at this;omega
 have key:∀m,m<=zs.length->(compactUpTo zs.toArray m).Pairwise (Cz.dB · ·<0)/\∀x,x∈compactUpTo zs.toArray m↔x∈zs.take m:=by
  intro m;induction m with
  |zero=>intro _;simp[compactUpTo]
  |succ m ih=>
   intro n
   obtain⟨d,c⟩:=ih aD
   have hg:zs.toArray[m]! =zs[m]:=by simp[show m<zs.length by omega]
   rw[compactUpTo_succ,yh aD]
   by_cases hk:keeps zs.toArray m=true
   ·rw[if_pos hk,hg]
    refine⟨List.pairwise_append.2 ⟨d,bH,fun x hx y k=>?_⟩,fun x=>by rw[zxx,zxx,c]⟩;rw[nL.1 k,RK];obtain⟨i,l,rfl⟩:=zxf ((c x).1 hx);rw[VQ] at l;rw[List.getElem_take];have h3:m≠0:=aD
    have hg1:zs.toArray[m-1]! =zs[m-1]:=by simp[show m-1<zs.length by omega]
    have hne:zs[m]≠zs[m-1]:=by
     exact ams
    have:=f (m-1) m aD aD aD;by_cases e:i=m-1
    ·subst e;omega
    ·have:=f i (m-1) aD aD aD;omega
   ·rw[if_neg hk,zxp]
    refine⟨d,fun x=>?_⟩;rw[c,zxx,nL];refine⟨.inl,fun hx=>hx.elim id (fun hx=>?_)⟩;have h3:m≠0:=fun e=>hk (by simp[keeps,e]);have hg1:zs.toArray[m-1]! =zs[m-1]:=by simp[show m-1<zs.length by omega]
    exact aej
 obtain⟨d,c⟩:=key zs.length aL;rw[zxw] at c;exact Cz.qU Cz.gP d (Cz.iP Cz.gP) fun x=>by rw[Cz.amM Cz.gP];exact c x
theorem aad(h:p:=by
  unfold putRow mapBlock
  simp only[Array.getElem?_modify,heap_ahead]
  rw[if_neg (Ne.symm hne)]):p:=h
theorem Pt(a:Int->Value)(w:World)(g n:Nat)(d:Array Int)(c:Array Obj){b:Nat}(e:b<w.heap.size)(hne:b≠g):(grow (putRow a (Sort.ahead w n) g 0 d) c).heap[b]?=w.heap[b]?:=by
 rw[heap_grow_old _ _ (by simpa [putRow,mapBlock] using e)];exact aad
theorem ady(h:p:=by
  unfold putRow mapBlock
  simp only[Array.getElem?_modify,heap_ahead,if_true,h]
  rfl):p:=h
theorem L7(a:Int->Value)(w:World)(g n:Nat)(d:Array Int)(f:Array Obj){c:Array Value}{e:TypeId}{b:Nat×Nat}(h:w.heap[g]?=some (.cells c e b)):(grow (putRow a (Sort.ahead w n) g 0 d) f).heap[g]?=some (.cells (putCells a 0 d c) e b):=by
 have i:=(zxd.1 h).1;rw[heap_grow_old _ _ (by simpa [putRow,mapBlock] using i)];exact ady
theorem D4(a:Int->Value)(w:World)(g n:Nat)(d:Array Int)(e:Array Obj):Turns (·=g) w (grow (putRow a (Sort.ahead w n) g 0 d) e):=
 ⟨rfl,rfl,rfl,by simp[putRow,mapBlock],fun b f c=>Pt a w g n d e c f⟩
theorem G8{w:World}{g:Nat}{a:Array Value}{xs:List Int}(b:w.heap[g]?=some (.cells a 3 (0,0)))(d:a.toList.take xs.length=xs.map (Value.int .i64)):Holds (Value.int .i64) w g 0 xs.toArray:=fun j hj=>by
 have hj':j<xs.length:=BI
 have c:a[j]?=(xs.map (Value.int .i64))[j]?:=by
  rw[<-d,zxz,if_pos hj'];simp
 have e:(xs.map (Value.int .i64))[j]?=some (.int .i64 xs[j]):=by simp[hj']
 rw[e] at c;have f:xs.toArray[j]! =xs[j]:=WN
 rw[zxn,f];exact⟨by simp[World.cell?,b,c],by simp[World.frozen?,b]⟩
theorem Z9{a:Array Value}{ys:List Int}{k:Nat}(g:ys.length<=k)(h:k<=a.size)(zs:List Int)(i:zs.length=k)(c:zs.take ys.length=ys):(putCells (Value.int .i64) 0 zs.toArray a).toList.take ys.length=ys.map (Value.int .i64):=by
 apply List.ext_getElem?;intro j;rw[zxz];by_cases d:j<ys.length
 ·rw[if_pos d]
  have e:j<a.size:=aD
  simp only[putCells,Array.getElem?_toList,Array.getElem?_mapIdx,zxi e]
  have f:ys[j]?=zs[j]?:=by
   have:=congrArg (fun l=>l[j]?) c;simp only[zxz,if_pos d] at this;exact this.symm
  have b:j<zs.length:=aD
  rw[alY,f,lN b];simp[b,getElem!_pos]
 ·rw[if_neg d,zxr jo]
theorem aey(h:p:=by
  exact⟨this.os,this.tape,this.output,this.size,fun b hb hl=>this.block b (fun e=>hb zS) hl⟩):p:=h
theorem G9(S:Nat->Prop)(xs:List Int)(u:xs.length<=1000000)(v:Value)(w:World)(h:bp S w v xs):
  CP 120 #[v] w fun e i=>e=.returned (.tuple #[])/\bp S i v (Cz.eU Cz.dB xs)/\Turns (fun b=>some b=v.ownBlock) w i:=by
 obtain⟨⟨z,j⟩,r⟩:=h;rw[<-Cc];rcases j with⟨rfl,l⟩|⟨g,cap,m,rfl,o,d,a,p,hsz,f⟩
 ·obtain rfl:xs=[]:=zxh l
  refine Calls.mono (Any.slices_Sort_int_none Tryz.RI none 0 w) ?_;rintro e i ⟨rfl,rfl⟩;exact⟨rfl,by rw[show ([]:List Int).mergeSort (fun x y=>decide (x<=y))=[] by simp];exact bp.nil _ _,Turns.refl _ _⟩
 ·have q:=(zxd.1 d).1
  simp only[Nat.mul_one] at f hsz;have s:=G8 d f;have t:=Any.slices_Sort_int Tryz.RI g 0 cap xs w s q aD;refine Calls.mono t ?_;rintro e i ⟨rfl,n,os,rfl⟩;have c:(xs.mergeSort fun x y=>decide (x<=y)).length=xs.length:=List.length_mergeSort _;refine⟨rfl,⟨⟨bH,.inr ⟨g,cap,putCells (Value.int .i64) 0 (xs.mergeSort fun x y=>decide (x<=y)).toArray m,by rw[c],o,L7 _ w g n _ os d,by rw[c];exact a,p,by simp[putCells,hsz],?_⟩⟩,r⟩,?_⟩
  ·rw[Nat.mul_one]
   exact Z9 (k:=(xs.mergeSort fun x y=>decide (x<=y)).length) aL (by rw[c,hsz];exact a) _ rfl (ND aL)
  ·have:=D4 (Value.int .i64) w g n (xs.mergeSort fun x y=>decide (x<=y)).toArray os
   exact aey
theorem Jq(S:Nat->Prop)(xs:List Int)(A:xs.length<=1000000)(v:Value)(w:World)(h:bp S w v xs):
  CP 115 #[v] w fun e k=>∃a c,e=.returned (.slice a (Lib.compact xs).length c)/\Turns (fun b=>some b=v.ownBlock) w k:=by
 obtain⟨⟨B,l⟩,C⟩:=h;rcases l with⟨rfl,m⟩|⟨g,cap,o,rfl,p,d,f,q,hsz,j⟩
 ·obtain rfl:xs=[]:=zxh m
  refine Calls.mono (Any.slices_Compact_int_empty Tryz.G7 none 0 w) ?_;rintro e k ⟨rfl,rfl⟩;exact⟨none,0,rfl,Turns.refl _ _⟩
 ·have r:=(zxd.1 d).1
  simp only[Nat.mul_one] at j hsz;have s:=G8 d j;have t:=Any.slices_Compact_int Tryz.G7 g 0 cap xs w s aD f;refine Calls.mono t ?_;rintro e k ⟨rfl,n,rfl⟩;have u:=Lib.compact_length_le xs;have x:=L7 (Value.int .i64) w g n (Lib.compact xs++List.replicate (xs.length-(Lib.compact xs).length) 0).toArray #[] d;have i:=D4 (Value.int .i64) w g n (Lib.compact xs++List.replicate (xs.length-(Lib.compact xs).length) 0).toArray #[];rw[grow_empty] at x i;exact⟨_,_,rfl,⟨i.os,i.tape,i.output,i.size,fun b y z=>i.block b (fun e=>y zS) z⟩⟩
end Go.Proofs.YtohddpbgflgiaaaGreatDoor
namespace Go.Proofs.YtohddpbgflgiaaaGreatDoor
open Go.RowKit
attribute [local go_sem] Oper.semAt_some
section
variable {P:Program} {t e:TypeId} {size bytes:Nat} {w:World}
theorem Jr{F:Fence}{B:Nat}{i:Array Oper}{rest:List Oper}{o:Oper}{a:Act}{Q:Exit->Act->World->Prop}(q:o.guard=none)(s x:Operand)
  (r:o.op=.call {callee:=.builtin .append,args:=#[s,x],argTypes:=#[t,t]})(C:kF P t e size bytes)
  {base:Nat}{v:Value}{n:Nat}{xs:List Value}(D:a.eval s=v)(k:w.ownsRow base e size v n xs)
  (l:Option Addr)(m c:Nat)(hx:a.eval x=.slice l m c)(y:dV l m)(news:List Value)(E:news.length=m*size)
  (d:∀j u,news[j]?=some u->w.cell? ⟨bM l,bT l+j,none⟩=some u)(h1:∀u∈news,u.oneCell'=true)
  (b:n+m<=1000000000)(f:base<=w.heap.size)
  (h:∀g p,p.ownsRow base e size g (n+m) (xs++news)->w.grownBy p v.ownBlock->(g.ownBlock=v.ownBlock\/g.ownBlock=some w.heap.size)->wpListIn F B P i Q rest (a.put o.dst g) p):
  wpListIn F B P i Q (o::rest) a w:=by
 obtain⟨g,p,G,H,I,J⟩:=Ip o.type C k l m c y news E d h1 b f;refine wpListIn_plain q fun K z=>?_;unfold Oper.wpIn;refine⟨?_,?_⟩
 ·simp[Oper.about,r,resolve,Target.leads,Sem.run_pure]
 ·rw[Oper.semAt_plain F _ _ (by rw[r];intro c A;cases A)]
  simp[execOp,r,resolve,invoke,builtin,D,hx,G,Result.andThen];exact z _ _ (h g p H I J)
end
theorem aeF(h:p:=by
  refine h v' w' ⟨WU,fun b hb'=>?_⟩ ((Turns.bg ha).trans (Turns.gy g2 fun b hb'=>hb'.symm))
  rcases g3 with g3|g3
  ·rw[g3] at hb';exact .inl ⟨hown.2 b hb',(hown.1.lt b hb').2⟩
  ·rw[g3] at hb';exact .inr (by have:=oO hb';have:=ha.size;omega)):p:=h
theorem D5{F:Fence}{g:Nat}{P:Program}{t:TypeId}{bytes:Nat}{w:World}{d:Array Oper}{rest:List Oper}{o:Oper}{a:Act}{Q:Exit->Act->World->Prop}(e:o.guard=none)(s x:Operand)
  (i:o.op=.call {callee:=.builtin .append,args:=#[s,x],argTypes:=#[t,t]})(j:kF P t 3 1 bytes)
  {S:Nat->Prop}{v:Value}{xs:List Int}(k:a.eval s=v)(hown:bp S w v xs){y:Int}{f:TypeId}
  (hx:a.eval x=.slice (some ⟨w.heap.size,0,none⟩) 1 1)(c:xs.length+1<=1000000000)
  (h:∀v' w',bp (Grow S w.heap.size) w' v' (xs++[y])->Turns (fun b=>some b=v.ownBlock) w w'->wpListIn F g P d Q rest (a.put o.dst v') w'):
  wpListIn F g P d Q (o::rest) a (w.alloc (.cells #[.int .i64 y] f)):=by
 have ha:BL w (w.alloc (.cells #[.int .i64 y] f)):=aG.alloc aL _;refine Jr e s x i j k (hown.1.alloc _) _ 1 1 hx (fun _=>⟨_,_,rfl⟩) [.int .i64 y] rfl (iR w #[.int .i64 y] f) (by simp[Value.oneCell']) c (zxa _) (fun v' w' g1 g2 g3=>?_);exact aeF
theorem L8(xs:List Int)(n0 b l:Nat)(v:Value)(p:World)(A:Nat->Obj->Prop)(w:bB (·<n0) p v xs)(D:p.heap[b]?=some (.cells #[v] 22 (0,0)))(y:b<n0)
  (J E:List Int->World->Prop)(W:World)(z:Below n0 p W)
  (hY:∀pre (x:Int) B,J pre B->pre++[x]<+:xs->YieldAt Fence.wide 0 prog l #[.int .i64 x] B fun e o=>
   aY A n0 B o/\((e=.returned (.bool true)/\J (pre++[x]) o)\/(e=.returned (.bool false)/\E (pre++[x]) o)))
  (h0:J [] W):
  CP 162 #[.func (.yield l) #[] #[],.pointer (some ⟨b,0,none⟩)] W fun e o=>(∃v,e=.returned v)/\((∃t,t=xs/\J t o)\/∃t,E t o):=by
 have c0:=(one_cell ((z.block b y).trans D)).1;obtain⟨a,cap,rfl,I,Q,R⟩:=w.form;have K:=hid (fun(X:World) (L:Below n0 p X)=>w.keep (aH.bg L (fun _ h=>h)));have q:=hid (And.intro z h0);have M:=hid hY;clear hY h0 w D z;refine(callsIn_wide (n:=1)).1 ?_;refine callsIn_of_wp func162 rfl trivial ?_ rfl;simp only[ntmps162,List.size_toArray,zxg,List.length_nil,Nat.reduceAdd,Nat.reduceSub,Array.replicate_succ,Array.replicate_zero,List.push_toArray,List.append_toArray,List.nil_append,List.cons_append];gi_wp2;clear c0;gi_loopw [7] (fun c wr=>∃k:Nat,k<=xs.length/\c=.int .i64 k/\Hid (Below n0 p wr/\J (xs.take k) wr)) (fun c _=>xs.length-(intOf c).toNat);case atStart=>exact⟨0,aD,rfl,hid ⟨q.out.1,by simpa using q.out.2⟩⟩
 case round=>
  obtain⟨k,S,rfl,HR⟩:=hrel;by_cases r:k<xs.length
  ·obtain⟨u,s, -,N⟩:=(K.out wr HR.out.1).at r
   obtain rfl:u=.int .i64 xs[k]:=N;have O:=zN k
   have P:=zL k xs.length
   have g:xs.take (k+1)=xs.take k++[xs[k]]:=yh r;have i:=hid g;have hpre:xs.take k++[xs[k]]<+:xs:=by rw[<-g];exact List.take_prefix _ _
   obtain⟨T,F,assign,body,G,H⟩:=YieldAt.jD (m':=0) rfl (M.out _ xs[k] wr HR.out.2 hpre);have C:=hid H;clear g hpre H;generalize xs[k]=U at*;gi_wp2;refine(RoundIn.jD rfl C.out).mono ?_;rintro e V ⟨j,f⟩;have m:=HR.out.1.trans j.1;rw[<-i.out] at f;rcases f with⟨rfl,d⟩|⟨rfl,d⟩
   ·have H2:=hid (And.intro m d)
    clear j m d C G i s;gi_wp2;go_roundw;case rel=>exact⟨k+1,aD,zG,H2⟩
    exact zI
   ·have H2:=hid d
    clear j m d C G i s;exact adB
  ·obtain rfl:xs.length=k:=by omega
   have H2:=hid HR.out.2;gi_wp2;go_end0;exact⟨⟨_,rfl⟩,.inl ⟨_,rfl,by simpa using H2.out⟩⟩
theorem L9(xs:List Int)(n0 d b:Nat)(v:Value)(e:Nat->Obj->Prop)(w:World)(a:n0<=w.heap.size)(f:bB (·<n0) w v xs)(g:w.heap[b]?=some (.cells #[v] 22 (0,0)))(c:b<n0):
  yY (α:=Int) prog n0 d 162 #[.pointer (some ⟨b,0,none⟩)] (fun x=> #[.int .i64 x]) (fun pre x _=>pre++[x]<+:xs) e (fun _ _=>False) (fun h _=>h=xs) w:=by
 intro l J i W j o k m n;exact L8 xs n0 b l v w _ f g c J i W (j.mono a) m n
theorem D6(a:Option Addr)(n c:Nat)(w:World):CP 117 #[.slice a n c] w fun e b=>e=.returned (.func (.func 162) #[] #[.pointer (some ⟨w.heap.size,0,none⟩)])/\b=w.alloc (.cells #[.slice a n c] 22):=by
 go_enter func117,ntmps117;exact Ez
theorem wT{A:Nat->Obj->Prop}{n0:Nat}{w w':World}{base:Nat}{e:TypeId}{size:Nat}{v:Value}{n:Nat}{us:List Value}(h:w.ownsRow base e size v n us)(c:aY A n0 w w')(hA:∀b o,A b o->v.ownBlock=some b->book o):w'.ownsRow base e size v n us:=by
 refine⟨h.1,?_⟩;rcases h.2 with d|⟨g,cap,a,rfl,f,i,r⟩
 ·exact .inl d
 ·exact .inr ⟨g,cap,a,rfl,f,c.2 _ _ i (fun j=>by have:=hA _ _ j rfl;simp[book] at this),r⟩
theorem D7{w:World}{base:Nat}{e:TypeId}{size:Nat}{v:Value}{n:Nat}{us:List Value}(h:w.ownsRow base e size v n us){b:Nat}{o:Obj}(a:v.ownBlock=some b)(c:w.heap[b]?=some o):¬book o:=by
 rcases h.2 with d|⟨g,cap,f,rfl, -,i, -⟩
 ·rw[d.1] at a;cases a
 ·obtain rfl:g=b:=oO a
  rw[i] at c;cases c;simp[book]
theorem bp.turn{A:Nat->Obj->Prop}{n0:Nat}{S:Nat->Prop}{w w':World}{v:Value}{xs:List Int}(h:bp S w v xs)(a:aY A n0 w w')(hA:∀b o,A b o->v.ownBlock=some b->book o):bp S w' v xs:=⟨wT h.1 a hA,h.2⟩
theorem D8{A:Nat->Obj->Prop}{n0:Nat}{w w':World}{b:Nat}{c:Array Value}{e:TypeId}{f:Nat×Nat}(h:w.heap[b]?=some (.cells c e f))(a:aY A n0 w w')(hA:∀o,A b o->book o):w'.heap[b]?=some (.cells c e f):=
 a.2 _ _ h (fun d=>by have:=hA _ d;simp[book] at this)
theorem FL(xs:List Int)(aa:xs.length<=1000000)(b:Nat)(v:Value)(w:World)(hs:bB (·<w.heap.size) w v xs)(R:w.heap[b]?=some (.cells #[v] 22 (0,0))):
  CP 201 #[.slice none 0 0,.func (.func 162) #[] #[.pointer (some ⟨b,0,none⟩)]] w fun e j=>∃x,e=.returned x/\bp (w.heap.size<=·) j x xs/\BL w j:=by
 have C:=aI R;obtain⟨w1,hw1⟩:=bJ (w.alloc (.cells #[.slice none 0 0] 22));have k:BL w w1:=Cx
 have E:w1.heap.size=w.heap.size+1:=J6
 have zP:Hid (w1.heap[w.heap.size]?=some (.cells #[.slice none 0 0] 22 (0,0))):=hid J7;have Pg:=hid (L9 xs w.heap.size w1.heap.size b v (fun x o=>w.heap.size<=x/\¬book o) w1 aD (hs.keep (aH.bg k (fun _ h=>h))) ((k.block b C).trans R) C);have S:=hid hw1;have bL:=hid k;have HZ:=hid E;clear hs R hw1 k;refine(callsIn_wide (n:=5)).1 ?_;refine callsIn_of_wp_marks func201 rfl trivial ?_ rfl;simp only[ntmps201,List.size_toArray,zxg,List.length_nil,Nat.reduceAdd,Nat.reduceSub,Array.replicate_succ,Array.replicate_zero,List.push_toArray,List.append_toArray,List.nil_append,List.cons_append];rw[wpIn_wide];clear E;go_wp2;rw[<-S.out];rw[<-wpIn_wide (n:=5)]
 refine uI (α:=Int) (n0:=w.heap.size) (gf:=162) rfl (cF func162 zK rfl) (fun _=>rfl) Pg.out (by have:=HZ.out;omega) (fun _ _ h=>h.elim) (fun _ _ h=>h.2)
  (fun pre Y=>∃u,Y.heap[w.heap.size]?=some (.cells #[u] 22 (0,0))/\bp (fun x=>w.heap.size<x) Y u pre/\BL w Y) (fun _ _=>False)
  (fun pre A B h r=> ?hI) (fun _ _ _ h _=>h) (fun _ _ _ h _=>h) ?hstart ?jB ?hdone ?hstop
 case hI=>
  obtain⟨u,s,m,t⟩:=h;exact⟨u,D8 s r (fun o d=>d.elim False.elim (fun h=>h.2)),m.turn r (fun _ _ d _=>d.elim False.elim (fun h=>h.2)),t.trans r.1⟩
 case hstart=>exact⟨_,zP.out,bp.nil _ _,bL.out⟩
 case jB=>
  rintro l pre y Y ab hI F;simp only[List.zip_toArray,List.zip_cons_cons,List.zip_nil_left];have T:=hid F;have HI:=hid hI;clear hI F;gi_wp2;refine⟨aY.refl _ _ _,fun K q U V=>?_⟩;obtain⟨u,s,m,t⟩:=HI.out;have f:=D8 s q (fun o d=>d.2);have z:=m.turn q (fun _ _ d _=>d.2);obtain⟨L,M,N,rfl⟩:∃a n c,u=.slice a n c:=by obtain⟨a,c,e,_⟩:=(bp.sl z).form;exact⟨_,_,_,e⟩
  have c1:=(one_cell f).1;have X:=(one_cell f).2;have HC:=hid f;have g:=hid z;have cH:=hid (t.trans q.1);have G:=aI f
  have H:pre.length+1<=1000000000:=by
   have:=T.out.length_le;simp at this;omega
  clear s m t f z q U V HI;gi_wp2_with (gi_at_builtin;go_must (refine D5 rfl _ _ rfl Tryz.jG rfl g.out rfl H ?_));intro v' I FU Z;have i:I.heap[w.heap.size]?=some (.cells #[.slice L M N] 22 (0,0)):=(Z.block _ (fun e=>by have:=g.out.2 _ e.symm;omega) G).trans HC.out;obtain⟨O,P,Q,rfl⟩:∃a n c,v'=.slice a n c:=abl
  have J:aY (fun x o=>w.heap.size<=x/\¬book o) w.heap.size K I:=aY.eX Z aD (fun x hx=>by have:=g.out.2 _ hx.symm;omega) (fun x o hx d=>⟨by have:=g.out.2 _ hx.symm;omega,D7 g.out.1 hx.symm d⟩);have Pb:aY (fun x o=>w.heap.size<=x/\¬book o) w.heap.size K (I.setCell ⟨w.heap.size,0,none⟩ (.slice O P Q)):=aY.setCell (p:=⟨w.heap.size,0,none⟩) J i ⟨aL,WV⟩ aL _
  have FM:bp (fun x=>w.heap.size<x) (I.setCell ⟨w.heap.size,0,none⟩ (.slice O P Q)) (.slice O P Q) (pre++[y]):=by
   have hS:∀x,Grow (fun x=>w.heap.size<x) K.heap.size x->w.heap.size<x:=fun x hx=>hx.elim (fun h=>h.1) (fun h=>oN G h);refine aW.mono (aW.keep FU (fun x hx ad=>mO _ ⟨w.heap.size,0,none⟩ _ _ (fun e=>?_))) (fun x _ hx=>hS x hx);have s:=hS x hx;have m:x=w.heap.size:=e;omega
  have HQ:Hid (QS (fun x o=>w.heap.size<=x/\¬book o) w.heap.size (fun pre Y=>∃u,Y.heap[w.heap.size]?=some (.cells #[u] 22 (0,0))/\bp (fun x=>w.heap.size<x) Y u pre/\BL w Y) (fun _ _=>False) (pre++[y]) K .normal {tmps:=#[],defers:=[]} (I.setCell ⟨w.heap.size,0,none⟩ (.slice O P Q))):=
   hid ⟨Pb,_,one_set _ i,FM,cH.out.trans Pb.1⟩
  have c8:=(one_cell i).1;have ae:=(one_cell i).2;clear FU Z i J Pb c1 X;gi_wp2;exact HQ.out
 case hdone=>
  rintro D ys W hD rfl ⟨u,s,m,t⟩ hk;obtain⟨L,M,N,rfl⟩:∃a n c,u=.slice a n c:=by obtain⟨a,c,e,_⟩:=(bp.sl m).form;exact⟨_,_,_,e⟩
  have c1:=(one_cell s).1;have HD:Hid (Marks w.heap.size W.heap.size [{target:=.collected D,args:=#[]}] W):=hid (Marks.push (Marks.nil _ w1.heap.size _) hD (by have:=HZ.out;omega) hk);have HE:Hid (∀j,aY (cD w.heap.size) w.heap.size W j->bp (w.heap.size<=·) j (.slice L M N) ys/\BL w j):=hid (fun j r=>⟨aW.mono (m.turn r (fun _ _ d _=>d.2)) (fun x _ hx=>by have h9:w.heap.size<x:=hx;show w.heap.size<=x;omega),t.trans r.1⟩);clear s m t hk hD;go_wp2;refine sA (v:=.slice L M N) HD.out (fun j r=>⟨?_,?_⟩)
  ·simp[results,results201,go_sem]
  ·obtain⟨k1,k2⟩:=HE.out j r
   exact⟨_,rfl,k1,k2⟩
 case hstop=>rintro _ _ _ _ h _;exact h.elim
abbrev ajW(b:Nat):Value:=.func (.func 162) #[] #[.pointer (some ⟨b,0,none⟩)]
theorem Ma(xs:List Int)(f:xs.length<=1000000)(b:Nat)(v:Value)(w:World)(i:bB (·<w.heap.size) w v xs)(d:w.heap[b]?=some (.cells #[v] 22 (0,0))):
  CP 161 #[ajW b] w fun e g=>∃x,e=.returned x/\bp (w.heap.size<=·) g x xs/\BL w g:=by
 have H:=hid (FL xs f b v w i d);clear i d;go_enter func161,ntmps161;go_wp2_with fail;refine H.out.mono ?_;rintro e g ⟨x,rfl,h,d⟩;obtain⟨a,c,rfl, -⟩:=(bp.sl h).form;have j:=hid h;have k:=hid d;clear h d;go_wp2;go_ret;exact⟨_,rfl,j.out,k.out⟩
theorem D9(xs:List Int)(f:xs.length<=1000000)(b:Nat)(v:Value)(w:World)(j:bB (·<w.heap.size) w v xs)(d:w.heap[b]?=some (.cells #[v] 22 (0,0))):
  CP 116 #[ajW b] w fun e k=>∃x,e=.returned x/\bp (w.heap.size<=·) k x (Cz.eU Cz.dB xs)/\BL w k:=by
 have H:=hid (Ma xs f b v w j d);clear j d;go_enter func116,ntmps116;go_wp2_with fail;refine H.out.mono ?_;rintro e w1 ⟨x,rfl,h,d⟩;have l:=hid d;have n:=hid (G9 _ xs f x w1 h);have o:=hid h.2;obtain⟨a,c,rfl, -⟩:=(bp.sl h).form;clear h d;go_wp2_with fail;refine n.out.mono ?_;rintro e w2 ⟨rfl,m,g⟩;have i:=hid m;have p:Hid (BL w w2):=hid (l.out.trans (g.below l.out.size (fun b d=>o.out b d.symm)));clear m g;go_wp2;go_ret;exact⟨_,rfl,i.out,p.out⟩
theorem Mb(xs:List Int):Cz.dU Cz.dB (Cz.eU Cz.dB xs)=Cz.dU Cz.dB xs:=Cz.qh Cz.gP fun _=>(Cz.fZ (c:=Cz.dB)).mem_iff
structure RL(x:aC.cE)(W:aC.dw)(S:List (List Int))(sv wv uv:Value)(p:Nat)(B:Nat)(w:World):Prop where
 cell:∃ak ck al cl ar cr,sv=.agg (sBx x ak al ar ck cl cr)/\w.heap[p]?=some (.cells #[.int .i64 x.aQ,.slice ak x.ah.length ck,.slice al x.aV.length cl,.slice ar x.aX.length cr,wv,uv] 126 (0,0))
 xk:dO (·<B) w sv x
 ze:bK (·<B) w wv W
 E7:cG (·<B) w uv S
 pb:p<B
theorem RL.keep{x:aC.cE}{W:aC.dw}{S:List (List Int)}{sv b c:Value}{p B:Nat}{w w':World}(h:RL x W S sv b c p B w)(a:Below B w w'):RL x W S sv b c p B w' where
 cell:=by
  obtain⟨d,e,f,g,i,j,k,l⟩:=h.cell;exact⟨d,e,f,g,i,j,k,(a.block p h.pb).trans l⟩
 xk:=h.xk.keep (aH.bg a (fun _ h=>h))
 ze:=h.ze.keep (aH.bg a (fun _ h=>h))
 E7:=h.E7.keep (aH.bg a (fun _ h=>h))
 pb:=h.pb
theorem wU(x:aC.cE)(W:aC.dw)(S:List (List Int))(hS:S.length<=1000)(s:∀r∈S,r.length<=1000)(sv wv uv:Value)(p B:Nat)(w:World)(hB:B<=w.heap.size)(h:RL x W S sv wv uv p B w):
  CB 66 #[.pointer (some ⟨p,0,none⟩)] w (.int .i64 (Cz.diff S:Nat)):=by
 obtain⟨ak,ck,al,cl,ar,cr, -,H⟩:=h.cell;obtain⟨au,cu,rfl,aa,X,Y⟩:=h.E7.form;have hsz:p<w.heap.size:=aI H;have I:=hid h.E7;have HR:=hid s;have J:w.cell? ⟨p,5,none⟩=some (.slice au S.length cu):=by simp[World.cell?,H]
 have HD:Hid (∀k,k<=S.length->Cz.diff (S.take k)<=1000*k):=hid (fun k A=>by
  have key:∀l:List (List Int),(∀r∈l,r.length<=1000)->Cz.diff l<=1000*l.length:=by
   intro l;induction l with
   |nil=>intro _;simp[Cz.diff]
   |cons a l ih=>
    intro Z
    have C:=ih fun r s=>Z r (by simp[s])
    have h2:=Cz.q9 (c:=Cz.dB) a
    have h3:=Z a bH
    simp only[Cz.diff,zxt,List.sum_cons,zxg] at*
    omega
  have C:=key (S.take k) (fun r K=>s r (List.mem_of_mem_take K));rw[VQ] at C;have:min k S.length=k:=aD
  rw[this] at C;exact C)
 have t:Hid (∀k (A:k<S.length),Cz.diff (S.take (k+1))=Cz.diff (S.take k)+(Cz.dU Cz.dB S[k]).length):=hid (fun k A=>by
  rw[yh A];unfold Cz.diff;rw[zxj,List.sum_append];simp only[zxt,List.map_nil,List.sum_cons,List.sum_nil,Nat.add_zero])
 clear h s H;go_enter func66,ntmps66;go_wp2;clear J;go_loopw [3,11] (fun n i wr=>∃k m:Nat,k<=S.length/\i=.int .i64 k/\n=.int .i64 (m:Int)/\m<=1000*k/\Hid (m=Cz.diff (S.take k))/\Hid (BL w wr)) (fun _ i _=>S.length-(intOf i).toNat);case atStart=>exact⟨0,0,aD,rfl,rfl,aD,hid (by simp[Cz.diff]),hid aG⟩
 case round=>
  obtain⟨k,m,A,rfl,rfl,hm,D,E⟩:=hrel;by_cases d:k<S.length
  ·obtain⟨u,v,ab,L⟩:=(I.out.keep (aH.bg E.out (fun b (q:b<B)=>by omega))).at d
   obtain⟨WE,WG,rfl,xq, -, -⟩:=L.form;have ad:=zN k
   have ae:=zL k S.length
   have f:S[k].length<=1000:=HR.out _ (eV _);have M:=hid f;have xM:=E.out.size;have N:Hid (bB (·<wr.heap.size) wr (.slice WE S[k].length WG) S[k]):=hid (bB.mono (S':=(·<wr.heap.size)) L (fun b q _=>q));have F:=hid (t.out k d);have O:=HD.out (k+1) d;rw[t.out k d,<-D.out] at O;obtain⟨r,g⟩:=bJ (S[k]);rw[<-g] at N F v xq f O M;have af:=hid g;clear L g;obtain⟨nr,P⟩:=bJ r.length;rw[<-P] at N v xq f;have Cr:=hid P;obtain⟨dn,j⟩:=bJ ((Cz.dU Cz.dB r).length);rw[<-j] at F O;have Q:=hid j;clear P j;go_wp2_with fail;refine(D6 _ _ _ _).mono ?_;rintro e w2 ⟨rfl,hw2⟩;have o:BL wr w2:=Ii
   have R:w2.heap.size=wr.heap.size+1:=afo
   have Bj:=hid (D9 r (by have:=M.out;omega) wr.heap.size _ w2 (bB.mono (S':=(·<w2.heap.size)) (N.out.keep (aH.below o)) (fun b _ q=>by have h9:b<wr.heap.size:=q;omega)) WH);have cH:=hid o;have y:=cH.out.size;clear hw2 o R;go_wp2_with fail;refine Bj.out.mono ?_;rintro e w3 ⟨xv,rfl,G,z⟩;have T:=hid (Jq _ _ (by rw[(Cz.fZ (c:=Cz.dB)).length_eq];have:=M.out;omega) xv w3 G);have U:=hid G.2;obtain⟨a3,c3,rfl, -, -, -⟩:=(bp.sl G).form;have cN:=hid z;rw[D3 _ (Cz.oK Cz.gP),Mb,<-Q.out] at T;clear G z Bj;go_wp2_with fail;refine T.out.mono ?_;rintro e w4 ⟨a4,c4,rfl,tT⟩;have gX:Hid (BL w w4):=hid (E.out.trans ((cH.out.trans ((cN.out.mono y).trans (tT.below (zxb y cN.out.size) (fun b q=>by have:=U.out b q.symm;omega)))).mono xM));clear tT T;have V:Hid (m+dn=Cz.diff (S.take (k+1))):=hid (by rw[F.out,<-D.out]);clear F D;go_wp2;go_roundw;case rel=>exact⟨k+1,m+dn,aD,zG,zG,aD,V,gX⟩
   exact zI
  ·obtain rfl:S.length=k:=by omega
   have HE:Hid (m=Cz.diff S):=hid (by rw[D.out,zxw]);go_wp2;go_ret;exact⟨wY,E.out⟩
def jM(B:Nat)(E:Nat->Prop)(w:World)(v:Value)(xs:List Cz.Row):Prop:=
 ∃a,w.ownsRow B 22 1 v xs.length a/\a.length=xs.length/\∀j (c:j<a.length) (d:j<xs.length),bB (fun b=>E b/\v.ownBlock≠some b) w a[j] xs[j]
theorem jM.nil(B:Nat)(E:Nat->Prop)(w:World):jM B E w (.slice none 0 0) []:=⟨[],World.ownsRow_nil _ _ _ _,rfl,fun j h=>absurd h bH⟩
theorem jM.lt{B:Nat}{E:Nat->Prop}{w:World}{v:Value}{xs:List Cz.Row}(h:jM B E w v xs):∀b,v.ownBlock=some b->B<=b/\b<w.heap.size:=by
 obtain⟨d,a,_⟩:=h;exact fun b c=>a.lt b c
theorem jM.kept{B:Nat}{E:Nat->Prop}{w w':World}{v:Value}{xs:List Cz.Row}(h:jM B E w v xs)(d:∀b,b<w.heap.size->v.ownBlock=some b\/E b->w'.heap[b]?=w.heap[b]?):jM B E w' v xs:=by
 obtain⟨e,f,g,i⟩:=h;exact⟨e,dZ (S:=fun b=>v.ownBlock=some b) f (fun b c=>c) (fun b c a=>d b a (.inl c)),g,fun j k l=>(i j k l).keep (fun b c a=>d b a (.inr c.1))⟩
theorem jM.next{B:Nat}{E:Nat->Prop}{w w':World}{v:Value}{xs:List Cz.Row}(h:jM B E w v xs)(a:BL w w'):jM B E w' v xs:=h.kept fun b c _=>a.block b c
theorem jM.mono{B:Nat}{E E':Nat->Prop}{w:World}{v:Value}{xs:List Cz.Row}(h:jM B E w v xs)(c:∀b,b<w.heap.size->E b->E' b):jM B E' w v xs:=by
 obtain⟨d,e,f,g⟩:=h;exact⟨d,e,f,fun j i k=>(g j i k).mono (fun b l a=>⟨c b l a.1,a.2⟩)⟩
theorem jM.sl{B:Nat}{E:Nat->Prop}{w:World}{v:Value}{xs:List Cz.Row}(h:jM B E w v xs):eA (fun w u x=>bB (fun b=>E b/\v.ownBlock≠some b) w u x) (fun b=>v.ownBlock=some b) w v xs:=by
 obtain⟨f,a,c,d⟩:=h;exact oV a (fun b e=>e) c d
end Go.Proofs.YtohddpbgflgiaaaGreatDoor
namespace Go.Proofs.YtohddpbgflgiaaaGreatDoor
open Go.RowKit Go.Shelf Go.Lib Go.Sort
abbrev Pv(E:Nat->Prop)(w:World):={p:Value×Cz.Row // bB E w p.1 p.2/\p.1.oneCell'=true}
def eG{E:Nat->Prop}{w:World}(x:Pv E w):Value:=x.1.1
def cfR{E:Nat->Prop}{w:World}(x y:Pv E w):Int:=Cz.di x.1.2 y.1.2
theorem ltR{E:Nat->Prop}{w:World}(x y:Pv E w):ltOf cfR x y=decide (Cz.di x.1.2 y.1.2<0):=rfl
theorem swoR{E:Nat->Prop}{w:World}:SWO (ltOf (cfR (E:=E) (w:=w))) where
 irrefl x:=by rw[ltR,Cz.dQ.refl];rfl
 trans x y z h1 h2:=by rw[ltR] at*;exact decide_eq_true (Cz.dQ.trans _ _ _ (of_decide_eq_true h1) (of_decide_eq_true h2))
 ntrans x y z h1 h2:=by
  rw[ltR] at*;have a1:=of_decide_eq_false h1;have a:=of_decide_eq_false h2;refine decide_eq_false fun h=>?_;by_cases e:Cz.di x.1.2 y.1.2=0
  ·rw[Cz.dQ.eq _ _ e] at h;exact a h
  ·have b:=Cz.dQ.anti x.1.2 y.1.2
   have c:=Cz.dQ.anti y.1.2 x.1.2;exact a (Cz.dQ.trans _ _ _ aD h)
theorem ko{α:Type}[Inhabited α](a:α->Value)(w:World)(g n:Nat)(d:Array α)(c:Array Obj){b:Nat}(e:b<w.heap.size)(hne:b≠g):(sortWorld a w g 0 n d c).heap[b]?=w.heap[b]?:=by
 unfold sortWorld;rw[heap_grow_old _ _ (by simpa using e)];exact aad
theorem Ea{α:Type}[Inhabited α](a:α->Value)(w:World)(g n:Nat)(d:Array α)(f:Array Obj){c:Array Value}{e:TypeId}{b:Nat×Nat}(h:w.heap[g]?=some (.cells c e b)):(sortWorld a w g 0 n d f).heap[g]?=some (.cells (putCells a 0 d c) e b):=by
 have i:=(zxd.1 h).1;unfold sortWorld;rw[heap_grow_old _ _ (by simpa using i)];exact ady
theorem zl{α:Type}[Inhabited α](a:α->Value)(w:World)(g n:Nat)(d:Array α)(e:Array Obj):Turns (·=g) w (sortWorld a w g 0 n d e):=
 ⟨rfl,rfl,rfl,by simp[sortWorld],fun b f c=>ko a w g n d e c f⟩
theorem acE{E:Nat->Prop}{w:World}:∀(b:List Value) (c:List Cz.Row),b.length=c.length->(∀j (h1:j<b.length) (h2:j<c.length),bB E w b[j] c[j])->∃d:List (Pv E w),d.map (fun x=>x.1.1)=b/\d.map (fun x=>x.1.2)=c
 |[],[],_,_=>⟨[],rfl,rfl⟩
 |u::b,x::c,hl,h=>by
  obtain⟨d,g,i⟩:=acE b c (by simpa using hl) (fun j h1 h2=>by
   have:=h (j+1) Wz ah7;simpa using this)
  have f:bB E w u x:=h 0 bH bH;have h1:u.oneCell'=true:=by obtain⟨a,cap,e, -⟩:=f.form;rw[e];rfl
  exact⟨⟨(u,x),f,h1⟩::d,by simp[g],by simp[i]⟩
 |[],_::_,h,_=>by simp at h
 |_::_,[],h,_=>by simp at h
theorem Y7(h:p:=by
  have hj':j<dl.length:=BI
  have ej:dl.toArray[j]! =dl[j]:=WN
  rw[ej,zxn]
  constructor
  ·simp[World.cell?,hg,hcur j hj']
  ·simp[World.frozen?,hg]):p:=h
theorem Z4(h:p:=by
  have:us[j]?=some (eG dl[j]):=by rw[<-e1,alY,lN h];rfl
  rw[<-htk,zxz,if_pos aD] at this
  simpa using this):p:=h
theorem Ut(B:Nat)(E:Nat->Prop)(w:World)(a:Option Addr)(l c:Nat)(xs:List Cz.Row)(h:jM B E w (.slice a l c) xs)(hn:xs.length<=1000000000):
  CP 112 #[.slice a l c,.func (.func 74) #[] #[]] w fun e t=>e=.returned (.tuple #[])/\∃G,G.Perm xs/\G.Pairwise (fun a b=>¬Cz.di b a<0)/\jM B E t (.slice a l c) G/\Turns (fun b=>(Value.slice a l c).ownBlock=some b) w t:=by
 obtain⟨us,⟨H,I⟩,R,S⟩:=h;rcases I with⟨U,J⟩|⟨g,cap,o,V,v,hg,p,z,hsz,htk⟩
 ·cases U
  obtain rfl:xs=[]:=by
   exact zxh J
  have u:=AnyF.slices_SortFunc_none (P:=prog) (ρ:=Tryz.xT) {Tryz.Pr with} none 0 (.func (.func 74) #[] #[]) w;refine Calls.mono u ?_;rintro e t ⟨rfl,rfl⟩;exact⟨rfl,[],List.Perm.refl _,List.Pairwise.nil,jM.nil _ _ _,Turns.refl _ _⟩
 ·cases V
  obtain⟨f,q⟩:∃f:Nat->Prop,f=fun b=>E b/\(Value.slice (some ⟨g,0,none⟩) xs.length c).ownBlock≠some b:=⟨_,rfl⟩;rw[<-q] at S;have A:∀b,f b->b≠g:=fun b hb e=>by rw[q] at hb;exact hb.2 zS
  obtain⟨dl,e1,T⟩:=acE us xs R S;have K:dl.length=xs.length:=by rw[<-T,sM]
  have k:=(zxd.1 hg).1;by_cases L:xs.length=0
  ·obtain rfl:xs=[]:=zxh L
   have u:=AnyF.slices_SortFunc_none (P:=prog) (ρ:=Tryz.xT) {Tryz.Pr with} (some ⟨g,0,none⟩) c (.func (.func 74) #[] #[]) w;refine Calls.mono u ?_;rintro e t ⟨rfl,rfl⟩;exact⟨rfl,[],List.Perm.refl _,List.Pairwise.nil,⟨us,⟨H,.inr ⟨g,c,o,rfl,v,hg,p,z,hsz,htk⟩⟩,R,fun j g1 W=>absurd W bH⟩,Turns.refl _ _⟩
  haveI:Inhabited (Pv f w):=⟨dl[0]' aD⟩
  have hcur:∀j (h:j<dl.length),o[j]?=some (eG dl[j]):=fun j h=>by
   exact Z4
  have X:Holds eG w g 0 dl.toArray:=fun j hj=>by
   exact Y7
  have C:CmpLays1 prog 74 #[] (eG (E:=f) (w:=w)) cfR g 0 dl.toArray.size w:=fun m os M hs x y=>by
   have F:aH f w (sortWorld eG w g 0 m M os):=fun b hb k=>ko eG w g m M os k (A b hb);refine Calls.mono (sE x.1.2 y.1.2 x.1.1 y.1.1 f f (sortWorld eG w g 0 m M os) (bB.keep x.2.1 F) (bB.keep y.2.1 F)) ?_;rintro e t ⟨H,rfl⟩;exact⟨H,0,#[],by rw[grow_empty];rfl⟩
  have u:=Any.slices_SortFunc Tryz.Pr (eG (E:=f) (w:=w)) (fun x=>x.2.2) cfR swoR 74 #[] g 0 c dl.toArray w (cF func74 zK rfl) C X k jo;have r:dl.toArray.size=xs.length:=by simp[K]
  rw[r] at u;refine Calls.mono u ?_;rintro e t ⟨rfl,d,n,os,⟨p1, -,p3⟩,s,rfl⟩;rw[r] at p1;have Y:d.extract 0 xs.length=d:=by rw[<-p1];simp
  have Z:dl.toArray.extract 0 xs.length=dl.toArray:=by rw[<-r];simp
  rw[Y,Z] at p3;have F:aH f w (sortWorld eG w g 0 n d os):=fun b hb k=>ko eG w g n d os k (A b hb);have D:d.toList.length=xs.length:=by simpa using p1
  refine⟨rfl,d.toList.map (fun x=>x.1.2),?_,?_,?_,?_⟩
  ·have:=p3.map (fun x=>x.1.2)
   rw[<-T];simpa using this
  ·rw[List.pairwise_iff_getElem]
   intro i j hi hj N;have O:i<d.size:=afn
   have hj':j<d.size:=BI
   have:=s i j (zxa _) N aD;rw[ltR,getElem!_pos d i O,getElem!_pos d j hj'] at this;have:=of_decide_eq_false this;simpa using this
  ·refine⟨d.toList.map (fun x=>x.1.1),⟨bH,.inr ⟨g,c,putCells eG 0 d o,by simp[D],v,Ea eG w g n d os hg,by simp[p1];omega,z,by simp[putCells,hsz],?_⟩⟩,bH,fun j k1 k2=>?_⟩
   ·apply List.ext_getElem?
    intro j;rw[zxz];simp only[sM,Array.length_toList,Nat.mul_one,putCells,Array.getElem?_toList,Array.getElem?_mapIdx,alY];by_cases hj:j<d.size
    ·have Q:j<o.size:=by rw[hsz];omega
     rw[if_pos hj,zxi Q,zxi hj];simp[hj,eG,getElem!_pos]
    ·rw[if_neg hj,Array.getElem?_eq_none aD]
     rfl
   ·simp only[zxo]
    have:=bB.keep (d.toList[j]'(by simpa using k1)).2.1 F;exact bB.mono this (fun b _ hb=>by rw[q] at hb;exact hb)
  ·have:=zl (eG (E:=f) (w:=w)) w g n d os
   exact aey
end Go.Proofs.YtohddpbgflgiaaaGreatDoor
