/- Part 15 of the walks and plain laws that the proof needs (packed). -/
import Derived.Deep.CutBlock
import Derived.Test.YtobgljfnfpolkaaGreatDoorQ14
set_option linter.all false
set_option maxRecDepth 100000
set_option maxHeartbeats 8000000
namespace Go.Proofs.YtobgljfnfpolkaaGreatDoor
open Go.RowKit
namespace Vm
def adl(kind field up g op n code:Int):List Ins:=
 if 0<=up then [⟨4,1,kind,0⟩,⟨1,2,1,0⟩,⟨1,5,n,0⟩,⟨8,0,1,11⟩,⟨2,4,0,7⟩,⟨5,4,kind,field⟩,⟨5,4,up,g⟩,⟨2,0,0,2⟩,⟨op,4,5,10⟩,⟨6,3,0,0⟩,⟨0,code,0,0⟩]
 else [⟨4,1,kind,0⟩,⟨1,2,1,0⟩,⟨1,5,n,0⟩,⟨8,0,1,10⟩,⟨2,4,0,7⟩,⟨5,4,kind,field⟩,⟨2,0,0,2⟩,⟨op,4,5,9⟩,⟨6,3,0,0⟩,⟨0,code,0,0⟩]
end Vm
theorem ad3{α:Type}{n:Nat}{RR:(Nat->Prop)->World->List Value->α->Prop}{S:Nat->Prop}{B:Nat}{e:TypeId}{w:World}{g m:Nat}(jS:List (List Value)){xs:List α}(hb:w.heap[g]?=some (.cells jS.flatten.toArray e (0,0)))(hB:B<=g)(hx:xs.length=m)(hl:jS.length=xs.length)(hn:∀us∈jS,us.length=n)(hm:xs.length<=1000)
  (hR:∀j (h1:j<jS.length) (h2:j<xs.length),RR (fun b=>S b/\some b≠(Value.slice (some ⟨g,0,none⟩) m m).ownBlock) w jS[j] xs[j]):cG n RR S B e w (.slice (some ⟨g,0,none⟩) m m) xs:=by
 subst hx;have hf:=sV jS hn;rw[hl] at hf;exact⟨jS,⟨hf,.inr ⟨g,xs.length,jS.flatten.toArray,rfl,hB,hb,aB,by unfold maxLen;omega,by simpa using hf,by simpa using zTl (Nat.le_of_eq hf)⟩⟩,hl,hn,hR⟩
theorem adG(kind field up g op n code:Int)(w:World):
  Calls Tryz.prog 53 #[.int .i64 kind,.int .i64 field,.int .i64 up,.int .i64 g,.int .i64 op,.int .i64 n,.int .i64 code] w fun e w'=>∃u,e=.returned u/\adk w.heap.size w' u (Vm.adl kind field up g op n code)/\BL w w':=by
 obtain⟨w1,hw1⟩:=nmE (w.alloc (.cells #[.int .i64 4,.int .i64 1,.int .i64 kind,.int .i64 0,.int .i64 1,.int .i64 2,.int .i64 1,.int .i64 0,.int .i64 1,.int .i64 5,.int .i64 n,.int .i64 0,.int .i64 8,.int .i64 0,.int .i64 1,.int .i64 10,.int .i64 2,.int .i64 4,.int .i64 0,.int .i64 7,.int .i64 5,.int .i64 4,.int .i64 kind,.int .i64 field] 122));have hb1:BL w w1:=by rw[hw1];exact aj.alloc aB _
 have hz1:w.heap.size<=w1.heap.size:=hb1.size;have hc1:w1.heap[w.heap.size]?=some (.cells #[.int .i64 4,.int .i64 1,.int .i64 kind,.int .i64 0,.int .i64 1,.int .i64 2,.int .i64 1,.int .i64 0,.int .i64 1,.int .i64 5,.int .i64 n,.int .i64 0,.int .i64 8,.int .i64 0,.int .i64 1,.int .i64 10,.int .i64 2,.int .i64 4,.int .i64 0,.int .i64 7,.int .i64 5,.int .i64 4,.int .i64 kind,.int .i64 field] 122 (0,0)):=by rw[hw1];exact aD _ _ rfl
 have HO1:Hid (adk w.heap.size w1 (.slice (some ⟨w.heap.size,0,none⟩) 6 6) [⟨4,1,kind,0⟩,⟨1,2,1,0⟩,⟨1,5,n,0⟩,⟨8,0,1,10⟩,⟨2,4,0,7⟩,⟨5,4,kind,field⟩]):=hid
  (ad3 (RR:=abd) [[.int .i64 4,.int .i64 1,.int .i64 kind,.int .i64 0],[.int .i64 1,.int .i64 2,.int .i64 1,.int .i64 0],[.int .i64 1,.int .i64 5,.int .i64 n,.int .i64 0],[.int .i64 8,.int .i64 0,.int .i64 1,.int .i64 10],[.int .i64 2,.int .i64 4,.int .i64 0,.int .i64 7],[.int .i64 5,.int .i64 4,.int .i64 kind,.int .i64 field]] hc1 aB rfl rfl (by simp) (by simp) (fun j h1 h2=>by
   match j,h1 with
   |0,_=>rfl
   |1,_=>rfl
   |2,_=>rfl
   |3,_=>rfl
   |4,_=>rfl
   |5,_=>rfl))
 have aW:=hid hb1;have HW1:=hid hw1;by_cases hup:0<=up
 ·have hup2:¬up<0:=by omega
  have HL:Hid (Vm.adl kind field up g op n code=[⟨4,1,kind,0⟩,⟨1,2,1,0⟩,⟨1,5,n,0⟩,⟨8,0,1,11⟩,⟨2,4,0,7⟩,⟨5,4,kind,field⟩,⟨5,4,up,g⟩]++[⟨2,0,0,2⟩,⟨op,4,5,10⟩,⟨6,3,0,0⟩,⟨0,code,0,0⟩]):=hid (by unfold Vm.adl;rw[if_pos hup];rfl);have kW:([⟨4,1,kind,0⟩,⟨1,2,1,0⟩,⟨1,5,n,0⟩,⟨8,0,1,10⟩,⟨2,4,0,7⟩,⟨5,4,kind,field⟩]:List Vm.Ins).length+1<=1000000000:=by simp
  have hbz:w.heap.size<=w1.heap.size:=by omega
  clear hw1 hb1 hc1;go_enter Tryz.func53,Tryz.ntmps53;go_upto_region 3 with fail;rw[<-HW1.out];go_wp2_with (at_builtin;go_must (refine cD zF rfl _ _ rfl Tryz.aeI rfl HO1.out (us:=[.int .i64 5,.int .i64 4,.int .i64 up,.int .i64 g]) rfl rfl rfl ⟨5,4,up,g⟩ rfl adx kW hbz ?_));intro v' w5 how ht hn
  obtain⟨a5,c5,rfl⟩:∃a5 c5,v'=.slice a5 7 c5:=by
   obtain⟨a1,c1,e, -⟩:=how.form;exact⟨a1,c1,e⟩
  have dP:Hid (BL w w5):=hid (aW.out.trans (ht.below hbz (fun b hb=>by cases hb;exact aB)));obtain⟨gb,rfl, -,hgb,hgl,hfz⟩:=how.sW (by simp);obtain⟨us3,h31,h32,h33⟩:=cG.at how (j:=3) (by simp);obtain rfl:us3=Hq ⟨8,0,1,10⟩:=h33;have x0:w5.cell? ⟨gb,15,none⟩=some (.int .i64 10):=h32 3 _ rfl;have x1:w5.frozen? ⟨gb,15,none⟩=false:=hfz 15;obtain⟨w6,jf⟩:=nmE (w5.setCell ⟨gb,15,none⟩ (.int .i64 11))
  have ho6:adk w.heap.size w6 (.slice (some ⟨gb,0,none⟩) 7 c5) [⟨4,1,kind,0⟩,⟨1,2,1,0⟩,⟨1,5,n,0⟩,⟨8,0,1,11⟩,⟨2,4,0,7⟩,⟨5,4,kind,field⟩,⟨5,4,up,g⟩]:=by
   rw[jf]
   exact cG.put zF how rfl (j:=3) (i:=3) (by simp) (by omega) ⟨8,0,1,11⟩ (.int .i64 11) (fun us h=>by
    obtain rfl:us=Hq ⟨8,0,1,10⟩:=h;rfl)
  have jC:Hid (Below w.heap.size w w6):=hid (by rw[jf];exact dP.out.setCell hgb _);have hz6:w.heap.size<=w6.heap.size:=jC.out.size;obtain⟨us3,h31,h34,h33⟩:=cG.at ho6 (j:=3) (by simp);obtain rfl:us3=Hq ⟨8,0,1,11⟩:=h33;have CT:=hid jf;have HO6:=hid ho6
  have HS:Hid (dA 4 (abd (fun _=>False)) (fun _=>True) (w6.alloc (.cells #[.int .i64 2,.int .i64 0,.int .i64 0,.int .i64 2,.int .i64 op,.int .i64 4,.int .i64 5,.int .i64 10,.int .i64 6,.int .i64 3,.int .i64 0,.int .i64 0,.int .i64 0,.int .i64 code,.int .i64 0,.int .i64 0] 122)) (.slice (some ⟨w6.heap.size,0,none⟩) 4 4) [⟨2,0,0,2⟩,⟨op,4,5,10⟩,⟨6,3,0,0⟩,⟨0,code,0,0⟩]):=hid
   (wj (n:=4) (R:=abd (fun _=>False)) (S:=fun _=>True) (xs:=[⟨2,0,0,2⟩,⟨op,4,5,10⟩,⟨6,3,0,0⟩,⟨0,code,0,0⟩]) [[.int .i64 2,.int .i64 0,.int .i64 0,.int .i64 2],[.int .i64 op,.int .i64 4,.int .i64 5,.int .i64 10],[.int .i64 6,.int .i64 3,.int .i64 0,.int .i64 0],[.int .i64 0,.int .i64 code,.int .i64 0,.int .i64 0]] (aD w6 _ rfl) rfl rfl (by simp) (by simp) trivial (fun j h1 h2=>by
   match j,h1 with
   |0,_=>rfl
   |1,_=>rfl
   |2,_=>rfl
   |3,_=>rfl))
  have zu:=hid (fun(o:Obj)=>cG.keep zF HO6.out (w':=w6.alloc o) (fun b _ hl=>(aj.alloc aB _).block b hl));have hbase:∀o:Obj,w.heap.size<=(w6.alloc o).heap.size:=fun o=>by rw[World.size_alloc];omega
  have hone:∀us (y:Vm.Ins),abd (fun _=>False) (w6.alloc (.cells #[.int .i64 2,.int .i64 0,.int .i64 0,.int .i64 2,.int .i64 op,.int .i64 4,.int .i64 5,.int .i64 10,.int .i64 6,.int .i64 3,.int .i64 0,.int .i64 0,.int .i64 0,.int .i64 code,.int .i64 0,.int .i64 0] 122)) us y->∀u∈us,u.oneCell'=true:=fun us y h=>by
   obtain rfl:us=Hq y:=h;exact adx
  have HBa:=hid (fun(o:Obj)=>jC.out.trans (((Below.refl _ w6).alloc aB o).mono jC.out.size));have hg6:=hgb;have SK:=hid hgb;clear how ht hn hfz h31 h32 ho6 jf kW hbz hgl;go_upto_region 5 with fail;rw[<-CT.out];clear x0 x1;have x0:w6.cell? ⟨gb,15,none⟩=some (.int .i64 11):=h34 3 _ rfl;go_upto_region 6 with fail;go_wp2_with (at_builtin;go_must (refine gq (ys:=[⟨2,0,0,2⟩,⟨op,4,5,10⟩,⟨6,3,0,0⟩,⟨0,code,0,0⟩]) zF rfl _ _ rfl Tryz.aeI rfl (zu.out _) rfl HS.out (fun _ _ h=>h.elim) hone (by simp) (hbase _) ?_));intro v' w7 how ht hn;obtain⟨a',c',rfl, -⟩:=how.form;have HO3:=hid how;have kN:Hid (BL w w7):=hid ((HBa.out _).trans (ht.below (hbase _) (fun b hb=>by cases hb;exact SK.out)));clear how ht hn hone hbase;go_wp2;go_ret;exact⟨_,rfl,by rw[HL.out];exact HO3.out,kN.out⟩
 ·have hup2:up<0:=by omega
  have HL:Hid (Vm.adl kind field up g op n code=[⟨4,1,kind,0⟩,⟨1,2,1,0⟩,⟨1,5,n,0⟩,⟨8,0,1,10⟩,⟨2,4,0,7⟩,⟨5,4,kind,field⟩]++[⟨2,0,0,2⟩,⟨op,4,5,9⟩,⟨6,3,0,0⟩,⟨0,code,0,0⟩]):=hid (by unfold Vm.adl;rw[if_neg hup];rfl);have x0:w1.cell? ⟨w.heap.size,15,none⟩=some (.int .i64 10):=by rw[aI hc1];rfl
  have HS:Hid (dA 4 (abd (fun _=>False)) (fun _=>True) (w1.alloc (.cells #[.int .i64 2,.int .i64 0,.int .i64 0,.int .i64 2,.int .i64 op,.int .i64 4,.int .i64 5,.int .i64 9,.int .i64 6,.int .i64 3,.int .i64 0,.int .i64 0,.int .i64 0,.int .i64 code,.int .i64 0,.int .i64 0] 122)) (.slice (some ⟨w1.heap.size,0,none⟩) 4 4) [⟨2,0,0,2⟩,⟨op,4,5,9⟩,⟨6,3,0,0⟩,⟨0,code,0,0⟩]):=hid
   (wj (n:=4) (R:=abd (fun _=>False)) (S:=fun _=>True) (xs:=[⟨2,0,0,2⟩,⟨op,4,5,9⟩,⟨6,3,0,0⟩,⟨0,code,0,0⟩]) [[.int .i64 2,.int .i64 0,.int .i64 0,.int .i64 2],[.int .i64 op,.int .i64 4,.int .i64 5,.int .i64 9],[.int .i64 6,.int .i64 3,.int .i64 0,.int .i64 0],[.int .i64 0,.int .i64 code,.int .i64 0,.int .i64 0]] (aD w1 _ rfl) rfl rfl (by simp) (by simp) trivial (fun j h1 h2=>by
   match j,h1 with
   |0,_=>rfl
   |1,_=>rfl
   |2,_=>rfl
   |3,_=>rfl))
  have zu:=hid (fun(o:Obj)=>cG.keep zF HO1.out (w':=w1.alloc o) (fun b _ hl=>(aj.alloc aB _).block b hl));clear hw1 hb1 hc1;go_enter Tryz.func53,Tryz.ntmps53;go_upto_region 5 with fail;rw[<-HW1.out];go_upto_region 6 with fail;have hbase:∀o:Obj,w.heap.size<=(w1.alloc o).heap.size:=fun o=>by rw[World.size_alloc];omega
  have hone:∀us (y:Vm.Ins),abd (fun _=>False) (w1.alloc (.cells #[.int .i64 2,.int .i64 0,.int .i64 0,.int .i64 2,.int .i64 op,.int .i64 4,.int .i64 5,.int .i64 9,.int .i64 6,.int .i64 3,.int .i64 0,.int .i64 0,.int .i64 0,.int .i64 code,.int .i64 0,.int .i64 0] 122)) us y->∀u∈us,u.oneCell'=true:=fun us y h=>by
   obtain rfl:us=Hq y:=h;exact adx
  have HBa:=hid (fun(o:Obj)=>aW.out.trans (((Below.refl _ w1).alloc aB o).mono aW.out.size));go_wp2_with (at_builtin;go_must (refine gq (ys:=[⟨2,0,0,2⟩,⟨op,4,5,9⟩,⟨6,3,0,0⟩,⟨0,code,0,0⟩]) zF rfl _ _ rfl Tryz.aeI rfl (zu.out _) rfl HS.out (fun _ _ h=>h.elim) hone (by simp) (hbase _) ?_));intro v' w6 how ht hn;obtain⟨a',c',rfl, -⟩:=how.form;have HO3:=hid how;have jC:Hid (BL w w6):=hid ((HBa.out _).trans (ht.below (hbase _) (fun b hb=>by cases hb;exact aB)));clear how ht hn hone hbase;go_wp2;go_ret;exact⟨_,rfl,by rw[HL.out];exact HO3.out,jC.out⟩
namespace Vm
open ah (bK bD)
structure adz(x:bD)(p:List Ins):Prop where
 len:p.length<=128
 all:∀i∈p,pY p.length i=true/\gG x i=true
theorem adz.valid{x:bD}{p:List Ins}(h:adz x p):dr p=0:=by
 unfold dr;rw[if_neg (by have:=h.len;omega),if_pos (List.all_eq_true.2 fun i hi=>(h.all i hi).1)]
theorem adz.named{x:bD}{p:List Ins}(h:adz x p):pZ x p=true:=List.all_eq_true.2 fun i hi=>(h.all i hi).2
structure ad4(x:bD)(k f n code op:Int):Prop where
 k0:0<=k
 k1:k<x.af3.length
 f0:0<=f
 f1:f<(ah.kd x k).af4.length
 n0: -2<=n
 n1:n<=9
 c0:1<=code
 c1:code<=3
 op:op=7\/op=8
 k6:x.af3.length<=6
 f10:(ah.kd x k).af4.length<=10
def afx(x:bD)(up g:Int):Prop:=up<0\/(up<x.af3.length/\0<=g/\g<(ah.kd x up).af4.length/\g<=9)
theorem aeJ{x:bD}{n o a b c:Int}(h:(0<=o/\o<9)/\(vA (dN o 0)<=a/\a<=zy (dN o 0) n)/\(vA (dN o 1)<=b/\b<=zy (dN o 1) n)/\(vA (dN o 2)<=c/\c<=zy (dN o 2) n))
  (h4:o=4\/o=5->b<x.af3.length)(h5:o=5->c<(ah.kd x b).af4.length):pY n ⟨o,a,b,c⟩=true/\gG x ⟨o,a,b,c⟩=true:=by
 obtain⟨⟨h1,h2⟩,⟨a1,a2⟩,⟨b1,b2⟩,c1,c2⟩:=h;refine⟨?_,?_⟩
 ·unfold pY Xo dF
  simp only[zBa,zDt];exact⟨⟨⟨⟨h1,h2⟩,a1,a2⟩,b1,b2⟩,c1,c2⟩
 ·unfold gG
  by_cases e4:o=4
  ·rw[if_pos e4];exact decide_eq_true (h4 (.inl e4))
  ·rw[if_neg e4]
   by_cases e5:o=5
   ·rw[if_pos e5,decide_eq_true (h4 (.inr e5)),decide_eq_true (h5 e5)];rfl
   ·rw[if_neg e5]
theorem ads{x:bD}{n o a b c:Int}(s0 s1 s2:Int)(e0:dN o 0=s0)(e1:dN o 1=s1)(e2:dN o 2=s2)(ho:0<=o/\o<9)(ha:vA s0<=a/\a<=zy s0 n)(hb:vA s1<=b/\b<=zy s1 n)(hc:vA s2<=c/\c<=zy s2 n)
  (h4:o=4\/o=5->b<x.af3.length)(h5:o=5->c<(ah.kd x b).af4.length):pY n ⟨o,a,b,c⟩=true/\gG x ⟨o,a,b,c⟩=true:=
 aeJ ⟨ho,by rw[e0];exact ha,by rw[e1];exact hb,by rw[e2];exact hc⟩ h4 h5
theorem aea{x:bD}{n a:Int}(h:0<=a/\a<=250):pY n ⟨0,a,0,0⟩=true/\gG x ⟨0,a,0,0⟩=true:=
 ads 1 0 0 rfl rfl rfl (by omega) h ⟨Int.le_refl _,Int.le_refl _⟩ ⟨Int.le_refl _,Int.le_refl _⟩ (by omega) (by omega)
theorem adt{x:bD}{n a b:Int}(h:0<=a/\a<=7)(g: -1048576<=b/\b<=1048576):pY n ⟨1,a,b,0⟩=true/\gG x ⟨1,a,b,0⟩=true:=
 ads 2 3 0 rfl rfl rfl (by omega) h g ⟨Int.le_refl _,Int.le_refl _⟩ (by omega) (by omega)
theorem ad5{x:bD}{n a b c:Int}(h:0<=a/\a<=7)(g:0<=b/\b<=7)(k:0<=c/\c<=7):pY n ⟨2,a,b,c⟩=true/\gG x ⟨2,a,b,c⟩=true:=
 ads 2 2 2 rfl rfl rfl (by omega) h g k (by omega) (by omega)
theorem ad0{x:bD}{n a b:Int}(h:0<=a/\a<=7)(g:0<=b/\b<x.af3.length)(g6:x.af3.length<=6):pY n ⟨4,a,b,0⟩=true/\gG x ⟨4,a,b,0⟩=true:=
 ads 2 4 0 rfl rfl rfl (by omega) h ⟨g.1,show b<=5 by omega⟩ ⟨Int.le_refl _,Int.le_refl _⟩ (fun _=>g.2) (by omega)
theorem aex{x:bD}{n a b c:Int}(h:0<=a/\a<=7)(g:0<=b/\b<x.af3.length)(g6:x.af3.length<=6)(k:0<=c/\c<(ah.kd x b).af4.length)(k9:c<=9):pY n ⟨5,a,b,c⟩=true/\gG x ⟨5,a,b,c⟩=true:=
 ads 2 4 5 rfl rfl rfl (by omega) h ⟨g.1,show b<=5 by omega⟩ ⟨k.1,k9⟩ (fun _=>g.2) (fun _=>k.2)
theorem ael{x:bD}{n a:Int}(h:0<=a/\a<=n):pY n ⟨6,a,0,0⟩=true/\gG x ⟨6,a,0,0⟩=true:=
 ads 6 0 0 rfl rfl rfl (by omega) h ⟨Int.le_refl _,Int.le_refl _⟩ ⟨Int.le_refl _,Int.le_refl _⟩ (by omega) (by omega)
theorem adu{x:bD}{n o a b c:Int}(ho:o=7\/o=8)(h:0<=a/\a<=7)(g:0<=b/\b<=7)(k:0<=c/\c<=n):pY n ⟨o,a,b,c⟩=true/\gG x ⟨o,a,b,c⟩=true:=by
 rcases ho with rfl|rfl
 ·exact ads 2 2 6 rfl rfl rfl (by omega) h g k (by omega) (by omega)
 ·exact ads 2 2 6 rfl rfl rfl (by omega) h g k (by omega) (by omega)
theorem aeE{x:bD}{k f n code op n5:Int}(h:ad4 x k f n code op)(h5:0<=n5/\n5<=4):adz x [⟨4,1,k,0⟩,⟨1,2,n5,0⟩,⟨7,1,2,4⟩,⟨0,code,0,0⟩] where
 len:=by simp
 all i hi:=by
  simp only[zMc,zNn,or_false] at hi;have:=h.c0;have:=h.c1;rcases hi with rfl|rfl|rfl|rfl
  ·exact ad0 (by omega) ⟨h.k0,h.k1⟩ h.k6
  ·exact adt (by omega) (by omega)
  ·exact adu (.inl rfl) (by omega) (by omega) ⟨by omega,by simp⟩
  ·exact aea (by omega)
theorem adM{x:bD}{k f n code op up g:Int}(h:ad4 x k f n code op)(hu:afx x up g):adz x (adl k f up g op n code):=by
 have:=h.c0;have:=h.c1;have:=h.n0;have:=h.n1;have:=h.f10;have:=h.f1;have hk:(0:Int)<=k/\k<x.af3.length:=⟨h.k0,h.k1⟩;have hf:(0:Int)<=f/\f<(ah.kd x k).af4.length:=⟨h.f0,h.f1⟩;unfold adl;by_cases h0:0<=up
 ·rw[if_pos h0]
  rcases hu with hu|⟨u1,u2,u3,u4⟩
  ·omega
  refine⟨by simp,fun i hi=>?_⟩;simp only[zMc,zNn,or_false] at hi;rcases hi with rfl|rfl|rfl|rfl|rfl|rfl|rfl|rfl|rfl|rfl|rfl
  ·exact ad0 (by omega) hk h.k6
  ·exact adt (by omega) (by omega)
  ·exact adt (by omega) (by omega)
  ·exact adu (.inr rfl) (by omega) (by omega) ⟨by omega,by simp⟩
  ·exact ad5 (by omega) (by omega) (by omega)
  ·exact aex (by omega) hk h.k6 hf (by omega)
  ·exact aex (by omega) ⟨h0,u1⟩ h.k6 ⟨u2,u3⟩ u4
  ·exact ad5 (by omega) (by omega) (by omega)
  ·exact adu h.op (by omega) (by omega) ⟨by omega,by simp⟩
  ·exact ael ⟨by omega,by simp⟩
  ·exact aea (by omega)
 ·rw[if_neg h0]
  refine⟨by simp,fun i hi=>?_⟩;simp only[zMc,zNn,or_false] at hi;rcases hi with rfl|rfl|rfl|rfl|rfl|rfl|rfl|rfl|rfl|rfl
  ·exact ad0 (by omega) hk h.k6
  ·exact adt (by omega) (by omega)
  ·exact adt (by omega) (by omega)
  ·exact adu (.inr rfl) (by omega) (by omega) ⟨by omega,by simp⟩
  ·exact ad5 (by omega) (by omega) (by omega)
  ·exact aex (by omega) hk h.k6 hf (by omega)
  ·exact ad5 (by omega) (by omega) (by omega)
  ·exact adu h.op (by omega) (by omega) ⟨by omega,by simp⟩
  ·exact ael ⟨by omega,by simp⟩
  ·exact aea (by omega)
def adj(i:Ins):Ins:=⟨i.op,if i.op=6 then i.a+3 else i.a,i.b,if i.op=7\/i.op=8 then i.c+3 else i.c⟩
theorem aeK{k f n code op:Int}(h:op=7\/op=8):(adl k f (-1) 0 op n code).map adj=[⟨4,1,k,0⟩,⟨1,2,1,0⟩,⟨1,5,n,0⟩,⟨8,0,1,13⟩,⟨2,4,0,7⟩,⟨5,4,k,f⟩,⟨2,0,0,2⟩,⟨op,4,5,12⟩,⟨6,6,0,0⟩,⟨0,code,0,0⟩]:=by
 unfold adl;rw[if_neg (by omega)];rcases h with rfl|rfl<;>rfl
theorem aem{x:bD}{k f n code op:Int}(h:ad4 x k f n code op):(adl k f (-1) 0 op n code).length=10/\∀i∈adl k f (-1) 0 op n code, -1000<=i.a/\i.a<=1000/\ -1000<=i.c/\i.c<=1000:=by
 have:=h.c0;have:=h.c1;have:=h.f10;have:=h.f1;have:=h.f0;unfold adl;rw[if_neg (by omega)];refine⟨rfl,fun i hi=>?_⟩;simp only[zMc,zNn,or_false] at hi;rcases hi with rfl|rfl|rfl|rfl|rfl|rfl|rfl|rfl|rfl|rfl<;>(simp only;omega)
theorem aeZ{l:List Ins}{j:Nat}(h:j<l.length):(l.take (j+1)).map adj++l.drop (j+1)=((l.take j).map adj++l.drop j).set j (adj l[j]):=by
 rw[zTs h,List.map_append,List.append_assoc,List.set_append_right _ _ (by simp;omega)];simp only[zLm,zLt,Nat.min_eq_left (Nat.le_of_lt h),Nat.sub_self,List.map_cons,List.map_nil];rw[List.drop_eq_getElem_cons h];rfl
theorem aeL{l:List Ins}{j:Nat}(h:j<l.length)(e:adj l[j]=l[j]):(l.take (j+1)).map adj++l.drop (j+1)=(l.take j).map adj++l.drop j:=by
 rw[zTs h,List.map_append,List.append_assoc,List.drop_eq_getElem_cons h];simp only[List.map_cons,List.map_nil,e];rfl
theorem aeM{x:bD}{k f n code op other m:Int}(h:ad4 x k f n code op)(ho:0<=other/\other<x.af3.length)(hm:1<=m/\m<=3):adz x ([⟨4,6,other,0⟩,⟨1,5,m,0⟩,⟨7,6,5,13⟩]++(adl k f (-1) 0 op n code).map adj):=by
 have:=h.c0;have:=h.c1;have:=h.n0;have:=h.n1;have:=h.f10;have:=h.f1;have hk:(0:Int)<=k/\k<x.af3.length:=⟨h.k0,h.k1⟩;have hf:(0:Int)<=f/\f<(ah.kd x k).af4.length:=⟨h.f0,h.f1⟩;rw[aeK h.op];refine⟨by simp,fun i hi=>?_⟩;simp only[List.cons_append,List.nil_append,zMc,zNn,or_false] at hi;rcases hi with rfl|rfl|rfl|rfl|rfl|rfl|rfl|rfl|rfl|rfl|rfl|rfl|rfl
 ·exact ad0 (by omega) ho h.k6
 ·exact adt (by omega) (by omega)
 ·exact adu (.inl rfl) (by omega) (by omega) ⟨by omega,by simp⟩
 ·exact ad0 (by omega) hk h.k6
 ·exact adt (by omega) (by omega)
 ·exact adt (by omega) (by omega)
 ·exact adu (.inr rfl) (by omega) (by omega) ⟨by omega,by simp⟩
 ·exact ad5 (by omega) (by omega) (by omega)
 ·exact aex (by omega) hk h.k6 hf (by omega)
 ·exact ad5 (by omega) (by omega) (by omega)
 ·exact adu h.op (by omega) (by omega) ⟨by omega,by simp⟩
 ·exact ael ⟨by omega,by simp⟩
 ·exact aea (by omega)
def Cm(k f many s v:Int):Prop:=(vA s<=v/\v<=zy s many)/\(s=4->v=k)/\(s=5->v=f)
theorem aeN{x:bD}{k f n code op many:Int}(h:ad4 x k f n code op){o a b c:Int}(ho:0<=o/\o<9)(ha:Cm k f many (dN o 0) a)(hb:Cm k f many (dN o 1) b)(hc:Cm k f many (dN o 2) c):pY many ⟨o,a,b,c⟩=true/\gG x ⟨o,a,b,c⟩=true:=by
 have hk:=h.k1;have hf:=h.f1;refine aeJ ⟨ho,ha.1,hb.1,hc.1⟩ (fun e=>?_) (fun e=>?_)
 ·rcases e with rfl|rfl
  ·rw[hb.2.1 rfl];exact hk
  ·rw[hb.2.1 rfl];exact hk
 ·subst e
  rw[hc.2.2 rfl,hb.2.1 rfl];exact hf
end Vm
def aey:List ByteArray:=[⟨#[99,45,45]⟩,⟨#[114,110,45]⟩,⟨#[114,114,114]⟩,⟨#[114,114,114]⟩,⟨#[114,107,45]⟩,⟨#[114,107,102]⟩,⟨#[105,45,45]⟩,⟨#[114,114,105]⟩,⟨#[114,114,105]⟩]
def adH(o t:Nat):Nat:=((aey.getD o ⟨#[]⟩).data.getD t 0).toNat
theorem ad6:∀o,o<9->∀t,t<3->(aey.getD o ⟨#[]⟩).size=3/\((adH o t=99/\Vm.dN o t=1)\/(adH o t=114/\Vm.dN o t=2)\/(adH o t=110/\Vm.dN o t=3)\/(adH o t=107/\Vm.dN o t=4)\/(adH o t=102/\Vm.dN o t=5)\/(adH o t=105/\Vm.dN o t=6)\/(adH o t=45/\Vm.dN o t=0)):=by decide
theorem aen(w:World):Calls Tryz.prog 54 #[] w fun e w'=>e=.returned (.slice (some ⟨w.heap.size,0,none⟩) 9 9)/\BL w w'/\∀o (_:o<9),w'.cell? ⟨w.heap.size,o,none⟩=some (.string (aey.getD o ⟨#[]⟩)):=by
 go_enter Tryz.func54,Tryz.ntmps54;go_wp2;go_ret;refine⟨rfl,aj.alloc aB _,fun o ho=>?_⟩;rw[aI (aD w _ rfl)];match o,ho with
 |0,_=>rfl
 |1,_=>rfl
 |2,_=>rfl
 |3,_=>rfl
 |4,_=>rfl
 |5,_=>rfl
 |6,_=>rfl
 |7,_=>rfl
 |8,_=>rfl
structure afy(x:ah.bD):Prop where
 k1:1<=x.af3.length
 k6:x.af3.length<=6
 f:∀k:Nat,k<x.af3.length->1<=(ah.kd x k).af4.length/\(ah.kd x k).af4.length<=10
theorem afg{x:ah.bD}{k f:Nat}(h:f<(ah.kd x k).af4.length):ah.fd x k f=(ah.kd x k).af4[f]:=by
 unfold ah.fd;rw[Int.toNat_natCast,zGd,zEg h,zOg]
theorem tq{B:Nat}{e:TypeId}{w:World}{v:Value}{p:List Vm.Ins}(h:cG 4 abd (fun _=>True) B e w v p):nG (·<w.heap.size) w v p:=cG.sl zF h (fun _ hb _=>hb) (fun b hb=>(cG.lt h b hb).2)
def ae9(x:ah.bD)(w:World)(e:Ending)(w':World):Prop:=∃pv p,e=.returned pv/\Vm.adz x p/\nG (·<w'.heap.size) w' pv p/\BL w w'
theorem adv(x:ah.bD)(hx:afy x)(hr:ah.GV x)(L:List Int)(hL:Fit L)(v u:Value)(S T:Nat->Prop)(w:World)(hv:eU S w v x)(hu:bO T w u L):
  Calls Tryz.prog 18 #[v,u] w (ae9 x w):=by
 refine Calls.mono (R:=fun e w'=>Hid (ae9 x w e w')) ?_ (fun _ _ h=>h.out);have HV:=hid (fun(X:World) (hX:BL w X)=>hv.keep (aA.below hX));have HFx:=hid hx;have HRu:=hid hr
 have pT:Hid (∀(X:World) (i most:Int),BL w X->1<=most->most<=1000000->0<=i->CP 48 #[u,.int .i64 i,.int .i64 most] X fun e w'=>∃a:Nat,e=.returned (.int .i64 (a:Int))/\(a:Int)<most/\X=w'):=hid (fun X i most hX h1 h2 h3=>(Gy L hL u i most T X (hu.keep (aA.below hX)) h1 h2 h3).mono (fun e w' h=>by
  obtain⟨h4,h5⟩:=Dm L i.toNat most h1;refine⟨(Rj L i.toNat most).toNat,?_,by omega,h.2⟩;rw[h.1,Int.toNat_of_nonneg h4]))
 obtain⟨ak,ck,al,cl,ar,cr,rfl,hkk, -, -,hsk, -, -⟩:=hv.form;obtain⟨w1,hw1⟩:=nmE (bE w x.af6 (.slice ak x.af3.length ck) (.slice al x.af7.length cl) (.slice ar x.af8.length cr));have aW:=afX hw1;have HX:=afY hw1;unfold bE at hw1;have HW1:=hid hw1
 have HKn:Hid (∀k:Nat,k<x.af3.length->∃uf,dh S w1 uf (ah.kd x k).af4/\∀X,BL w1 X->X.cell? ⟨aY ak,bC ak+k*4+3,none⟩=some uf):=hid (fun k hk=>by
  obtain⟨h1, -, -, -, -,uf,h2,h3⟩:=fV.at (fV.keep hkk (aA.below aW.out)) hk;refine⟨uf,?_,fun X hX=>(hX.cell (by exact h1)).trans h2⟩;rw[fM hk];exact h3)
 have PU:=hid (fun(X:World) (i j:Nat) (hX:BL w X) (hi:i<=1000000) (hj:j<=1000000)=>Ki x i j _ S X (HV.out X hX) (by omega) (by omega));clear hw1 hv hu hx hr hL hkk;obtain⟨m,hm⟩:=nmE x.af3.length;have HM:=hid hm;have hm1:(1:Int)<=(m:Int):=by have:=HFx.out.k1;omega
 have hm2:(m:Int)<=6:=by have:=HFx.out.k6;omega
 rw[<-hm] at HX HW1 hsk PU ⊢;clear hm;obtain⟨⟨y0,y1,y2,y3⟩, -⟩:=aO (HX.out w1 aj);go_enter Tryz.func18,Tryz.ntmps18;go_upto_region 1 with fail;rw[<-HW1.out];go_wp2_with fail;refine(pT.out w1 0 m aW.out hm1 (by omega) (by omega)).mono ?_;rintro e w' ⟨k,rfl,hk,rfl⟩;have hkx:k<x.af3.length:=by have:=HM.out;omega
 obtain⟨uf,hfl,hcf⟩:=HKn.out k hkx;obtain⟨af,cf,rfl,hsf, -, -⟩:=hfl.form;have x3:w1.cell? ⟨aY ak,bC ak+k*4+3,none⟩=some (.slice af (ah.kd x k).af4.length cf):=hcf w1 aj;have Iu:=hid hfl;obtain⟨nf,hnf⟩:=nmE ((ah.kd x k).af4.length);have VD:=hid hnf;have hf1:(1:Int)<=(nf:Int):=by have:=(HFx.out.f k hkx).1;omega
 have hf2:(nf:Int)<=10:=by have:=(HFx.out.f k hkx).2;omega
 rw[<-hnf] at x3 hsf Iu;clear hnf hfl hcf;have hk0:(0:Int)<=(k:Int):=by omega
 go_wp2_with fail;refine(pT.out w1 1 nf aW.out hf1 (by omega) (by omega)).mono ?_;rintro e w' ⟨f,rfl,hf,rfl⟩;go_wp2_with fail;refine(pT.out w1 2 12 aW.out (by omega) (by omega) (by omega)).mono ?_;rintro e w' ⟨n0,rfl,hn0,rfl⟩;go_upto_region 4 with fail;obtain⟨n,hn⟩:=nmE ((n0:Int)-2:Int);rw[<-hn];have hn1: -2<=n/\n<=9:=by omega
 clear hn hn0;go_wp2_with fail;refine(pT.out w1 3 3 aW.out (by omega) (by omega) (by omega)).mono ?_;rintro e w' ⟨c0,rfl,hc0,rfl⟩;go_upto_region 5 with fail;obtain⟨code,hcd⟩:=nmE (1+(c0:Int):Int);rw[<-hcd];have hc1:1<=code/\code<=3:=by omega
 clear hcd hc0;go_wp2_with fail;refine(pT.out w1 4 2 aW.out (by omega) (by omega) (by omega)).mono ?_;rintro e w' ⟨o0,rfl,Vu,rfl⟩;go_upto_region 6 with fail;obtain⟨op,hop⟩:=nmE (7+(o0:Int):Int);rw[<-hop];have Tf:op=7\/op=8:=by omega
 clear hop Vu;have HD:Hid (Vm.ad4 x k f n code op):=hid ⟨hk0,by have:=HM.out;omega,by omega,by have:=VD.out;omega,hn1.1,hn1.2,hc1.1,hc1.2,Tf,by have:=HM.out;omega,by have:=VD.out;omega⟩;have HO:=hid Tf;clear Tf;go_wp2_with fail;refine(pT.out w1 5 6 aW.out (by omega) (by omega) (by omega)).mono ?_;rintro e w' ⟨sw,rfl,hsw,rfl⟩;have hs:sw=0\/sw=1\/sw=2\/sw=3\/4<=sw:=by omega
 clear hsw;rcases hs with rfl|rfl|rfl|rfl|hs
 ·obtain⟨n5,hn5⟩:=nmE (max n 1 % 5)
  have hn6:0<=n5/\n5<=4:=by omega
  have Tx:=hid hn5;have HN6:=hid hn6;clear hn5 hn6
  have HPr:Hid (nG (·<(w1.alloc (.cells #[.int .i64 4,.int .i64 1,.int .i64 (k:Int),.int .i64 0,.int .i64 1,.int .i64 2,.int .i64 n5,.int .i64 0,.int .i64 7,.int .i64 1,.int .i64 2,.int .i64 4,.int .i64 0,.int .i64 code,.int .i64 0,.int .i64 0] 122)).heap.size) (w1.alloc (.cells #[.int .i64 4,.int .i64 1,.int .i64 (k:Int),.int .i64 0,.int .i64 1,.int .i64 2,.int .i64 n5,.int .i64 0,.int .i64 7,.int .i64 1,.int .i64 2,.int .i64 4,.int .i64 0,.int .i64 code,.int .i64 0,.int .i64 0] 122)) (.slice (some ⟨w1.heap.size,0,none⟩) 4 4) [⟨4,1,k,0⟩,⟨1,2,n5,0⟩,⟨7,1,2,4⟩,⟨0,code,0,0⟩]):=hid
   (wj (α:=Vm.Ins) (n:=4) [[.int .i64 4,.int .i64 1,.int .i64 (k:Int),.int .i64 0],[.int .i64 1,.int .i64 2,.int .i64 n5,.int .i64 0],[.int .i64 7,.int .i64 1,.int .i64 2,.int .i64 4],[.int .i64 0,.int .i64 code,.int .i64 0,.int .i64 0]] (aD w1 _ rfl) rfl rfl (by simp) (by simp) (by simp) (fun j h1 h2=>by
    match j,h1 with
    |0,_=>rfl
    |1,_=>rfl
    |2,_=>rfl
    |3,_=>rfl))
  have HBa:=hid (fun(o:Obj)=>aW.out.trans (((Below.refl _ w1).alloc aB o).mono aW.out.size));go_wp2;rw[<-Tx.out];go_ret;exact hid ⟨_,_,rfl,Vm.aeE HD.out HN6.out,HPr.out,HBa.out _⟩
 ·go_wp2_with fail
  refine(pT.out w1 6 m aW.out hm1 (by omega) (by omega)).mono ?_;rintro e w' ⟨other,rfl,hot,rfl⟩;go_wp2_with fail;refine(pT.out w1 7 3 aW.out (by omega) (by omega) (by omega)).mono ?_;rintro e w' ⟨m0,rfl,hm0,rfl⟩;obtain⟨w2,hw2⟩:=nmE (w1.alloc (.cells #[.int .i64 4,.int .i64 6,.int .i64 (other:Int),.int .i64 0,.int .i64 1,.int .i64 5,.int .i64 (1+(m0:Int)),.int .i64 0,.int .i64 7,.int .i64 6,.int .i64 5,.int .i64 13] 122));have hb2:BL w1 w2:=by rw[hw2];exact aj.alloc aB _
  have HO3:Hid (adk w1.heap.size w2 (.slice (some ⟨w1.heap.size,0,none⟩) 3 3) [⟨4,6,other,0⟩,⟨1,5,1+(m0:Int),0⟩,⟨7,6,5,13⟩]):=hid
   (ad3 (RR:=abd) [[.int .i64 4,.int .i64 6,.int .i64 (other:Int),.int .i64 0],[.int .i64 1,.int .i64 5,.int .i64 (1+(m0:Int)),.int .i64 0],[.int .i64 7,.int .i64 6,.int .i64 5,.int .i64 13]] (by rw[hw2];exact aD _ _ rfl) aB rfl rfl (by simp) (by simp) (fun j h1 h2=>by
    match j,h1 with
    |0,_=>rfl
    |1,_=>rfl
    |2,_=>rfl))
  have HG2:=hid (Vm.aeM (other:=other) (m:=1+(m0:Int)) HD.out (by have:=HM.out;omega) (by omega));have bB:=bq aW hb2;have HW2:=hid hw2;clear hw2 hb2 hot;go_upto_region 14 with fail;rw[<-HW2.out];clear hm0;go_wp2_with fail;refine(adG k f (-1) 0 op n code w2).mono ?_;rintro e w3 ⟨u3,rfl,ho,hb3⟩;have HLb:=hid (Vm.aem HD.out);obtain⟨lp,hlp⟩:=nmE (Vm.adl k f (-1) 0 op n code);rw[<-hlp] at ho HG2 HLb;have afh:lp.length=10:=HLb.out.1;clear hlp
  obtain⟨a3,c3,rfl⟩:∃a3 c3,u3=.slice a3 10 c3:=by
   obtain⟨x1,x2,e, -⟩:=ho.form;exact⟨x1,x2,by rw[e,afh]⟩
  obtain⟨g3,rfl, -,hg3, -, -⟩:=ho.sW (by omega);have sP:=hid hg3;have HO0:Hid (adk w2.heap.size w3 (.slice (some ⟨g3,0,none⟩) 10 c3) ((lp.take 0).map Vm.adj++lp.drop 0)):=hid (by simpa using ho);have bG:Hid (BL w2 w3):=hid hb3;have aeO:=hid afh;clear ho hb3 hg3 afh;go_wp2;go_loopw [15] (fun i wr=>∃j:Nat,j<=10/\i=.int .i64 (j:Int)/\Hid (adk w2.heap.size wr (.slice (some ⟨g3,0,none⟩) 10 c3) ((lp.take j).map Vm.adj++lp.drop j))/\Hid (BL w2 wr)) (fun i _=>10-(intOf i).toNat);case atStart=>exact⟨0,Nat.zero_le _,rfl,HO0,bG⟩
  case round=>
   obtain⟨j,hj,rfl,HO,HB⟩:=hrel;by_cases hlt:j<10
   ·have hj0:(0:Int)<=(j:Int):=by omega
    have hj1:(j:Int)<10:=by omega
    have hjl:j<lp.length:=by rw[aeO.out];exact hlt
    obtain⟨us,hu1,kL,hu3⟩:=cG.at HO.out (j:=j) (by simp;omega)
    have hcur:((lp.take j).map Vm.adj++lp.drop j)[j]'(by simp;omega)=lp[j]:=by
     rw[zAr (by simp;omega),List.getElem_drop];exact getElem_congr rfl (by simp;omega) _
    rw[hcur] at hu3;have hset:=Vm.aeZ hjl;have Aj:=hid (Vm.aeL hjl);have kW:=HLb.out.2 _ (zGm hjl);have HFz:=hid (cG.free HO.out)
    have ada:Hid (∀(i:Nat) (y:Vm.Ins) (z:Value),i<4->(Hq lp[j]).set i z=Hq y->adk w2.heap.size (wr.setCell ⟨g3,j*4+i,none⟩ z) (.slice (some ⟨g3,0,none⟩) 10 c3) (((lp.take j).map Vm.adj++lp.drop j).set j y)):=hid (fun i y z hi hy=>
     cG.put zF HO.out (by simp[aeO.out];omega) (by simp;omega) hi y z (fun us h=>by
      have h':us=Hq (((lp.take j).map Vm.adj++lp.drop j)[j]'(by simp;omega)):=h;rw[hcur] at h';subst h';exact hy))
    obtain rfl:us=Hq lp[j]:=hu3;have HS:=hid hset;clear hset hcur hu1;generalize lp[j]=q at*;obtain⟨qo,qa,qb,qc⟩:=q;obtain⟨s1,s2,s3,s4⟩:=kW;simp only at s1 s2 s3 s4;have x0:wr.cell? ⟨g3,j*4,none⟩=some (.int .i64 qo):=kL 0 _ rfl;have x1:wr.cell? ⟨g3,j*4+1,none⟩=some (.int .i64 qa):=kL 1 _ rfl;have x3:wr.cell? ⟨g3,j*4+3,none⟩=some (.int .i64 qc):=kL 3 _ rfl;have z1:wr.frozen? ⟨g3,j*4+1,none⟩=false:=HFz.out _;have z3:wr.frozen? ⟨g3,j*4+3,none⟩=false:=HFz.out _;clear kL;by_cases h6:qo=6
    ·have h7:¬qo=7:=by omega
     have h8:¬qo=8:=by omega
     have e6:(qo==6)=true:=by simpa using h6
     have e7:(qo==7)=false:=by simpa using h7
     have e8:(qo==8)=false:=by simpa using h8
     have HN:Hid (adk w2.heap.size (wr.setCell ⟨g3,j*4+1,none⟩ (.int .i64 (qa+3))) (.slice (some ⟨g3,0,none⟩) 10 c3) ((lp.take (j+1)).map Vm.adj++lp.drop (j+1))):=hid (by
      rw[HS.out]
      exact ada.out 1 _ (.int .i64 (qa+3)) (by omega) (by simp[Hq,Vm.adj,h6]))
     have kN:Hid (BL w2 (wr.setCell ⟨g3,j*4+1,none⟩ (.int .i64 (qa+3)))):=hid (HB.out.setCell sP.out _);subst h6;go_wp2;go_roundw;case rel=>exact⟨j+1,by omega,by go_num,HN,kN⟩
     simp[intOf];omega
    ·by_cases h7:qo=7
     ·subst h7
      have e6:((7:Int)==6)=false:=rfl
      have HN:Hid (adk w2.heap.size (wr.setCell ⟨g3,j*4+3,none⟩ (.int .i64 (qc+3))) (.slice (some ⟨g3,0,none⟩) 10 c3) ((lp.take (j+1)).map Vm.adj++lp.drop (j+1))):=hid (by
       rw[HS.out]
       exact ada.out 3 _ (.int .i64 (qc+3)) (by omega) (by simp[Hq,Vm.adj]))
      have kN:Hid (BL w2 (wr.setCell ⟨g3,j*4+3,none⟩ (.int .i64 (qc+3)))):=hid (HB.out.setCell sP.out _);go_wp2;go_roundw;case rel=>exact⟨j+1,by omega,by go_num,HN,kN⟩
      simp[intOf];omega
     ·by_cases h8:qo=8
      ·subst h8
       have e6:((8:Int)==6)=false:=rfl
       have HN:Hid (adk w2.heap.size (wr.setCell ⟨g3,j*4+3,none⟩ (.int .i64 (qc+3))) (.slice (some ⟨g3,0,none⟩) 10 c3) ((lp.take (j+1)).map Vm.adj++lp.drop (j+1))):=hid (by
        rw[HS.out]
        exact ada.out 3 _ (.int .i64 (qc+3)) (by omega) (by simp[Hq,Vm.adj]))
       have kN:Hid (BL w2 (wr.setCell ⟨g3,j*4+3,none⟩ (.int .i64 (qc+3)))):=hid (HB.out.setCell sP.out _);go_wp2;go_roundw;case rel=>exact⟨j+1,by omega,by go_num,HN,kN⟩
       simp[intOf];omega
      ·have e6:(qo==6)=false:=by simpa using h6
       have e7:(qo==7)=false:=by simpa using h7
       have e8:(qo==8)=false:=by simpa using h8
       have HN:Hid (adk w2.heap.size wr (.slice (some ⟨g3,0,none⟩) 10 c3) ((lp.take (j+1)).map Vm.adj++lp.drop (j+1))):=hid (by
        rw[Aj.out (by simp[Vm.adj,h6,h7,h8])]
        exact HO.out)
       have kN:=HB;go_wp2;go_roundw;case rel=>exact⟨j+1,by omega,by go_num,HN,kN⟩
       simp[intOf];omega
   ·obtain rfl:j=10:=by omega
    have HQ:Hid (adk w2.heap.size wr (.slice (some ⟨g3,0,none⟩) 10 c3) (lp.map Vm.adj)):=hid (by
     have:=HO.out
     rw[zTl (by rw[aeO.out];exact aB),List.drop_of_length_le (by rw[aeO.out];exact aB),List.append_nil] at this
     exact this)
    have xU:Hid (dA 4 (abd (fun _=>False)) (·<wr.heap.size) wr (.slice (some ⟨g3,0,none⟩) 10 c3) (lp.map Vm.adj)):=hid (tq HQ.out);have HO4:Hid (adk w1.heap.size wr (.slice (some ⟨w1.heap.size,0,none⟩) 3 3) [⟨4,6,other,0⟩,⟨1,5,1+(m0:Int),0⟩,⟨7,6,5,13⟩]):=hid (cG.keep zF HO3.out (fun b _ hl=>HB.out.block b hl));have iP:=bq bB HB.out
    have hone:∀us (y:Vm.Ins),abd (fun _=>False) wr us y->∀u∈us,u.oneCell'=true:=fun us y h=>by
     obtain rfl:us=Hq y:=h;exact adx
    have hbase:w1.heap.size<=wr.heap.size:=by
     have h1:=(cG.lt HO4.out w1.heap.size rfl).2;omega
    have hls:([⟨4,6,other,0⟩,⟨1,5,1+(m0:Int),0⟩,⟨7,6,5,13⟩]:List Vm.Ins).length+(lp.map Vm.adj).length<=1000000000:=by
     rw[zLm,aeO.out];simp
    go_wp2_with (at_builtin;go_must (refine gq (ys:=lp.map Vm.adj) zF rfl _ _ rfl Tryz.aeI rfl HO4.out rfl xU.out (fun _ _ h=>h.elim) hone hls hbase ?_));intro v' w7 how ht hn;obtain⟨a',c',rfl, -⟩:=how.form;have HO7:=hid how;have lP:Hid (BL w w7):=hid (iP.out.trans (ht.below iP.out.size (fun b hb=>by cases hb;exact aW.out.size)));clear how ht hn hone hbase hls;go_wp2;go_ret;exact hid ⟨_,_,rfl,HG2.out,tq HO7.out,lP.out⟩
 ·go_wp2_with fail
  refine(pT.out w1 6 9 aW.out (by omega) (by omega) (by omega)).mono ?_;rintro e w' ⟨many,rfl,hmany,rfl⟩;go_wp2;go_loopw [16,18] (fun sp si wr=>∃(j:Nat) (p:List Vm.Ins) (am:Option Addr) (cm:Nat),j<=many/\sp=.slice am j cm/\si=.int .i64 (j:Int)/\Hid (p.length=j)/\Hid (adk w1.heap.size wr (.slice am j cm) p)/\Hid (∀i∈p,Vm.pY many i=true/\Vm.gG x i=true)/\Hid (BL w1 wr)) (fun _ si _=>many-(intOf si).toNat);case atStart=>exact⟨0,[],none,0,Nat.zero_le _,rfl,rfl,hid rfl,hid (cG.nil _ _ _ _ _ _),hid (fun _ h=>by simp at h),hid aj⟩
  case round=>
   obtain⟨j,p,am,cm,hj,rfl,rfl,HPl,HPo,HPg,Qm⟩:=hrel;have FL:=bq aW Qm.out;by_cases hlt:j<many
   ·have hjm:(j:Int)<(many:Int):=by omega
    have hj8:(j:Int)<=8:=by omega
    go_wp2_with fail;refine(pT.out wr (7+4*(j:Int)) 9 FL.out (by omega) (by omega) (by omega)).mono ?_;rintro e w' ⟨o,rfl,ho,rfl⟩;go_wp2;generalize LY:wr=Wb at*;go_loopw [20,21] (fun sv st wr=>∃(t:Nat) (vs:List Int) (av:Option Addr) (cv:Nat),t<=3/\sv=.slice av t cv/\st=.int .i64 (t:Int)/\Hid (vs.length=t)/\Hid (cF (Wb.heap.size<=·) wr (.slice av t cv) vs)/\Hid (∀q (h:q<vs.length),Vm.Cm k f many (Vm.dN o q) vs[q])/\Hid (BL Wb wr)) (fun _ st _=>3-(intOf st).toNat);case atStart=>exact⟨0,[],none,0,Nat.zero_le _,rfl,rfl,hid rfl,hid (cF.nil _ _),hid (fun _ h=>by simp at h),hid aj⟩
    case round=>
     obtain⟨t,vs,av,cv,ht,rfl,rfl,HVl,HVo,HVn,HBt⟩:=hrel;have HBx:=bq FL HBt.out;by_cases hlt2:t<3
     ·have ht3:(t:Int)<3:=by omega
      go_wp2_with fail;refine(pT.out wr (8+4*(j:Int)+(t:Int)) 720 HBx.out (by omega) (by omega) (by omega)).mono ?_;rintro e w' ⟨m7,rfl,NE,rfl⟩;have HNk:Hid (0<=(k:Int)/\(k:Int)<=5/\0<=(f:Int)/\(f:Int)<=9/\0<=(many:Int)/\(many:Int)<=8):=hid (by have:=HFx.out.k6;have:=(HFx.out.f k hkx).2;have:=VD.out;have:=HM.out;omega);have ZL:Hid (0<=(m7:Int)/\(m7:Int)<720):=hid ⟨by omega,NE⟩;have hm70:(0:Int)<=(m7:Int):=by omega
      go_wp2_with fail;refine(aen wr).mono ?_;rintro e w4 ⟨rfl,hb4,hs4⟩;have dO:Hid (BL wr w4):=hid hb4;have hso:=hs4 o (by omega);have Vu:(0:Int)<=(o:Int):=by omega
      have ho9:(o:Int)<9:=by omega
      have ht0:(0:Int)<=(t:Int):=by omega
      obtain⟨so,ae0⟩:=nmE (aey.getD o ⟨#[]⟩);have A5:so.size=3:=by rw[ae0];exact(ad6 o (by omega) t hlt2).1
      have hts:t<so.size:=by omega
      have aeP:=(ad6 o (by omega) t hlt2).2;rw[<-ae0] at hso
      have hcc:∃cc:Nat,cc=(so[t]'hts).toNat/\cc=adH o t:=⟨_,rfl,by
       unfold adH
       rw[<-ae0]
       have h1:so.data.getD t 0=so[t]'hts:=by
        rw[Array.getD_eq_getD_getElem?,Array.getElem?_eq_getElem (by exact hts)];rfl
       rw[h1]⟩
      obtain⟨cc,afi,afz⟩:=hcc;rw[<-afz] at aeP;have ae1:=hid aeP;clear ae0 hs4 afz hb4 A5 aeP;go_upto_block 7 with fail;rw[<-afi];go_cut [22] from 144 to 189 (fun q wx=>∃vv:Int,q=.int .i64 vv/\Hid (Vm.Cm k f many (Vm.dN o t) vv)/\w4=wx)
      case first=>
       clear afi hso hts;have aeP:=ae1.out;rcases aeP with⟨hq1,xY⟩|⟨hq1,xY⟩|⟨hq1,xY⟩|⟨hq1,xY⟩|⟨hq1,xY⟩|⟨hq1,xY⟩|⟨hq1,xY⟩
       ·have hcc:cc=99:=hq1
        subst hcc
        have yd:Hid (Vm.Cm k f many (Vm.dN o t) ((m7:Int) % 4)):=hid (by
         have h1:=HNk.out
         have h2:=ZL.out
         rw[xY]
         unfold Vm.Cm Vm.vA Vm.zy
         refine⟨⟨?_,?_⟩,?_,?_⟩<;>simp<;>omega)
        clear hq1 xY;go_wp2;go_meet;case rel=>exact⟨_,rfl,yd,rfl⟩
       ·have hcc:cc=114:=hq1
        subst hcc
        have yd:Hid (Vm.Cm k f many (Vm.dN o t) ((m7:Int) % 8)):=hid (by
         have h1:=HNk.out
         have h2:=ZL.out
         rw[xY]
         unfold Vm.Cm Vm.vA Vm.zy
         refine⟨⟨?_,?_⟩,?_,?_⟩<;>simp<;>omega)
        clear hq1 xY;go_wp2;go_meet;case rel=>exact⟨_,rfl,yd,rfl⟩
       ·have hcc:cc=110:=hq1
        subst hcc
        have yd:Hid (Vm.Cm k f many (Vm.dN o t) ((m7:Int) % 9-2)):=hid (by
         have h1:=HNk.out
         have h2:=ZL.out
         rw[xY]
         unfold Vm.Cm Vm.vA Vm.zy
         refine⟨⟨?_,?_⟩,?_,?_⟩<;>simp<;>omega)
        clear hq1 xY;go_wp2;go_meet;case rel=>exact⟨_,rfl,yd,rfl⟩
       ·have hcc:cc=107:=hq1
        subst hcc
        have yd:Hid (Vm.Cm k f many (Vm.dN o t) ((k:Int))):=hid (by
         have h1:=HNk.out
         have h2:=ZL.out
         rw[xY]
         unfold Vm.Cm Vm.vA Vm.zy
         refine⟨⟨?_,?_⟩,?_,?_⟩<;>simp<;>omega)
        clear hq1 xY;go_wp2;go_meet;case rel=>exact⟨_,rfl,yd,rfl⟩
       ·have hcc:cc=102:=hq1
        subst hcc
        have yd:Hid (Vm.Cm k f many (Vm.dN o t) ((f:Int))):=hid (by
         have h1:=HNk.out
         have h2:=ZL.out
         rw[xY]
         unfold Vm.Cm Vm.vA Vm.zy
         refine⟨⟨?_,?_⟩,?_,?_⟩<;>simp<;>omega)
        clear hq1 xY;go_wp2;go_meet;case rel=>exact⟨_,rfl,yd,rfl⟩
       ·have hcc:cc=105:=hq1
        subst hcc;have hm8:¬((many:Int)+1=0):=by omega
        have hm9:(0:Int)<=(many:Int)/\(many:Int)<=8:=⟨by omega,by omega⟩;obtain⟨hm10,hm11⟩:=hm9
        have yd:Hid (Vm.Cm k f many (Vm.dN o t) ((m7:Int) % ((many:Int)+1))):=hid (by
         have h1:=HNk.out
         have h2:=ZL.out
         have h5:=Int.emod_lt_of_pos (m7:Int) (show (0:Int)<(many:Int)+1 by omega)
         have h6:=Int.emod_nonneg (m7:Int) (show ((many:Int)+1)≠0 by omega)
         rw[xY]
         unfold Vm.Cm Vm.vA Vm.zy
         refine⟨⟨?_,?_⟩,?_,?_⟩<;>simp<;>omega)
        clear hq1 xY;go_wp2;go_meet;case rel=>exact⟨_,rfl,yd,rfl⟩
       ·have hcc:cc=45:=hq1
        subst hcc
        have yd:Hid (Vm.Cm k f many (Vm.dN o t) (0)):=hid (by
         have h1:=HNk.out
         have h2:=ZL.out
         rw[xY]
         unfold Vm.Cm Vm.vA Vm.zy
         refine⟨⟨?_,?_⟩,?_,?_⟩<;>simp<;>omega)
        clear hq1 xY;go_wp2;go_meet;case rel=>exact⟨_,rfl,yd,rfl⟩
      case rest=>
       obtain⟨vv,rfl,yd,rfl⟩:=hcut;have HV4:=hid (bg.keep HVo.out (aA.below dO.out));have Na:Wb.heap.size<=w4.heap.size:=Nat.le_trans HBt.out.size dO.out.size;go_wp2_with (at_builtin;go_must (refine gZ rfl _ _ rfl Tryz.Nr rfl HV4.out (aj.alloc aB _) rfl (lF yQ w4 _ vv rfl trivial) (by have:=HVl.out;omega) ?_));intro v' w8 hI8 A4;have hl2:(vs++[vv]).length=t+1:=by rw[zLa,HVl.out];rfl
       obtain⟨a2,c2,rfl, -, -, -⟩:=(cF.sl hI8).form;rw[hl2] at hI8 ⊢;have afe:=hid hl2;have HVo2:Hid (cF (Wb.heap.size<=·) w8 (.slice a2 (t+1) c2) (vs++[vv])):=hid (bg.mono hI8 (fun b _ hb=>eO (by omega) b hb));have HBt2:Hid (BL Wb w8):=hid (((tnB HBt.out dO.out).alloc (by omega) _).trans (A4.below (by simp;omega) (fun b hb=>HV4.out.2 b hb.symm)))
       have HVn2:Hid (∀q (h:q<(vs++[vv]).length),Vm.Cm k f many (Vm.dN o q) (vs++[vv])[q]):=hid (fun q hq=>by
        by_cases hqv:q<vs.length
        ·rw[zAl hqv];exact HVn.out q hqv
        ·have e:q=t:=by have:=HVl.out;rw[zLa] at hq;simp at hq;omega
         rw[zAr (by omega)];simp only[List.getElem_singleton];rw[e];exact yd.out)
       clear hI8 A4 hl2 HV4 Na afi hso hts;go_wp2;go_roundw;case rel=>exact⟨t+1,vs++[vv],a2,c2,by omega,rfl,by go_num,afe,HVo2,HVn2,HBt2⟩
       simp[intOf];omega
     ·obtain rfl:t=3:=by omega
      obtain⟨va,vb,vc,rfl⟩:∃a b c,vs=[a,b,c]:=by
       have:=HVl.out;match vs,this with
       |[a,b,c],_=>exact⟨a,b,c,rfl⟩
      have HGd:Hid (Vm.pY many ⟨o,va,vb,vc⟩=true/\Vm.gG x ⟨o,va,vb,vc⟩=true):=hid (Vm.aeN HD.out ⟨by omega,by omega⟩ (HVn.out 0 (by simp)) (HVn.out 1 (by simp)) (HVn.out 2 (by simp)))
      obtain⟨hav,hcs⟩:dG av 3/\(∀j:Nat,∀h:j<3,∀X,BL wr X->X.cell? ⟨aY av,bC av+j,none⟩=some (.int .i64 ([va,vb,vc][j]'h))):=by
       have hsl:=cF.sl HVo.out;obtain⟨_,_,e,h1, -⟩:=hsl.form;cases e;refine⟨h1,fun j hj X hX=>?_⟩;obtain⟨u',h2,h3⟩:=(bO.keep hsl (aA.below hX)).at (j:=j) (by exact hj);rw[h2,h3.2]
      have Bj:=hqC wr ⟨aY av,bC av,none⟩ (.int .i64 va) fun xh=>hcs 0 (by omega) xh.1 xh.2;have hq1:=hqC wr ⟨aY av,bC av+1,none⟩ (.int .i64 vb) fun xh=>hcs 1 (by omega) xh.1 xh.2;have xY:=hqC wr ⟨aY av,bC av+2,none⟩ (.int .i64 vc) fun xh=>hcs 2 (by omega) xh.1 xh.2;clear hcs;go_upto_region 50 with fail;refine agf wr 13 (.quiet 0 (.quiet 1 (.quiet 2 (.quiet 3 (.quiet 4 (.quiet 5 (.quiet 6 (.quiet 7 (.quiet 8 (.quiet 9 (.quiet 10 (.quiet 11 (.one 12 .done))))))))))))) mxT (by kernel_rfl) fun wq HBq=>?_
      iterate 12
       refine ai rfl ?_
       intro hne
       go_big_quiet_step (fail)
       refine zWq ?_
       clear hne
      refine aH rfl ?_;go_wp2_with fail;refine aC (BL wr) (fun _ h=>h) (HBq.out.alloc HBq.out.size _) ?_;refine aL ?_;try simp only[zDs,zDz]
      clear Bj hq1 xY;have afj:Hid (BL Wb wq):=hid (tnB HBt.out HBq.out);have HOq:Hid (adk w1.heap.size wq (.slice am j cm) p):=hid (cG.keep zF HPo.out (fun b hb hl=>afj.out.block b hl));have hbz:w1.heap.size<=wq.heap.size:=Nat.le_trans Qm.out.size afj.out.size;have kW:p.length+1<=1000000000:=by rw[HPl.out];omega
      go_wp2_with (at_builtin;go_must (refine cD zF rfl _ _ rfl Tryz.aeI rfl HOq.out (us:=[.int .i64 o,.int .i64 va,.int .i64 vb,.int .i64 vc]) rfl rfl rfl ⟨o,va,vb,vc⟩ rfl adx kW hbz ?_));intro v' w6 how ht hn;have afk:(p++[(⟨(o:Int),va,vb,vc⟩:Vm.Ins)]).length=j+1:=by rw[zLa,HPl.out];rfl
      obtain⟨a',c',rfl⟩:∃a' c',v'=.slice a' (j+1) c':=by
       obtain⟨a1,c1,e, -⟩:=how.form;exact⟨a1,c1,by rw[e,afk]⟩
      have zu:=hid how;have HPl2:=hid afk;have bB:Hid (BL w1 w6):=hid ((tnB Qm.out afj.out).trans (ht.below hbz (fun b hb=>(cG.lt HOq.out b hb.symm).1)))
      have HPg2:Hid (∀i∈p++[(⟨(o:Int),va,vb,vc⟩:Vm.Ins)],Vm.pY many i=true/\Vm.gG x i=true):=hid (fun i hi=>by
       rcases List.mem_append.1 hi with hi|hi
       ·exact HPg.out i hi
       ·rw[zMs] at hi
        subst hi;exact HGd.out)
      clear how ht hn kW hbz HOq afk;go_wp2;go_roundw;case rel=>exact⟨j+1,_,a',c',by omega,rfl,by go_num,HPl2,zu,HPg2,bB⟩
      simp[intOf];omega
   ·obtain rfl:j=many:=by omega
    have HGo:Hid (Vm.adz x p):=hid (Vm.adz.mk (by rw[HPl.out];omega) (by rw[HPl.out];exact HPg.out));go_wp2;go_ret;exact hid ⟨_,_,rfl,HGo.out,tq HPo.out,FL.out⟩
 ·obtain⟨fk,x4⟩:∃fk,w1.cell? ⟨aY af,bC af+f*8+3,none⟩=some (.int .i64 fk)/\fk=(ah.fd x k f).kind:=by
   have:=dh.at Iu.out (j:=f) (by have:=VD.out;omega)
   exact⟨_,this.2.2.2.2.2.1,by rw[afg (by have:=VD.out;omega)]⟩
  obtain⟨x4,nU⟩:=x4;have Kl:=hid nU;clear nU;by_cases hr1:fk=1
  ·have A1:f<(ah.kd x k).af4.length:=by have:=VD.out;omega
   have afd:=HRu.out k f hkx A1 (Kl.out.symm.trans hr1);have afA:=ah.vo x k f hk0;have HU:=hid (PU.out w1 k f aW.out (by omega) (by omega));obtain⟨up,hup⟩:∃up:Nat,ah.dB x k f=(up:Int):=⟨(ah.dB x k f).toNat,by omega⟩;rw[hup] at HU afA;have afl:up<x.af3.length:=by omega
   obtain⟨uf2,afc,afm⟩:=HKn.out up afl;obtain⟨af2,cf2,rfl, -, -, -⟩:=afc.form;obtain⟨nf2,afn⟩:=nmE ((ah.kd x up).af4.length);have HNf2:=hid afn;have hg1:(1:Int)<=(nf2:Int):=by have:=(HFx.out.f up afl).1;omega
   have hg2:(nf2:Int)<=10:=by have:=(HFx.out.f up afl).2;omega
   rw[<-afn] at afm;have HCf2:=hid afm;have hu0:(0:Int)<=(up:Int):=by omega
   have hu1:(up:Int)<(m:Int):=by have:=HM.out;omega
   clear hup afd afA afn afm afc A1;subst hr1;go_wp2_with fail;refine HU.out.mono ?_;rintro e w2 ⟨rfl,hb2⟩;have bB:=bq aW hb2;have cU:=hid hb2;clear hb2 y0 y1 y2 y3 x3 x4;obtain⟨⟨y0,y1,y2,y3⟩, -⟩:=aO (HX.out w2 cU.out);have x3:w2.cell? ⟨aY ak,bC ak+up*4+3,none⟩=some (.slice af2 nf2 cf2):=HCf2.out w2 cU.out;go_wp2_with fail;refine(pT.out w2 6 nf2 bB.out hg1 (by omega) (by omega)).mono ?_;rintro e w' ⟨g,rfl,hg,rfl⟩;have HG:Hid (Vm.afx x up g):=hid (.inr ⟨by omega,by omega,by have:=HNf2.out;omega,by omega⟩);clear hg hg1 hg2 hu1;go_wp2_with fail;refine(adG k f up g op n code w2).mono ?_;rintro e w5 ⟨u5,rfl,ho,hb⟩;have Yf:=hid ho;have dP:=bq bB hb;clear ho hb;go_wp2;go_ret;exact hid ⟨_,_,rfl,Vm.adM HD.out HG.out,tq Yf.out,dP.out⟩
  ·have xR:(fk==1)=false:=by simpa using hr1
   go_wp2_with fail;refine(adG k f (-1) 0 op n code w1).mono ?_;rintro e w5 ⟨u5,rfl,ho,hb⟩;have Yf:=hid ho;have dP:=bq aW hb;clear ho hb;go_wp2;go_ret;exact hid ⟨_,_,rfl,Vm.adM HD.out (.inl (by omega)),tq Yf.out,dP.out⟩
 ·have hs0:¬(sw:Int)=0:=by omega
  have hs1:¬(sw:Int)=1:=by omega
  have hs2:¬(sw:Int)=2:=by omega
  have hs3:¬(sw:Int)=3:=by omega
  have hs4:¬sw=0:=by omega
  have hs5:¬sw=1:=by omega
  have hs6:¬sw=2:=by omega
  have hs7:¬sw=3:=by omega
  go_wp2_with fail;refine(adG k f (-1) 0 op n code w1).mono ?_;rintro e w5 ⟨u5,rfl,ho,hb⟩;have Yf:=hid ho;have dP:=bq aW hb;clear ho hb;go_wp2;go_ret;exact hid ⟨_,_,rfl,Vm.adM HD.out (.inl (by omega)),tq Yf.out,dP.out⟩
theorem adN(x:ah.bD)(W:ah.bK)(p:List Vm.Ins)(n:Int)(hn:sM n)(s:Sub.S)(hc:aF.jD x W s=0)(hval:Sub.valid (aF.wr x W) s=true)(jM:QW x W)
  (afo:(Vm.jK x (aF.iW x W s) p n).2.2=0\/(Vm.jK x (aF.iW x W s) p n).2.2=23)
  (v u pv t:Value)(U:Nat->Prop)(tb B:Nat)(w:World)(ha:l6 tb x W v u B w)(hp:nG (·<B) w pv p)(hs:aP U w t s):
  Calls Tryz.prog 32 #[v,u,pv,.int .i64 n,t] w fun e w'=>e=.returned (.int .i64 (aF.jI x W p n s))/\BL w w':=by
 have HFp:=hid (aF.Pc (x:=x) (W:=aF.iW x W s) (MK hc) (aF.Me (gy hc).1 hval));obtain⟨ak,ck,al,cl,ar,cr,rfl, -⟩:=ha.vY.form;obtain⟨w1,hw1⟩:=nmE (bE w x.af6 (.slice ak x.af3.length ck) (.slice al x.af7.length cl) (.slice ar x.af8.length cr));have aW:=afX hw1;have HX:=afY hw1;unfold bE at hw1;have HW1:=hid hw1;have HWd:=hid (Ju x W s hc hval jM _ u t U tb B w1 (ha.next aW.out) (aP.keep hs (aA.below aW.out)));have HRn:=hid (fun(X:World) (r:Value) (S:Nat->Prop) (hX:BL w X) (hr:dc S X r (aF.iW x W s))=>DK x (aF.iW x W s) p n hn.1 hn.2 HFp.out.len HFp.out.jc 141 _ _ r _ pv _ _ X (ha.next hX).vY (hp.keep (aA.below hX)) (aez (aF.iW x W s) r S X hr));have Gp:Hid (aF.jI x W p n s=if (Vm.jK x (aF.iW x W s) p n).2.2=0 then (Vm.jK x (aF.iW x W s) p n).1 else -1):=hid rfl;obtain⟨at',ct,rfl, -, -, -⟩:=hs.form;obtain⟨aw,cw,rfl, -, -, -⟩:=ha.sG.form;obtain⟨ap,cp,rfl, -, -, -⟩:=hp.form;generalize aF.jI x W p n s=cd at*;generalize Vm.jK x (aF.iW x W s) p n=rr at*;obtain⟨r1,r2,r3⟩:=rr;simp only at Gp afo;have HEr:=hid afo;generalize aF.iW x W s=W2 at*;clear hs ha hp hc hval jM hn afo hw1;obtain⟨⟨y0,y1,y2,y3⟩, -⟩:=aO (HX.out w1 aj);go_enter Tryz.func32,Tryz.ntmps32;go_upto_region 1 with fail;rw[<-HW1.out];go_wp2_with fail;refine HWd.out.mono ?_;rintro e w2 ⟨r,rfl,hwf,hb2⟩;have cU:Hid (BL w1 w2):=hid hb2;have bB:=bq aW hb2;have Cy:=hid (HRn.out w2 r _ bB.out hwf.sl);obtain⟨a2,l2,c2,rfl⟩:∃a l c,r=.slice a l c:=by obtain⟨a,c,e, -⟩:=hwf.sl.form;exact⟨_,_,_,e⟩
 clear hwf hb2 y0 y1 y2 y3;obtain⟨⟨y0,y1,y2,y3⟩, -⟩:=aO (HX.out w2 cU.out);go_wp2_with fail;refine Cy.out.mono ?_;rintro e w3 ⟨rfl,hb3⟩;have bG:=bq bB hb3;clear hb3 y0 y1 y2 y3;rcases HEr.out with h0|h0
 ·subst h0
  have Nj:Hid (cd=r1):=hid (by rw[Gp.out,if_pos rfl]);go_wp2;go_ret;exact⟨by rw[Nj.out];rfl,bG.out.trans (aj.alloc (bG.out.size) _)⟩
 ·subst h0
  have Nj:Hid (cd= -1):=hid (by rw[Gp.out,if_neg (by omega)]);go_wp2;go_ret;exact⟨by rw[Nj.out];rfl,bG.out.trans (aj.alloc (bG.out.size) _)⟩
namespace Vm
open ah (bK bD)
theorem aeg(W:bK)(p:List Ins):∀(f at':Nat) (r:List Int) (n:Nat),(oW W p f at' r n).2.2=0\/(oW W p f at' r n).2.2=23
 |0,at',_,n=>by
  unfold oW;split
  ·exact .inl rfl
  ·exact .inr rfl
 |f+1,at',r,n=>by
  unfold oW;split
  ·exact .inl rfl
  ·split
   ·exact .inl rfl
   ·exact aeg W p f _ _ _
theorem adI{x:bD}{p:List Ins}(h1:dr p=0)(h2:pZ x p=true)(W:bK){n:Int}(hn:0<=n/\n<=1000000):(jK x W p n).2.2=0\/(jK x W p n).2.2=23:=by
 unfold jK;rw[if_neg (by omega),if_neg (by omega),if_neg (by rw[h2];simp)];exact aeg W p _ _ _ _
theorem aeQ(x:bD)(W:bK){n:Int}(hn:0<=n/\n<=1000000):(jK x W [] n).2.2=0:=by
 unfold jK;rw[if_neg (by simp[dr]),if_neg (by omega),if_neg (by simp[pZ])];cases n.toNat<;>rfl
end Vm
theorem adJ{x:ah.bD}{p:List Vm.Ins}(h1:Vm.dr p=0)(h2:Vm.pZ x p=true)(W:ah.bK){n:Int}(hn:0<=n/\n<=1000000):aF.l8 x W p n=0:=by
 unfold aF.l8;rw[if_neg (by omega),if_neg (by rw[Vm.aeQ x W hn];omega),if_neg];rintro ⟨g1,g2⟩;rcases Vm.adI (x:=x) h1 h2 W (n:=min n 1) (by omega) with h|h
 ·exact g1 h
 ·exact g2 h
theorem adC{x:ah.bD}{W:ah.bK}(h:ah.yE x W):QW x W:=fun k i j _=>by
 unfold aF.mq;by_cases hk:k<W.length
 ·rw[Sub.aR hk]
  by_cases hi:i<W[k].length
  ·rw[Sub.aR hi]
   by_cases hj:j<(W[k][i]).length
   ·rw[Sub.aR hj]
    have:=((h.jc k hk _ (zGm hi)).2 j hj).2;omega
   ·rw[Sub.gU (by omega)];omega
  ·rw[Sub.gU (xs:=W[k]) (by omega)];simp
 ·rw[Sub.gU (xs:=W) (by omega)];simp
theorem aF.ae2{K:Nat}{n m:Nat->Nat}{f:Nat->Nat->Nat->Int}{k i j:Nat}(h:¬(k<K/\i<n k/\j<m k)):aF.mq (aF.tab K n m f) k i j=0:=by
 unfold aF.mq;by_cases hk:k<K
 ·rw[aF.z8 hk]
  by_cases hi:i<n k
  ·rw[Sub.aR (xs:=(List.range (n k)).map fun i=>(List.range (m k)).map fun j=>f k i j) (by simpa using hi),Sub.gU (by simp;omega)]
  ·rw[Sub.gU (xs:=List.map _ _) (by simp;omega)];simp
 ·rw[Sub.gU (xs:=aF.tab K n m f) (by rw[aF.oD];omega)];simp
theorem aeF{x:ah.bD}{W:ah.bK}(s:Sub.S)(h:QW x W):QW x (aF.iW x W s):=fun k i j h7=>by
 by_cases hc:k<W.length/\i<aF.dK s k (aF.bH W k)/\j<(ah.kd x k).af4.length
 ·rw[aF.adE hc.1 hc.2.1 hc.2.2,aF.adU (by omega) (by omega)]
  exact h k _ j h7
 ·have:aF.mq (aF.iW x W s) k i j=0:=aF.ae2 hc
  rw[this];omega
theorem aeb{x:ah.bD}(hg:ah.BX x):afy x:=by
 obtain⟨h1,h2⟩:=aF.qL (ah.Sn hg);obtain⟨h3, -, -,h4⟩:=aF.qd h1;refine⟨hg.some,h3,fun k hk=>⟨?_,?_⟩⟩
 ·have h5:=(h2 k hk).1
  unfold ah.yV at h5;split at h5
  ·omega
  ·split at h5
   ·omega
   ·rename_i h6
    rw[not_or] at h6;omega
 ·rw[fM hk]
  exact(aF.lS (h4 _ (zGm hk))).1
theorem aF.iD.less{x:ah.bD}{W:ah.bK}{l:List Sub.S}(h:aF.iD x W l){i m:Nat}(hi:i<l.length)(hm:m<l.length):Sub.less (aF.shape W) l[i] l[m]=decide (i<m):=by
 by_cases e:i<m
 ·rw[aF.vQ h.sorted hi hm e,decide_eq_true e]
 ·rw[decide_eq_false e]
  by_cases e2:i=m
  ·subst e2;exact Sub.kG _ _
  ·exact Sub.zx (aF.vQ h.sorted hm hi (by omega))
theorem ady{N:Nat}{l:List Sub.S}{ge code:Int}{f:Sub.S->Int}{e:Ending}{w':World}(h:Zh N l ge code f e w')(h0:ge=0)(hc:1<=code/\code<=251)(hl:l.length<=400):
  (aF.j4 f code l=none/\e=.returned (.tuple #[KM,.int .i64 6]))\/
  (∃m s,aF.j4 f code l=some m/\l[m]?=some s/\∃us um uc,e=.returned (.tuple #[.agg #[us,.int .i64 code,um,uc],.int .i64 0])/\aP (N<=·) w' us s/\cW N (N<=·) w' um (l.take m)/\cF (N<=·) w' uc ((l.take m).map f)):=by
 rcases h with⟨h1, -⟩|⟨-,h1, -⟩|⟨-, -,h1, -⟩|⟨-, -, -,h1,h2⟩|⟨-, -, -,h1⟩
 ·exact absurd h0 h1
 ·omega
 ·omega
 ·exact .inl ⟨h1,h2⟩
 ·exact .inr h1
theorem aeo{N:Nat}{ge code:Int}{f:Sub.S->Int}{g:Sub.S}{F:Sub.S×Nat}{e:Ending}{w':World}(h:D9 N ge code f g F e w')(h0:ge=0)(hc:1<=code/\code<=251):
  (f g≠code/\e=.returned (.tuple #[.slice none 0 0,.int .i64 0,.int .i64 6]))\/(f g=code/\∃us,e=.returned (.tuple #[us,.int .i64 (F.2:Nat),.int .i64 0])/\aP (N<=·) w' us F.1):=by
 rcases h with⟨h1, -⟩|⟨-,h1, -⟩|⟨-, -,h1,h2⟩|⟨-, -,h1,h2⟩
 ·exact absurd h0 h1
 ·omega
 ·exact .inl ⟨h1,h2⟩
 ·exact .inr ⟨h1,h2⟩
theorem adK{f:Sub.S->Int}{c:Int}{l:List Sub.S}{m:Nat}{s:Sub.S}(h:aF.j4 f c l=some m)(hs:l[m]?=some s):∃hm:m<l.length,l[m]=s/\f s=c/\∀j (hj:j<m),f (l[j]'(by omega))≠c:=by
 obtain⟨hm,h1,h2⟩:=aF.FE h;have e:l[m]=s:=(List.getElem?_eq_some_iff.1 hs).2;exact⟨hm,e,by rw[<-e];exact h1,h2⟩
structure WOk(x:ah.bD)(W:ah.bK):Prop where
 ok:ah.okB x=true
 fit:aF.dF x W=true
 ws:W.length<=1000/\∀r∈W,r.length<=1000000
 tot:ah.total W<=6
 b7:QW x W
theorem WOk.fits{x:ah.bD}{W:ah.bK}(h:WOk x W):aF.xo x W:=(gy (f9 h.ok h.fit (aF.iX W))).1
theorem WOk.part{x:ah.bD}{W:ah.bK}(h:WOk x W){s:Sub.S}(hv:Sub.valid (aF.wr x W) s=true):WOk x (aF.iW x W s) where
 ok:=h.ok
 fit:=aF.Me h.fits hv
 ws:=⟨by rw[aF.adp];exact h.ws.1,fun r hr=>by have h1:=wu r hr;have h2:=aF.I9 x W s;have h3:=h.tot;omega⟩
 tot:=Nat.le_trans (aF.I9 x W s) h.tot
 b7:=aeF s h.b7
theorem WOk.le{x:ah.bD}{W:ah.bK}(h:WOk x W){l:List Sub.S}(hl:aF.iD x W l):l.length<=64:=by
 refine Nat.le_trans hl.le ?_;have:2 ^ ah.total W<=2 ^ 6:=Nat.pow_le_pow_right (by omega) h.tot;omega
theorem ad7{x:ah.bD}{W:ah.bK}(hx:ah.okB x=true)(hlen:W.length=x.af3.length)(s t:Sub.S)(p:List Vm.Ins)(n:Int):aF.jI x (aF.iW x W s) p n t=aF.jI x W p n (aF.lift s t):=by
 unfold aF.jI;rw[aF.aeB hx hlen]
theorem aep{x:ah.bD}{W:ah.bK}(hw:WOk x W)(hlen:W.length=x.af3.length){l l2:List Sub.S}(hl:aF.iD x W l){s:Sub.S}(h2:aF.iD x (aF.iW x W s) l2){p:List Vm.Ins}{n c:Int}{m:Nat}(h:aF.j4 (aF.jI x W p n) c l=some m)(hs:l[m]?=some s):
  ∃m2,aF.j4 (aF.jI x (aF.iW x W s) p n) c l2=some m2/\l2[m2]?=some (aF.Ac (aF.iW x W s)):=by
 obtain⟨hm,e,h3,h4⟩:=adK h hs;have Yx:=(hl.mem s).1 (by rw[<-e];exact zGm _);have hfull:aF.Ac (aF.iW x W s)∈l2:=(h2.mem _).2 ⟨aF.iX _,(aF.adq hw.fits Yx.1 Yx.2 (aF.iX _)).2 (by rw[aF.ad2 Yx.1];exact Yx.2)⟩;obtain⟨m2,hm2,e2⟩:=zMg.1 hfull;refine⟨m2,aF.Mf hm2 ?_ ?_,by rw[zEg hm2,e2]⟩
 ·rw[e2,ad7 hw.ok hlen,aF.ad2 Yx.1]
  exact h3
 ·intro j hj
  have hj2:j<l2.length:=by omega
  have ht:=(h2.mem l2[j]).1 (zGm _)
  have hne:l2[j]≠aF.Ac (aF.iW x W s):=by
   rw[<-e2];intro e3;have:=(List.getElem_inj h2.nodup).1 e3;omega
  rw[ad7 hw.ok hlen];have hlt:=aF.aeD ht.1 hne;have D3:aF.lift s l2[j]∈l:=(hl.mem _).2 ⟨aF.adF Yx.1 _,(aF.adq hw.fits Yx.1 Yx.2 ht.1).1 ht.2⟩;obtain⟨i,hi,e4⟩:=zMg.1 D3
  have hless:Sub.less (aF.shape W) l[i] l[m]=true:=by
   rw[e4,e];exact Sub.nE.2 (.inl hlt)
  rw[hl.less hi hm] at hless;rw[<-e4];exact h4 i (of_decide_eq_true hless)
noncomputable def leB (s u:Sub.S):Bool:= @decide (Sub.le u s) (Classical.propDecidable _)
theorem aec{s u:Sub.S}:leB s u=true↔Sub.le u s:=by unfold leB;exact @decide_eq_true_iff _ (Classical.propDecidable _)
theorem aed{x:ah.bD}{W:ah.bK}(hw:WOk x W){l l2:List Sub.S}(hl:aF.iD x W l){s:Sub.S}(hs:s∈l)(h2:aF.iD x (aF.iW x W s) l2):(l.filter (leB s)).length=l2.length:=by
 have Yx:=(hl.mem s).1 hs;refine aF.aek hw.fits Yx.1 Yx.2 (hl.nodup.filter _) h2.nodup (fun u=>?_) (fun t=>h2.mem t);rw[List.mem_filter,aec,hl.mem];exact⟨fun h=>⟨h.1.1,h.1.2,h.2⟩,fun h=>⟨⟨h.1,h.2.1⟩,h.2.2⟩⟩
theorem aer(s:Sub.S){l:List Sub.S}{k:Nat}(h:k<l.length):((l.take (k+1)).filter (leB s)).length=((l.take k).filter (leB s)).length+if leB s l[k]=true then 1 else 0:=by
 rw[zTs h,List.filter_append,zLa];congr 1;rw[List.filter_cons];split<;>rfl
end Go.Proofs.YtobgljfnfpolkaaGreatDoor
