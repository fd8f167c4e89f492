/- Part 6 of the walks and plain laws that the proof needs (packed). -/
import Derived.Deep.WholeRow
import Derived.Laws.Tables
import Derived.Laws.IdiomStrings
import Derived.Test.YtobgljfnfpolkaaGreatDoorQ4
import Derived.Test.YtobgljfnfpolkaaGreatDoorQ5
set_option linter.all false
set_option maxRecDepth 100000
set_option maxHeartbeats 8000000
namespace Go.Proofs.YtobgljfnfpolkaaGreatDoor
open Go.RowKit
theorem Vq{us:List Value}(h:us.length=2):∃a b,us=[a,b]:=by
 match us,h with
 |[a,b],_=>exact⟨a,b,rfl⟩
theorem Vr{us:List Value}(h:us.length=3):∃a b c,us=[a,b,c]:=by
 match us,h with
 |[a,b,c],_=>exact⟨a,b,c,rfl⟩
theorem Pf{us:List Value}(h:us.length=4):∃a b c d,us=[a,b,c,d]:=by
 match us,h with
 |[a,b,c,d],_=>exact⟨a,b,c,d,rfl⟩
theorem Vs{us:List Value}(h:us.length=5):∃a b c d e,us=[a,b,c,d,e]:=by
 match us,h with
 |[a,b,c,d,e],_=>exact⟨a,b,c,d,e,rfl⟩
theorem Vt{us:List Value}(h:us.length=8):∃a b c d e f g i,us=[a,b,c,d,e,f,g,i]:=by
 match us,h with
 |[a,b,c,d,e,f,g,i],_=>exact⟨a,b,c,d,e,f,g,i,rfl⟩
theorem jE{α:Type}(p:α->Bool)(F:List α):decide (0<=ah.dw p F 0)=F.any p:=by
 rcases ah.gE p F with⟨h1,h2⟩|⟨k,hk,h1,h2,h3⟩
 ·rw[h1]
  have:F.any p=false:=by
   rw[List.any_eq_false];intro x hx;obtain⟨j,hj,rfl⟩:=List.getElem_of_mem hx;rw[h2 j hj];simp
  rw[this];decide
 ·rw[h1,List.any_eq_true.2 ⟨_,zGm hk,h2⟩]
  exact decide_eq_true (by omega)
theorem jF{α:Type}(p:α->Bool)(F:List α):ah.dw p F 0<F.length\/ah.dw p F 0= -1:=by
 rcases ah.gE p F with⟨h1,h2⟩|⟨k,hk,h1,h2,h3⟩
 ·exact .inr h1
 ·exact .inl (by rw[h1];omega)
theorem Pg{α:Type}{RR:(Nat->Prop)->World->List Value->α->Prop}(hR:bV RR)(F:List α)(p:α->Bool)(v:Value)(S:Nat->Prop)(w:World)(hv:dA 8 (RR S) S w v F)(fo:Nat)(lb:Array Value)(lG:∀args w,(callFunc fo args).run Tryz.prog w=.ok (.enter fo args) w)
  (hp:∀X,BL w X->∀j (h:j<F.length) us,us.length=8->RR S X us F[j]->CP fo (#[.agg us.toArray]++lb) X fun e w'=>e=.returned (.bool (p F[j]))/\BL X w'):
  Calls Tryz.prog 147 #[v,.func (.func fo) #[] lb] w fun e w'=>e=.returned (.int .i64 (ah.dw p F 0))/\BL w w':=by
 have HV:=hid hv;obtain⟨a,cap,rfl,hok,hcap,hmax⟩:=hv.form;clear hv;have HP:=hid hp;clear hp;go_enter Tryz.func147,Tryz.ntmps147;go_wp2;go_loopw [8] (fun i wr=>∃k:Nat,k<=F.length/\i=.int .i64 k/\Hid (∀j (h:j<F.length),j<k->p F[j]=false)/\Hid (BL w wr)) (fun i _=>F.length-(intOf i).toNat);case atStart=>exact⟨0,Nat.zero_le _,rfl,hid fun j _ h=>absurd h (by omega),hid aj⟩
 case round=>
  obtain⟨k,hk,rfl,hpre,hb⟩:=hrel;by_cases hlt:k<F.length
  ·have hk0:(0:Int)<=(k:Int):=by omega
   have hk1:(k:Int)<(F.length:Int):=by omega
   obtain⟨-,us,hl,hx,hx2⟩:=(dA.keep hR HV.out (aA.below hb.out)).at hlt;have HC:=hid (HP.out wr hb.out k hlt us hl hx2);obtain⟨u0,u1,u2,u3,u4,u5,u6,u7,rfl⟩:=Vt hl;have y0:wr.cell? ⟨aY a,bC a+k*8,none⟩=some u0:=hx 0 u0 rfl;have y1:wr.cell? ⟨aY a,bC a+k*8+1,none⟩=some u1:=hx 1 u1 rfl;have y2:wr.cell? ⟨aY a,bC a+k*8+2,none⟩=some u2:=hx 2 u2 rfl;have y3:wr.cell? ⟨aY a,bC a+k*8+3,none⟩=some u3:=hx 3 u3 rfl;have y4:wr.cell? ⟨aY a,bC a+k*8+4,none⟩=some u4:=hx 4 u4 rfl;have y5:wr.cell? ⟨aY a,bC a+k*8+5,none⟩=some u5:=hx 5 u5 rfl;have y6:wr.cell? ⟨aY a,bC a+k*8+6,none⟩=some u6:=hx 6 u6 rfl;have y7:wr.cell? ⟨aY a,bC a+k*8+7,none⟩=some u7:=hx 7 u7 rfl;clear hx hx2 hl;have mC:Hid (p F[k]=true->ah.dw p F 0=k):=hid (fun h=>by simpa using ah.fQ (i:=0) hlt (fun j hj hjk=>hpre.out j hj hjk) h)
   have HE2:Hid (p F[k]=false->∀j (h:j<F.length),j<k+1->p F[j]=false):=hid (fun h j hj hjk=>by
    by_cases e:j=k
    ·subst e;exact h
    ·exact hpre.out j hj (by omega))
   obtain⟨pb,hpb⟩:=nmE (p F[k]);rw[<-hpb] at HC mC HE2;clear hpb;cases pb with
   |true=>
    have qf:=hid (mC.out rfl)
    clear mC HE2
    go_wp2_with fail
    refine HC.out.mono ?_
    rintro e w' ⟨rfl,hb2⟩
    have bB:=bq hb hb2
    clear hb2
    go_wp2
    go_ret
    exact⟨by rw[qf.out];rfl,bB.out⟩
   |false=>
    have qf:=hid (HE2.out rfl)
    clear mC HE2
    go_wp2_with fail
    refine HC.out.mono ?_
    rintro e w' ⟨rfl,hb2⟩
    have bB:=bq hb hb2
    clear hb2
    go_wp2
    go_roundw
    case rel=>exact⟨k+1,by omega,by go_num,qf,bB⟩
    simp[intOf];omega
  ·have HE:Hid (ah.dw p F 0= -1):=hid (ah.d9 fun j hj=>hpre.out j hj (by omega))
   obtain rfl:k=F.length:=by omega
   go_wp2;go_ret;exact⟨by rw[HE.out];rfl,hb.out⟩
theorem Sw{α:Type}{RR:(Nat->Prop)->World->List Value->α->Prop}(hR:bV RR)(F:List α)(p:α->Bool)(v:Value)(S:Nat->Prop)(w:World)(hv:dA 8 (RR S) S w v F)(fo:Nat)(lb:Array Value)(lG:∀args w,(callFunc fo args).run Tryz.prog w=.ok (.enter fo args) w)
  (hp:∀X,BL w X->∀j (h:j<F.length) us,us.length=8->RR S X us F[j]->CP fo (#[.agg us.toArray]++lb) X fun e w'=>e=.returned (.bool (p F[j]))/\BL X w'):
  Calls Tryz.prog 223 #[v,.func (.func fo) #[] lb] w fun e w'=>e=.returned (.bool (F.any p))/\BL w w':=by
 have H:=hid (Pg hR F p v S w hv fo lb lG hp);obtain⟨a,cap,rfl, -, -, -⟩:=hv.form;have HZ:=hid (jE p F);have HL:=hid (jF p F);have hg:=ah.iI p F 0;have hm:(F.length:Int)<=9223372036854775807:=by have:=hv.form;obtain⟨_,_,_,_,h1,h2⟩:=this;omega
 clear hv hp;generalize ah.dw p F 0=z at*;generalize F.any p=b at*;have hz2:z<9223372036854775807:=by have:=HL.out;omega
 go_enter Tryz.func223,Tryz.ntmps223;go_wp2_with fail;refine H.out.mono ?_;rintro e w' ⟨rfl,hb⟩;have HB:=hid hb;clear hb;go_wp2;go_ret;exact⟨fT HZ.out,HB.out⟩
theorem Ph{α:Type}{RR:(Nat->Prop)->World->List Value->α->Prop}(hR:bV RR)(F:List α)(p:α->Bool)(v:Value)(S:Nat->Prop)(w:World)(hv:dA 4 (RR S) S w v F)(fo:Nat)(lb:Array Value)(lG:∀args w,(callFunc fo args).run Tryz.prog w=.ok (.enter fo args) w)
  (hp:∀X,BL w X->∀j (h:j<F.length) us,us.length=4->RR S X us F[j]->CP fo (#[.agg us.toArray]++lb) X fun e w'=>e=.returned (.bool (p F[j]))/\BL X w'):
  Calls Tryz.prog 180 #[v,.func (.func fo) #[] lb] w fun e w'=>e=.returned (.int .i64 (ah.dw p F 0))/\BL w w':=by
 have HV:=hid hv;obtain⟨a,cap,rfl,hok,hcap,hmax⟩:=hv.form;clear hv;have HP:=hid hp;clear hp;go_enter Tryz.func180,Tryz.ntmps180;go_wp2;go_loopw [8] (fun i wr=>∃k:Nat,k<=F.length/\i=.int .i64 k/\Hid (∀j (h:j<F.length),j<k->p F[j]=false)/\Hid (BL w wr)) (fun i _=>F.length-(intOf i).toNat);case atStart=>exact⟨0,Nat.zero_le _,rfl,hid fun j _ h=>absurd h (by omega),hid aj⟩
 case round=>
  obtain⟨k,hk,rfl,hpre,hb⟩:=hrel;by_cases hlt:k<F.length
  ·have hk0:(0:Int)<=(k:Int):=by omega
   have hk1:(k:Int)<(F.length:Int):=by omega
   obtain⟨-,us,hl,hx,hx2⟩:=(dA.keep hR HV.out (aA.below hb.out)).at hlt;have HC:=hid (HP.out wr hb.out k hlt us hl hx2);obtain⟨u0,u1,u2,u3,rfl⟩:=Pf hl;have y0:wr.cell? ⟨aY a,bC a+k*4,none⟩=some u0:=hx 0 u0 rfl;have y1:wr.cell? ⟨aY a,bC a+k*4+1,none⟩=some u1:=hx 1 u1 rfl;have y2:wr.cell? ⟨aY a,bC a+k*4+2,none⟩=some u2:=hx 2 u2 rfl;have y3:wr.cell? ⟨aY a,bC a+k*4+3,none⟩=some u3:=hx 3 u3 rfl;clear hx hx2 hl;have mC:Hid (p F[k]=true->ah.dw p F 0=k):=hid (fun h=>by simpa using ah.fQ (i:=0) hlt (fun j hj hjk=>hpre.out j hj hjk) h)
   have HE2:Hid (p F[k]=false->∀j (h:j<F.length),j<k+1->p F[j]=false):=hid (fun h j hj hjk=>by
    by_cases e:j=k
    ·subst e;exact h
    ·exact hpre.out j hj (by omega))
   obtain⟨pb,hpb⟩:=nmE (p F[k]);rw[<-hpb] at HC mC HE2;clear hpb;cases pb with
   |true=>
    have qf:=hid (mC.out rfl)
    clear mC HE2
    go_wp2_with fail
    refine HC.out.mono ?_
    rintro e w' ⟨rfl,hb2⟩
    have bB:=bq hb hb2
    clear hb2
    go_wp2
    go_ret
    exact⟨by rw[qf.out];rfl,bB.out⟩
   |false=>
    have qf:=hid (HE2.out rfl)
    clear mC HE2
    go_wp2_with fail
    refine HC.out.mono ?_
    rintro e w' ⟨rfl,hb2⟩
    have bB:=bq hb hb2
    clear hb2
    go_wp2
    go_roundw
    case rel=>exact⟨k+1,by omega,by go_num,qf,bB⟩
    simp[intOf];omega
  ·have HE:Hid (ah.dw p F 0= -1):=hid (ah.d9 fun j hj=>hpre.out j hj (by omega))
   obtain rfl:k=F.length:=by omega
   go_wp2;go_ret;exact⟨by rw[HE.out];rfl,hb.out⟩
theorem Sy{α:Type}{RR:(Nat->Prop)->World->List Value->α->Prop}(hR:bV RR)(F:List α)(p:α->Bool)(v:Value)(S:Nat->Prop)(w:World)(hv:dA 4 (RR S) S w v F)(fo:Nat)(lb:Array Value)(lG:∀args w,(callFunc fo args).run Tryz.prog w=.ok (.enter fo args) w)
  (hp:∀X,BL w X->∀j (h:j<F.length) us,us.length=4->RR S X us F[j]->CP fo (#[.agg us.toArray]++lb) X fun e w'=>e=.returned (.bool (p F[j]))/\BL X w'):
  Calls Tryz.prog 195 #[v,.func (.func fo) #[] lb] w fun e w'=>e=.returned (.bool (F.any p))/\BL w w':=by
 have H:=hid (Ph hR F p v S w hv fo lb lG hp);obtain⟨a,cap,rfl, -, -, -⟩:=hv.form;have HZ:=hid (jE p F);have HL:=hid (jF p F);have hg:=ah.iI p F 0;have hm:(F.length:Int)<=9223372036854775807:=by have:=hv.form;obtain⟨_,_,_,_,h1,h2⟩:=this;omega
 clear hv hp;generalize ah.dw p F 0=z at*;generalize F.any p=b at*;have hz2:z<9223372036854775807:=by have:=HL.out;omega
 go_enter Tryz.func195,Tryz.ntmps195;go_wp2_with fail;refine H.out.mono ?_;rintro e w' ⟨rfl,hb⟩;have HB:=hid hb;clear hb;go_wp2;go_ret;exact⟨fT HZ.out,HB.out⟩
theorem Xr{α:Type}{RR:(Nat->Prop)->World->List Value->α->Prop}(hR:bV RR)(F:List α)(p:α->Bool)(v:Value)(S:Nat->Prop)(w:World)(hv:dA 3 (RR S) S w v F)(fo:Nat)(lb:Array Value)(lG:∀args w,(callFunc fo args).run Tryz.prog w=.ok (.enter fo args) w)
  (hp:∀X,BL w X->∀j (h:j<F.length) us,us.length=3->RR S X us F[j]->CP fo (#[.agg us.toArray]++lb) X fun e w'=>e=.returned (.bool (p F[j]))/\BL X w'):
  Calls Tryz.prog 176 #[v,.func (.func fo) #[] lb] w fun e w'=>e=.returned (.int .i64 (ah.dw p F 0))/\BL w w':=by
 have HV:=hid hv;obtain⟨a,cap,rfl,hok,hcap,hmax⟩:=hv.form;clear hv;have HP:=hid hp;clear hp;go_enter Tryz.func176,Tryz.ntmps176;go_wp2;go_loopw [8] (fun i wr=>∃k:Nat,k<=F.length/\i=.int .i64 k/\Hid (∀j (h:j<F.length),j<k->p F[j]=false)/\Hid (BL w wr)) (fun i _=>F.length-(intOf i).toNat);case atStart=>exact⟨0,Nat.zero_le _,rfl,hid fun j _ h=>absurd h (by omega),hid aj⟩
 case round=>
  obtain⟨k,hk,rfl,hpre,hb⟩:=hrel;by_cases hlt:k<F.length
  ·have hk0:(0:Int)<=(k:Int):=by omega
   have hk1:(k:Int)<(F.length:Int):=by omega
   obtain⟨-,us,hl,hx,hx2⟩:=(dA.keep hR HV.out (aA.below hb.out)).at hlt;have HC:=hid (HP.out wr hb.out k hlt us hl hx2);obtain⟨u0,u1,u2,rfl⟩:=Vr hl;have y0:wr.cell? ⟨aY a,bC a+k*3,none⟩=some u0:=hx 0 u0 rfl;have y1:wr.cell? ⟨aY a,bC a+k*3+1,none⟩=some u1:=hx 1 u1 rfl;have y2:wr.cell? ⟨aY a,bC a+k*3+2,none⟩=some u2:=hx 2 u2 rfl;clear hx hx2 hl;have mC:Hid (p F[k]=true->ah.dw p F 0=k):=hid (fun h=>by simpa using ah.fQ (i:=0) hlt (fun j hj hjk=>hpre.out j hj hjk) h)
   have HE2:Hid (p F[k]=false->∀j (h:j<F.length),j<k+1->p F[j]=false):=hid (fun h j hj hjk=>by
    by_cases e:j=k
    ·subst e;exact h
    ·exact hpre.out j hj (by omega))
   obtain⟨pb,hpb⟩:=nmE (p F[k]);rw[<-hpb] at HC mC HE2;clear hpb;cases pb with
   |true=>
    have qf:=hid (mC.out rfl)
    clear mC HE2
    go_wp2_with fail
    refine HC.out.mono ?_
    rintro e w' ⟨rfl,hb2⟩
    have bB:=bq hb hb2
    clear hb2
    go_wp2
    go_ret
    exact⟨by rw[qf.out];rfl,bB.out⟩
   |false=>
    have qf:=hid (HE2.out rfl)
    clear mC HE2
    go_wp2_with fail
    refine HC.out.mono ?_
    rintro e w' ⟨rfl,hb2⟩
    have bB:=bq hb hb2
    clear hb2
    go_wp2
    go_roundw
    case rel=>exact⟨k+1,by omega,by go_num,qf,bB⟩
    simp[intOf];omega
  ·have HE:Hid (ah.dw p F 0= -1):=hid (ah.d9 fun j hj=>hpre.out j hj (by omega))
   obtain rfl:k=F.length:=by omega
   go_wp2;go_ret;exact⟨by rw[HE.out];rfl,hb.out⟩
theorem DH{α:Type}{RR:(Nat->Prop)->World->List Value->α->Prop}(hR:bV RR)(F:List α)(p:α->Bool)(v:Value)(S:Nat->Prop)(w:World)(hv:dA 3 (RR S) S w v F)(fo:Nat)(lb:Array Value)(lG:∀args w,(callFunc fo args).run Tryz.prog w=.ok (.enter fo args) w)
  (hp:∀X,BL w X->∀j (h:j<F.length) us,us.length=3->RR S X us F[j]->CP fo (#[.agg us.toArray]++lb) X fun e w'=>e=.returned (.bool (p F[j]))/\BL X w'):
  Calls Tryz.prog 131 #[v,.func (.func fo) #[] lb] w fun e w'=>e=.returned (.bool (F.any p))/\BL w w':=by
 have H:=hid (Xr hR F p v S w hv fo lb lG hp);obtain⟨a,cap,rfl, -, -, -⟩:=hv.form;have HZ:=hid (jE p F);have HL:=hid (jF p F);have hg:=ah.iI p F 0;have hm:(F.length:Int)<=9223372036854775807:=by have:=hv.form;obtain⟨_,_,_,_,h1,h2⟩:=this;omega
 clear hv hp;generalize ah.dw p F 0=z at*;generalize F.any p=b at*;have hz2:z<9223372036854775807:=by have:=HL.out;omega
 go_enter Tryz.func131,Tryz.ntmps131;go_wp2_with fail;refine H.out.mono ?_;rintro e w' ⟨rfl,hb⟩;have HB:=hid hb;clear hb;go_wp2;go_ret;exact⟨fT HZ.out,HB.out⟩
theorem Xt{α:Type}{RR:(Nat->Prop)->World->List Value->α->Prop}(hR:bV RR)(F:List α)(p:α->Bool)(v:Value)(S:Nat->Prop)(w:World)(hv:dA 5 (RR S) S w v F)(fo:Nat)(lb:Array Value)(lG:∀args w,(callFunc fo args).run Tryz.prog w=.ok (.enter fo args) w)
  (hp:∀X,BL w X->∀j (h:j<F.length) us,us.length=5->RR S X us F[j]->CP fo (#[.agg us.toArray]++lb) X fun e w'=>e=.returned (.bool (p F[j]))/\BL X w'):
  Calls Tryz.prog 211 #[v,.func (.func fo) #[] lb] w fun e w'=>e=.returned (.int .i64 (ah.dw p F 0))/\BL w w':=by
 have HV:=hid hv;obtain⟨a,cap,rfl,hok,hcap,hmax⟩:=hv.form;clear hv;have HP:=hid hp;clear hp;go_enter Tryz.func211,Tryz.ntmps211;go_wp2;go_loopw [8] (fun i wr=>∃k:Nat,k<=F.length/\i=.int .i64 k/\Hid (∀j (h:j<F.length),j<k->p F[j]=false)/\Hid (BL w wr)) (fun i _=>F.length-(intOf i).toNat);case atStart=>exact⟨0,Nat.zero_le _,rfl,hid fun j _ h=>absurd h (by omega),hid aj⟩
 case round=>
  obtain⟨k,hk,rfl,hpre,hb⟩:=hrel;by_cases hlt:k<F.length
  ·have hk0:(0:Int)<=(k:Int):=by omega
   have hk1:(k:Int)<(F.length:Int):=by omega
   obtain⟨-,us,hl,hx,hx2⟩:=(dA.keep hR HV.out (aA.below hb.out)).at hlt;have HC:=hid (HP.out wr hb.out k hlt us hl hx2);obtain⟨u0,u1,u2,u3,u4,rfl⟩:=Vs hl;have y0:wr.cell? ⟨aY a,bC a+k*5,none⟩=some u0:=hx 0 u0 rfl;have y1:wr.cell? ⟨aY a,bC a+k*5+1,none⟩=some u1:=hx 1 u1 rfl;have y2:wr.cell? ⟨aY a,bC a+k*5+2,none⟩=some u2:=hx 2 u2 rfl;have y3:wr.cell? ⟨aY a,bC a+k*5+3,none⟩=some u3:=hx 3 u3 rfl;have y4:wr.cell? ⟨aY a,bC a+k*5+4,none⟩=some u4:=hx 4 u4 rfl;clear hx hx2 hl;have mC:Hid (p F[k]=true->ah.dw p F 0=k):=hid (fun h=>by simpa using ah.fQ (i:=0) hlt (fun j hj hjk=>hpre.out j hj hjk) h)
   have HE2:Hid (p F[k]=false->∀j (h:j<F.length),j<k+1->p F[j]=false):=hid (fun h j hj hjk=>by
    by_cases e:j=k
    ·subst e;exact h
    ·exact hpre.out j hj (by omega))
   obtain⟨pb,hpb⟩:=nmE (p F[k]);rw[<-hpb] at HC mC HE2;clear hpb;cases pb with
   |true=>
    have qf:=hid (mC.out rfl)
    clear mC HE2
    go_wp2_with fail
    refine HC.out.mono ?_
    rintro e w' ⟨rfl,hb2⟩
    have bB:=bq hb hb2
    clear hb2
    go_wp2
    go_ret
    exact⟨by rw[qf.out];rfl,bB.out⟩
   |false=>
    have qf:=hid (HE2.out rfl)
    clear mC HE2
    go_wp2_with fail
    refine HC.out.mono ?_
    rintro e w' ⟨rfl,hb2⟩
    have bB:=bq hb hb2
    clear hb2
    go_wp2
    go_roundw
    case rel=>exact⟨k+1,by omega,by go_num,qf,bB⟩
    simp[intOf];omega
  ·have HE:Hid (ah.dw p F 0= -1):=hid (ah.d9 fun j hj=>hpre.out j hj (by omega))
   obtain rfl:k=F.length:=by omega
   go_wp2;go_ret;exact⟨by rw[HE.out];rfl,hb.out⟩
theorem Kt{α:Type}{RR:(Nat->Prop)->World->List Value->α->Prop}(hR:bV RR)(F:List α)(p:α->Bool)(v:Value)(S:Nat->Prop)(w:World)(hv:dA 5 (RR S) S w v F)(fo:Nat)(lb:Array Value)(lG:∀args w,(callFunc fo args).run Tryz.prog w=.ok (.enter fo args) w)
  (hp:∀X,BL w X->∀j (h:j<F.length) us,us.length=5->RR S X us F[j]->CP fo (#[.agg us.toArray]++lb) X fun e w'=>e=.returned (.bool (p F[j]))/\BL X w'):
  Calls Tryz.prog 177 #[v,.func (.func fo) #[] lb] w fun e w'=>e=.returned (.bool (F.any p))/\BL w w':=by
 have H:=hid (Xt hR F p v S w hv fo lb lG hp);obtain⟨a,cap,rfl, -, -, -⟩:=hv.form;have HZ:=hid (jE p F);have HL:=hid (jF p F);have hg:=ah.iI p F 0;have hm:(F.length:Int)<=9223372036854775807:=by have:=hv.form;obtain⟨_,_,_,_,h1,h2⟩:=this;omega
 clear hv hp;generalize ah.dw p F 0=z at*;generalize F.any p=b at*;have hz2:z<9223372036854775807:=by have:=HL.out;omega
 go_enter Tryz.func177,Tryz.ntmps177;go_wp2_with fail;refine H.out.mono ?_;rintro e w' ⟨rfl,hb⟩;have HB:=hid hb;clear hb;go_wp2;go_ret;exact⟨fT HZ.out,HB.out⟩
theorem Xu{α:Type}{RR:(Nat->Prop)->World->List Value->α->Prop}(hR:bV RR)(F:List α)(p:α->Bool)(v:Value)(S:Nat->Prop)(w:World)(hv:dA 4 (RR S) S w v F)(fo:Nat)(lb:Array Value)(lG:∀args w,(callFunc fo args).run Tryz.prog w=.ok (.enter fo args) w)
  (hp:∀X,BL w X->∀j (h:j<F.length) us,us.length=4->RR S X us F[j]->CP fo (#[.agg us.toArray]++lb) X fun e w'=>e=.returned (.bool (p F[j]))/\BL X w'):
  Calls Tryz.prog 167 #[v,.func (.func fo) #[] lb] w fun e w'=>e=.returned (.int .i64 (ah.dw p F 0))/\BL w w':=by
 have HV:=hid hv;obtain⟨a,cap,rfl,hok,hcap,hmax⟩:=hv.form;clear hv;have HP:=hid hp;clear hp;go_enter Tryz.func167,Tryz.ntmps167;go_wp2;go_loopw [8] (fun i wr=>∃k:Nat,k<=F.length/\i=.int .i64 k/\Hid (∀j (h:j<F.length),j<k->p F[j]=false)/\Hid (BL w wr)) (fun i _=>F.length-(intOf i).toNat);case atStart=>exact⟨0,Nat.zero_le _,rfl,hid fun j _ h=>absurd h (by omega),hid aj⟩
 case round=>
  obtain⟨k,hk,rfl,hpre,hb⟩:=hrel;by_cases hlt:k<F.length
  ·have hk0:(0:Int)<=(k:Int):=by omega
   have hk1:(k:Int)<(F.length:Int):=by omega
   obtain⟨-,us,hl,hx,hx2⟩:=(dA.keep hR HV.out (aA.below hb.out)).at hlt;have HC:=hid (HP.out wr hb.out k hlt us hl hx2);obtain⟨u0,u1,u2,u3,rfl⟩:=Pf hl;have y0:wr.cell? ⟨aY a,bC a+k*4,none⟩=some u0:=hx 0 u0 rfl;have y1:wr.cell? ⟨aY a,bC a+k*4+1,none⟩=some u1:=hx 1 u1 rfl;have y2:wr.cell? ⟨aY a,bC a+k*4+2,none⟩=some u2:=hx 2 u2 rfl;have y3:wr.cell? ⟨aY a,bC a+k*4+3,none⟩=some u3:=hx 3 u3 rfl;clear hx hx2 hl;have mC:Hid (p F[k]=true->ah.dw p F 0=k):=hid (fun h=>by simpa using ah.fQ (i:=0) hlt (fun j hj hjk=>hpre.out j hj hjk) h)
   have HE2:Hid (p F[k]=false->∀j (h:j<F.length),j<k+1->p F[j]=false):=hid (fun h j hj hjk=>by
    by_cases e:j=k
    ·subst e;exact h
    ·exact hpre.out j hj (by omega))
   obtain⟨pb,hpb⟩:=nmE (p F[k]);rw[<-hpb] at HC mC HE2;clear hpb;cases pb with
   |true=>
    have qf:=hid (mC.out rfl)
    clear mC HE2
    go_wp2_with fail
    refine HC.out.mono ?_
    rintro e w' ⟨rfl,hb2⟩
    have bB:=bq hb hb2
    clear hb2
    go_wp2
    go_ret
    exact⟨by rw[qf.out];rfl,bB.out⟩
   |false=>
    have qf:=hid (HE2.out rfl)
    clear mC HE2
    go_wp2_with fail
    refine HC.out.mono ?_
    rintro e w' ⟨rfl,hb2⟩
    have bB:=bq hb hb2
    clear hb2
    go_wp2
    go_roundw
    case rel=>exact⟨k+1,by omega,by go_num,qf,bB⟩
    simp[intOf];omega
  ·have HE:Hid (ah.dw p F 0= -1):=hid (ah.d9 fun j hj=>hpre.out j hj (by omega))
   obtain rfl:k=F.length:=by omega
   go_wp2;go_ret;exact⟨by rw[HE.out];rfl,hb.out⟩
theorem Sz{α:Type}{RR:(Nat->Prop)->World->List Value->α->Prop}(hR:bV RR)(F:List α)(p:α->Bool)(v:Value)(S:Nat->Prop)(w:World)(hv:dA 4 (RR S) S w v F)(fo:Nat)(lb:Array Value)(lG:∀args w,(callFunc fo args).run Tryz.prog w=.ok (.enter fo args) w)
  (hp:∀X,BL w X->∀j (h:j<F.length) us,us.length=4->RR S X us F[j]->CP fo (#[.agg us.toArray]++lb) X fun e w'=>e=.returned (.bool (p F[j]))/\BL X w'):
  Calls Tryz.prog 127 #[v,.func (.func fo) #[] lb] w fun e w'=>e=.returned (.bool (F.any p))/\BL w w':=by
 have H:=hid (Xu hR F p v S w hv fo lb lG hp);obtain⟨a,cap,rfl, -, -, -⟩:=hv.form;have HZ:=hid (jE p F);have HL:=hid (jF p F);have hg:=ah.iI p F 0;have hm:(F.length:Int)<=9223372036854775807:=by have:=hv.form;obtain⟨_,_,_,_,h1,h2⟩:=this;omega
 clear hv hp;generalize ah.dw p F 0=z at*;generalize F.any p=b at*;have hz2:z<9223372036854775807:=by have:=HL.out;omega
 go_enter Tryz.func127,Tryz.ntmps127;go_wp2_with fail;refine H.out.mono ?_;rintro e w' ⟨rfl,hb⟩;have HB:=hid hb;clear hb;go_wp2;go_ret;exact⟨fT HZ.out,HB.out⟩
theorem Xv{α:Type}{RR:(Nat->Prop)->World->List Value->α->Prop}(hR:bV RR)(F:List α)(p:α->Bool)(v:Value)(S:Nat->Prop)(w:World)(hv:dA 2 (RR S) S w v F)(fo:Nat)(lb:Array Value)(lG:∀args w,(callFunc fo args).run Tryz.prog w=.ok (.enter fo args) w)
  (hp:∀X,BL w X->∀j (h:j<F.length) us,us.length=2->RR S X us F[j]->CP fo (#[.agg us.toArray]++lb) X fun e w'=>e=.returned (.bool (p F[j]))/\BL X w'):
  Calls Tryz.prog 240 #[v,.func (.func fo) #[] lb] w fun e w'=>e=.returned (.int .i64 (ah.dw p F 0))/\BL w w':=by
 have HV:=hid hv;obtain⟨a,cap,rfl,hok,hcap,hmax⟩:=hv.form;clear hv;have HP:=hid hp;clear hp;go_enter Tryz.func240,Tryz.ntmps240;go_wp2;go_loopw [8] (fun i wr=>∃k:Nat,k<=F.length/\i=.int .i64 k/\Hid (∀j (h:j<F.length),j<k->p F[j]=false)/\Hid (BL w wr)) (fun i _=>F.length-(intOf i).toNat);case atStart=>exact⟨0,Nat.zero_le _,rfl,hid fun j _ h=>absurd h (by omega),hid aj⟩
 case round=>
  obtain⟨k,hk,rfl,hpre,hb⟩:=hrel;by_cases hlt:k<F.length
  ·have hk0:(0:Int)<=(k:Int):=by omega
   have hk1:(k:Int)<(F.length:Int):=by omega
   obtain⟨-,us,hl,hx,hx2⟩:=(dA.keep hR HV.out (aA.below hb.out)).at hlt;have HC:=hid (HP.out wr hb.out k hlt us hl hx2);obtain⟨u0,u1,rfl⟩:=Vq hl;have y0:wr.cell? ⟨aY a,bC a+k*2,none⟩=some u0:=hx 0 u0 rfl;have y1:wr.cell? ⟨aY a,bC a+k*2+1,none⟩=some u1:=hx 1 u1 rfl;clear hx hx2 hl;have mC:Hid (p F[k]=true->ah.dw p F 0=k):=hid (fun h=>by simpa using ah.fQ (i:=0) hlt (fun j hj hjk=>hpre.out j hj hjk) h)
   have HE2:Hid (p F[k]=false->∀j (h:j<F.length),j<k+1->p F[j]=false):=hid (fun h j hj hjk=>by
    by_cases e:j=k
    ·subst e;exact h
    ·exact hpre.out j hj (by omega))
   obtain⟨pb,hpb⟩:=nmE (p F[k]);rw[<-hpb] at HC mC HE2;clear hpb;cases pb with
   |true=>
    have qf:=hid (mC.out rfl)
    clear mC HE2
    go_wp2_with fail
    refine HC.out.mono ?_
    rintro e w' ⟨rfl,hb2⟩
    have bB:=bq hb hb2
    clear hb2
    go_wp2
    go_ret
    exact⟨by rw[qf.out];rfl,bB.out⟩
   |false=>
    have qf:=hid (HE2.out rfl)
    clear mC HE2
    go_wp2_with fail
    refine HC.out.mono ?_
    rintro e w' ⟨rfl,hb2⟩
    have bB:=bq hb hb2
    clear hb2
    go_wp2
    go_roundw
    case rel=>exact⟨k+1,by omega,by go_num,qf,bB⟩
    simp[intOf];omega
  ·have HE:Hid (ah.dw p F 0= -1):=hid (ah.d9 fun j hj=>hpre.out j hj (by omega))
   obtain rfl:k=F.length:=by omega
   go_wp2;go_ret;exact⟨by rw[HE.out];rfl,hb.out⟩
theorem SA{α:Type}{RR:(Nat->Prop)->World->List Value->α->Prop}(hR:bV RR)(F:List α)(p:α->Bool)(v:Value)(S:Nat->Prop)(w:World)(hv:dA 2 (RR S) S w v F)(fo:Nat)(lb:Array Value)(lG:∀args w,(callFunc fo args).run Tryz.prog w=.ok (.enter fo args) w)
  (hp:∀X,BL w X->∀j (h:j<F.length) us,us.length=2->RR S X us F[j]->CP fo (#[.agg us.toArray]++lb) X fun e w'=>e=.returned (.bool (p F[j]))/\BL X w'):
  Calls Tryz.prog 230 #[v,.func (.func fo) #[] lb] w fun e w'=>e=.returned (.bool (F.any p))/\BL w w':=by
 have H:=hid (Xv hR F p v S w hv fo lb lG hp);obtain⟨a,cap,rfl, -, -, -⟩:=hv.form;have HZ:=hid (jE p F);have HL:=hid (jF p F);have hg:=ah.iI p F 0;have hm:(F.length:Int)<=9223372036854775807:=by have:=hv.form;obtain⟨_,_,_,_,h1,h2⟩:=this;omega
 clear hv hp;generalize ah.dw p F 0=z at*;generalize F.any p=b at*;have hz2:z<9223372036854775807:=by have:=HL.out;omega
 go_enter Tryz.func230,Tryz.ntmps230;go_wp2_with fail;refine H.out.mono ?_;rintro e w' ⟨rfl,hb⟩;have HB:=hid hb;clear hb;go_wp2;go_ret;exact⟨fT HZ.out,HB.out⟩
theorem SB{α:Type}{RR:(Nat->Prop)->World->Value->α->Prop}(hR:dH RR)(F:List α)(p:α->Bool)(v:Value)(S:Nat->Prop)(w:World)(hv:eX (RR S) S w v F)(hform:∀X u x,RR S X u x->∃c,u=.int .u8 c)(fo:Nat)(lb:Array Value)(lG:∀args w,(callFunc fo args).run Tryz.prog w=.ok (.enter fo args) w)
  (hp:∀X,BL w X->∀j (h:j<F.length) u,RR S X u F[j]->CP fo (#[u]++lb) X fun e w'=>e=.returned (.bool (p F[j]))/\BL X w'):
  Calls Tryz.prog 236 #[v,.func (.func fo) #[] lb] w fun e w'=>e=.returned (.int .i64 (ah.dw p F 0))/\BL w w':=by
 have HV:=hid hv;obtain⟨a,cap,rfl,hok,hcap,hmax⟩:=hv.form;clear hv;have HP:=hid hp;clear hp;go_enter Tryz.func236,Tryz.ntmps236;go_wp2;go_loopw [8] (fun i wr=>∃k:Nat,k<=F.length/\i=.int .i64 k/\Hid (∀j (h:j<F.length),j<k->p F[j]=false)/\Hid (BL w wr)) (fun i _=>F.length-(intOf i).toNat);case atStart=>exact⟨0,Nat.zero_le _,rfl,hid fun j _ h=>absurd h (by omega),hid aj⟩
 case round=>
  obtain⟨k,hk,rfl,hpre,hb⟩:=hrel;by_cases hlt:k<F.length
  ·have hk0:(0:Int)<=(k:Int):=by omega
   have hk1:(k:Int)<(F.length:Int):=by omega
   obtain⟨u0,y0, -,hx2⟩:=(eX.keep (R:=RR S) HV.out (aA.below hb.out) (fun _ _ h=>hR.keep h (aA.below hb.out))).at hlt;have HC:=hid (HP.out wr hb.out k hlt u0 hx2);obtain⟨c0,rfl⟩:=hform _ _ _ hx2;clear hx2;have mC:Hid (p F[k]=true->ah.dw p F 0=k):=hid (fun h=>by simpa using ah.fQ (i:=0) hlt (fun j hj hjk=>hpre.out j hj hjk) h)
   have HE2:Hid (p F[k]=false->∀j (h:j<F.length),j<k+1->p F[j]=false):=hid (fun h j hj hjk=>by
    by_cases e:j=k
    ·subst e;exact h
    ·exact hpre.out j hj (by omega))
   obtain⟨pb,hpb⟩:=nmE (p F[k]);rw[<-hpb] at HC mC HE2;clear hpb;cases pb with
   |true=>
    have qf:=hid (mC.out rfl)
    clear mC HE2
    go_wp2_with fail
    refine HC.out.mono ?_
    rintro e w' ⟨rfl,hb2⟩
    have bB:=bq hb hb2
    clear hb2
    go_wp2
    go_ret
    exact⟨by rw[qf.out];rfl,bB.out⟩
   |false=>
    have qf:=hid (HE2.out rfl)
    clear mC HE2
    go_wp2_with fail
    refine HC.out.mono ?_
    rintro e w' ⟨rfl,hb2⟩
    have bB:=bq hb hb2
    clear hb2
    go_wp2
    go_roundw
    case rel=>exact⟨k+1,by omega,by go_num,qf,bB⟩
    simp[intOf];omega
  ·have HE:Hid (ah.dw p F 0= -1):=hid (ah.d9 fun j hj=>hpre.out j hj (by omega))
   obtain rfl:k=F.length:=by omega
   go_wp2;go_ret;exact⟨by rw[HE.out];rfl,hb.out⟩
theorem Pj{α:Type}{RR:(Nat->Prop)->World->Value->α->Prop}(hR:dH RR)(F:List α)(p:α->Bool)(v:Value)(S:Nat->Prop)(w:World)(hv:eX (RR S) S w v F)(hform:∀X u x,RR S X u x->∃c,u=.int .u8 c)(fo:Nat)(lb:Array Value)(lG:∀args w,(callFunc fo args).run Tryz.prog w=.ok (.enter fo args) w)
  (hp:∀X,BL w X->∀j (h:j<F.length) u,RR S X u F[j]->CP fo (#[u]++lb) X fun e w'=>e=.returned (.bool (p F[j]))/\BL X w'):
  Calls Tryz.prog 220 #[v,.func (.func fo) #[] lb] w fun e w'=>e=.returned (.bool (F.any p))/\BL w w':=by
 have H:=hid (SB hR F p v S w hv hform fo lb lG hp);obtain⟨a,cap,rfl, -, -, -⟩:=hv.form;have HZ:=hid (jE p F);have HL:=hid (jF p F);have hg:=ah.iI p F 0;have hm:(F.length:Int)<=9223372036854775807:=by have:=hv.form;obtain⟨_,_,_,_,h1,h2⟩:=this;omega
 clear hv hp;generalize ah.dw p F 0=z at*;generalize F.any p=b at*;have hz2:z<9223372036854775807:=by have:=HL.out;omega
 go_enter Tryz.func220,Tryz.ntmps220;go_wp2_with fail;refine H.out.mono ?_;rintro e w' ⟨rfl,hb⟩;have HB:=hid hb;clear hb;go_wp2;go_ret;exact⟨fT HZ.out,HB.out⟩
theorem Xw{α:Type}{RR:(Nat->Prop)->World->Value->α->Prop}(hR:dH RR)(F:List α)(p:α->Bool)(v:Value)(S:Nat->Prop)(w:World)(hv:eX (RR S) S w v F)(hform:∀X u x,RR S X u x->∃c,u=.string c)(fo:Nat)(lb:Array Value)(lG:∀args w,(callFunc fo args).run Tryz.prog w=.ok (.enter fo args) w)
  (hp:∀X,BL w X->∀j (h:j<F.length) u,RR S X u F[j]->CP fo (#[u]++lb) X fun e w'=>e=.returned (.bool (p F[j]))/\BL X w'):
  Calls Tryz.prog 239 #[v,.func (.func fo) #[] lb] w fun e w'=>e=.returned (.int .i64 (ah.dw p F 0))/\BL w w':=by
 have HV:=hid hv;obtain⟨a,cap,rfl,hok,hcap,hmax⟩:=hv.form;clear hv;have HP:=hid hp;clear hp;go_enter Tryz.func239,Tryz.ntmps239;go_wp2;go_loopw [8] (fun i wr=>∃k:Nat,k<=F.length/\i=.int .i64 k/\Hid (∀j (h:j<F.length),j<k->p F[j]=false)/\Hid (BL w wr)) (fun i _=>F.length-(intOf i).toNat);case atStart=>exact⟨0,Nat.zero_le _,rfl,hid fun j _ h=>absurd h (by omega),hid aj⟩
 case round=>
  obtain⟨k,hk,rfl,hpre,hb⟩:=hrel;by_cases hlt:k<F.length
  ·have hk0:(0:Int)<=(k:Int):=by omega
   have hk1:(k:Int)<(F.length:Int):=by omega
   obtain⟨u0,y0, -,hx2⟩:=(eX.keep (R:=RR S) HV.out (aA.below hb.out) (fun _ _ h=>hR.keep h (aA.below hb.out))).at hlt;have HC:=hid (HP.out wr hb.out k hlt u0 hx2);obtain⟨c0,rfl⟩:=hform _ _ _ hx2;clear hx2;have mC:Hid (p F[k]=true->ah.dw p F 0=k):=hid (fun h=>by simpa using ah.fQ (i:=0) hlt (fun j hj hjk=>hpre.out j hj hjk) h)
   have HE2:Hid (p F[k]=false->∀j (h:j<F.length),j<k+1->p F[j]=false):=hid (fun h j hj hjk=>by
    by_cases e:j=k
    ·subst e;exact h
    ·exact hpre.out j hj (by omega))
   obtain⟨pb,hpb⟩:=nmE (p F[k]);rw[<-hpb] at HC mC HE2;clear hpb;cases pb with
   |true=>
    have qf:=hid (mC.out rfl)
    clear mC HE2
    go_wp2_with fail
    refine HC.out.mono ?_
    rintro e w' ⟨rfl,hb2⟩
    have bB:=bq hb hb2
    clear hb2
    go_wp2
    go_ret
    exact⟨by rw[qf.out];rfl,bB.out⟩
   |false=>
    have qf:=hid (HE2.out rfl)
    clear mC HE2
    go_wp2_with fail
    refine HC.out.mono ?_
    rintro e w' ⟨rfl,hb2⟩
    have bB:=bq hb hb2
    clear hb2
    go_wp2
    go_roundw
    case rel=>exact⟨k+1,by omega,by go_num,qf,bB⟩
    simp[intOf];omega
  ·have HE:Hid (ah.dw p F 0= -1):=hid (ah.d9 fun j hj=>hpre.out j hj (by omega))
   obtain rfl:k=F.length:=by omega
   go_wp2;go_ret;exact⟨by rw[HE.out];rfl,hb.out⟩
theorem SC{α:Type}{RR:(Nat->Prop)->World->Value->α->Prop}(hR:dH RR)(F:List α)(p:α->Bool)(v:Value)(S:Nat->Prop)(w:World)(hv:eX (RR S) S w v F)(hform:∀X u x,RR S X u x->∃c,u=.string c)(fo:Nat)(lb:Array Value)(lG:∀args w,(callFunc fo args).run Tryz.prog w=.ok (.enter fo args) w)
  (hp:∀X,BL w X->∀j (h:j<F.length) u,RR S X u F[j]->CP fo (#[u]++lb) X fun e w'=>e=.returned (.bool (p F[j]))/\BL X w'):
  Calls Tryz.prog 228 #[v,.func (.func fo) #[] lb] w fun e w'=>e=.returned (.bool (F.any p))/\BL w w':=by
 have H:=hid (Xw hR F p v S w hv hform fo lb lG hp);obtain⟨a,cap,rfl, -, -, -⟩:=hv.form;have HZ:=hid (jE p F);have HL:=hid (jF p F);have hg:=ah.iI p F 0;have hm:(F.length:Int)<=9223372036854775807:=by have:=hv.form;obtain⟨_,_,_,_,h1,h2⟩:=this;omega
 clear hv hp;generalize ah.dw p F 0=z at*;generalize F.any p=b at*;have hz2:z<9223372036854775807:=by have:=HL.out;omega
 go_enter Tryz.func228,Tryz.ntmps228;go_wp2_with fail;refine H.out.mono ?_;rintro e w' ⟨rfl,hb⟩;have HB:=hid hb;clear hb;go_wp2;go_ret;exact⟨fT HZ.out,HB.out⟩
theorem Xx{α:Type}{RR:(Nat->Prop)->World->Value->α->Prop}(hR:dH RR)(F:List α)(p:α->Bool)(v:Value)(S:Nat->Prop)(w:World)(hv:eX (RR S) S w v F)(hform:∀X u x,RR S X u x->∃a n c,u=.slice a n c)(fo:Nat)(lb:Array Value)(lG:∀args w,(callFunc fo args).run Tryz.prog w=.ok (.enter fo args) w)
  (hp:∀X,BL w X->∀j (h:j<F.length) u,RR S X u F[j]->CP fo (#[u]++lb) X fun e w'=>e=.returned (.bool (p F[j]))/\BL X w'):
  Calls Tryz.prog 179 #[v,.func (.func fo) #[] lb] w fun e w'=>e=.returned (.int .i64 (ah.dw p F 0))/\BL w w':=by
 have HV:=hid hv;obtain⟨a,cap,rfl,hok,hcap,hmax⟩:=hv.form;clear hv;have HP:=hid hp;clear hp;go_enter Tryz.func179,Tryz.ntmps179;go_wp2;go_loopw [8] (fun i wr=>∃k:Nat,k<=F.length/\i=.int .i64 k/\Hid (∀j (h:j<F.length),j<k->p F[j]=false)/\Hid (BL w wr)) (fun i _=>F.length-(intOf i).toNat);case atStart=>exact⟨0,Nat.zero_le _,rfl,hid fun j _ h=>absurd h (by omega),hid aj⟩
 case round=>
  obtain⟨k,hk,rfl,hpre,hb⟩:=hrel;by_cases hlt:k<F.length
  ·have hk0:(0:Int)<=(k:Int):=by omega
   have hk1:(k:Int)<(F.length:Int):=by omega
   obtain⟨u0,y0, -,hx2⟩:=(eX.keep (R:=RR S) HV.out (aA.below hb.out) (fun _ _ h=>hR.keep h (aA.below hb.out))).at hlt;have HC:=hid (HP.out wr hb.out k hlt u0 hx2);obtain⟨a0,n0,c0,rfl⟩:=hform _ _ _ hx2;clear hx2;have mC:Hid (p F[k]=true->ah.dw p F 0=k):=hid (fun h=>by simpa using ah.fQ (i:=0) hlt (fun j hj hjk=>hpre.out j hj hjk) h)
   have HE2:Hid (p F[k]=false->∀j (h:j<F.length),j<k+1->p F[j]=false):=hid (fun h j hj hjk=>by
    by_cases e:j=k
    ·subst e;exact h
    ·exact hpre.out j hj (by omega))
   obtain⟨pb,hpb⟩:=nmE (p F[k]);rw[<-hpb] at HC mC HE2;clear hpb;cases pb with
   |true=>
    have qf:=hid (mC.out rfl)
    clear mC HE2
    go_wp2_with fail
    refine HC.out.mono ?_
    rintro e w' ⟨rfl,hb2⟩
    have bB:=bq hb hb2
    clear hb2
    go_wp2
    go_ret
    exact⟨by rw[qf.out];rfl,bB.out⟩
   |false=>
    have qf:=hid (HE2.out rfl)
    clear mC HE2
    go_wp2_with fail
    refine HC.out.mono ?_
    rintro e w' ⟨rfl,hb2⟩
    have bB:=bq hb hb2
    clear hb2
    go_wp2
    go_roundw
    case rel=>exact⟨k+1,by omega,by go_num,qf,bB⟩
    simp[intOf];omega
  ·have HE:Hid (ah.dw p F 0= -1):=hid (ah.d9 fun j hj=>hpre.out j hj (by omega))
   obtain rfl:k=F.length:=by omega
   go_wp2;go_ret;exact⟨by rw[HE.out];rfl,hb.out⟩
theorem Ku{α:Type}{RR:(Nat->Prop)->World->Value->α->Prop}(hR:dH RR)(F:List α)(p:α->Bool)(v:Value)(S:Nat->Prop)(w:World)(hv:eX (RR S) S w v F)(hform:∀X u x,RR S X u x->∃a n c,u=.slice a n c)(fo:Nat)(lb:Array Value)(lG:∀args w,(callFunc fo args).run Tryz.prog w=.ok (.enter fo args) w)
  (hp:∀X,BL w X->∀j (h:j<F.length) u,RR S X u F[j]->CP fo (#[u]++lb) X fun e w'=>e=.returned (.bool (p F[j]))/\BL X w'):
  Calls Tryz.prog 136 #[v,.func (.func fo) #[] lb] w fun e w'=>e=.returned (.bool (F.any p))/\BL w w':=by
 have H:=hid (Xx hR F p v S w hv hform fo lb lG hp);obtain⟨a,cap,rfl, -, -, -⟩:=hv.form;have HZ:=hid (jE p F);have HL:=hid (jF p F);have hg:=ah.iI p F 0;have hm:(F.length:Int)<=9223372036854775807:=by have:=hv.form;obtain⟨_,_,_,_,h1,h2⟩:=this;omega
 clear hv hp;generalize ah.dw p F 0=z at*;generalize F.any p=b at*;have hz2:z<9223372036854775807:=by have:=HL.out;omega
 go_enter Tryz.func136,Tryz.ntmps136;go_wp2_with fail;refine H.out.mono ?_;rintro e w' ⟨rfl,hb⟩;have HB:=hid hb;clear hb;go_wp2;go_ret;exact⟨fT HZ.out,HB.out⟩
def Hq(i:Vm.Ins):List Value:=[.int .i64 i.op,.int .i64 i.a,.int .i64 i.b,.int .i64 i.c]
def abd(_:Nat->Prop)(_:World)(us:List Value)(i:Vm.Ins):Prop:=us=Hq i
theorem zF:bV abd:=⟨fun h _=>h,fun h _=>h⟩
abbrev nG(S:Nat->Prop):=dA 4 (abd S) S
theorem nG.keep{S w w' v xs}(h:nG S w v xs)(hk:aA S w w'):nG S w' v xs:=dA.keep zF h hk
theorem nG.at{S:Nat->Prop}{w:World}{a:Option Addr}{n cap:Nat}{p:List Vm.Ins}(h:nG S w (.slice a n cap) p){j:Nat}(hj:j<p.length):
  S (aY a)/\aY a<w.heap.size/\w.cell? ⟨aY a,bC a+j*4,none⟩=some (.int .i64 p[j].op)/\w.cell? ⟨aY a,bC a+j*4+1,none⟩=some (.int .i64 p[j].a)/\w.cell? ⟨aY a,bC a+j*4+2,none⟩=some (.int .i64 p[j].b)/\w.cell? ⟨aY a,bC a+j*4+3,none⟩=some (.int .i64 p[j].c):=by
 obtain⟨h1,us,h2,h3,rfl⟩:=dA.at h hj;exact⟨h1,zBl w ⟨aY a,bC a+j*4+0,none⟩ (h3 0 _ rfl),h3 0 _ rfl,h3 1 _ rfl,h3 2 _ rfl,h3 3 _ rfl⟩
theorem E5(i:Vm.Ins)(w:World):
  Calls Tryz.prog 122 #[.agg (Hq i).toArray] w fun e w'=>e=.returned (.agg #[.int .i64 i.a,.int .i64 i.b,.int .i64 i.c])/\BL w w':=by
 obtain⟨o,a,b,c⟩:=i;simp only[Hq];go_enter Tryz.func122,Tryz.ntmps122;go_wp2;refine bodyPost_ret (results_cell_row rfl _ _ (w.heap.size+1) 219 #[.int .i64 a,.int .i64 b,.int .i64 c] (0,0) (.array 3 3) (by simp) (aD _ _ (by simp)) (by kernel_rfl) rfl (by kernel_rfl)) rfl ⟨rfl,(aj.alloc aB _).alloc (by simp) _⟩
def zG:Array Value:=#[.string {data:=#[115,116,111,112]},.int .i64 1,.int .i64 0,.int .i64 0,.string {data:=#[108,111,97,100]},.int .i64 2,.int .i64 3,.int .i64 0,
 .string {data:=#[97,100,100]},.int .i64 2,.int .i64 2,.int .i64 2,.string {data:=#[115,117,98]},.int .i64 2,.int .i64 2,.int .i64 2,
 .string {data:=#[115,105,122,101]},.int .i64 2,.int .i64 4,.int .i64 0,.string {data:=#[103,101,116]},.int .i64 2,.int .i64 4,.int .i64 5,
 .string {data:=#[106,117,109,112]},.int .i64 6,.int .i64 0,.int .i64 0,.string {data:=#[108,101,115,115]},.int .i64 2,.int .i64 2,.int .i64 6,
 .string {data:=#[115,97,109,101]},.int .i64 2,.int .i64 2,.int .i64 6]
def Xy:TypeId:=222
theorem Xz:∀w,(Instr.build 219 #[(0,.int .i64 1)]).run Tryz.prog w=.ok (.agg #[.int .i64 1,.int .i64 0,.int .i64 0]) w:=fun w=>by kernel_rfl
theorem XA:∀w,(Instr.build 222 #[(0,.string {data:=#[115,116,111,112]}),(1,.agg #[.int .i64 1,.int .i64 0,.int .i64 0])]).run Tryz.prog w=.ok (.agg #[.string {data:=#[115,116,111,112]},.int .i64 1,.int .i64 0,.int .i64 0]) w:=fun w=>by kernel_rfl
theorem SE:∀w,(Instr.build 219 #[(0,.int .i64 2),(1,.int .i64 3)]).run Tryz.prog w=.ok (.agg #[.int .i64 2,.int .i64 3,.int .i64 0]) w:=fun w=>by kernel_rfl
theorem XB:∀w,(Instr.build 222 #[(0,.string {data:=#[108,111,97,100]}),(1,.agg #[.int .i64 2,.int .i64 3,.int .i64 0])]).run Tryz.prog w=.ok (.agg #[.string {data:=#[108,111,97,100]},.int .i64 2,.int .i64 3,.int .i64 0]) w:=fun w=>by kernel_rfl
theorem Pk:∀w,(Instr.build 219 #[(0,.int .i64 2),(1,.int .i64 2),(2,.int .i64 2)]).run Tryz.prog w=.ok (.agg #[.int .i64 2,.int .i64 2,.int .i64 2]) w:=fun w=>by kernel_rfl
theorem XC:∀w,(Instr.build 222 #[(0,.string {data:=#[97,100,100]}),(1,.agg #[.int .i64 2,.int .i64 2,.int .i64 2])]).run Tryz.prog w=.ok (.agg #[.string {data:=#[97,100,100]},.int .i64 2,.int .i64 2,.int .i64 2]) w:=fun w=>by kernel_rfl
theorem XD:∀w,(Instr.build 222 #[(0,.string {data:=#[115,117,98]}),(1,.agg #[.int .i64 2,.int .i64 2,.int .i64 2])]).run Tryz.prog w=.ok (.agg #[.string {data:=#[115,117,98]},.int .i64 2,.int .i64 2,.int .i64 2]) w:=fun w=>by kernel_rfl
theorem SF:∀w,(Instr.build 219 #[(0,.int .i64 2),(1,.int .i64 4)]).run Tryz.prog w=.ok (.agg #[.int .i64 2,.int .i64 4,.int .i64 0]) w:=fun w=>by kernel_rfl
theorem XE:∀w,(Instr.build 222 #[(0,.string {data:=#[115,105,122,101]}),(1,.agg #[.int .i64 2,.int .i64 4,.int .i64 0])]).run Tryz.prog w=.ok (.agg #[.string {data:=#[115,105,122,101]},.int .i64 2,.int .i64 4,.int .i64 0]) w:=fun w=>by kernel_rfl
theorem Pm:∀w,(Instr.build 219 #[(0,.int .i64 2),(1,.int .i64 4),(2,.int .i64 5)]).run Tryz.prog w=.ok (.agg #[.int .i64 2,.int .i64 4,.int .i64 5]) w:=fun w=>by kernel_rfl
theorem XF:∀w,(Instr.build 222 #[(0,.string {data:=#[103,101,116]}),(1,.agg #[.int .i64 2,.int .i64 4,.int .i64 5])]).run Tryz.prog w=.ok (.agg #[.string {data:=#[103,101,116]},.int .i64 2,.int .i64 4,.int .i64 5]) w:=fun w=>by kernel_rfl
theorem XG:∀w,(Instr.build 219 #[(0,.int .i64 6)]).run Tryz.prog w=.ok (.agg #[.int .i64 6,.int .i64 0,.int .i64 0]) w:=fun w=>by kernel_rfl
theorem XH:∀w,(Instr.build 222 #[(0,.string {data:=#[106,117,109,112]}),(1,.agg #[.int .i64 6,.int .i64 0,.int .i64 0])]).run Tryz.prog w=.ok (.agg #[.string {data:=#[106,117,109,112]},.int .i64 6,.int .i64 0,.int .i64 0]) w:=fun w=>by kernel_rfl
theorem Pn:∀w,(Instr.build 219 #[(0,.int .i64 2),(1,.int .i64 2),(2,.int .i64 6)]).run Tryz.prog w=.ok (.agg #[.int .i64 2,.int .i64 2,.int .i64 6]) w:=fun w=>by kernel_rfl
theorem XI:∀w,(Instr.build 222 #[(0,.string {data:=#[108,101,115,115]}),(1,.agg #[.int .i64 2,.int .i64 2,.int .i64 6])]).run Tryz.prog w=.ok (.agg #[.string {data:=#[108,101,115,115]},.int .i64 2,.int .i64 2,.int .i64 6]) w:=fun w=>by kernel_rfl
theorem XJ:∀w,(Instr.build 222 #[(0,.string {data:=#[115,97,109,101]}),(1,.agg #[.int .i64 2,.int .i64 2,.int .i64 6])]).run Tryz.prog w=.ok (.agg #[.string {data:=#[115,97,109,101]},.int .i64 2,.int .i64 2,.int .i64 6]) w:=fun w=>by kernel_rfl
theorem bld9:∀w,(Instr.build 223 #[(0,.agg #[.string {data:=#[115,116,111,112]},.int .i64 1,.int .i64 0,.int .i64 0]),(1,.agg #[.string {data:=#[108,111,97,100]},.int .i64 2,.int .i64 3,.int .i64 0]),(2,.agg #[.string {data:=#[97,100,100]},.int .i64 2,.int .i64 2,.int .i64 2]),(3,.agg #[.string {data:=#[115,117,98]},.int .i64 2,.int .i64 2,.int .i64 2]),(4,.agg #[.string {data:=#[115,105,122,101]},.int .i64 2,.int .i64 4,.int .i64 0]),(5,.agg #[.string {data:=#[103,101,116]},.int .i64 2,.int .i64 4,.int .i64 5]),(6,.agg #[.string {data:=#[106,117,109,112]},.int .i64 6,.int .i64 0,.int .i64 0]),(7,.agg #[.string {data:=#[108,101,115,115]},.int .i64 2,.int .i64 2,.int .i64 6]),(8,.agg #[.string {data:=#[115,97,109,101]},.int .i64 2,.int .i64 2,.int .i64 6])]).run Tryz.prog w=.ok (.agg zG) w:=fun w=>by kernel_rfl
theorem Lh(w:World):Calls Tryz.prog 124 #[] w fun e w'=>e=.returned (.agg zG)/\BL w w':=by
 have h0:=Xz;have h1:=XA;have h2:=SE;have h3:=XB;have h4:=Pk;have h5:=XC;have h6:=XD;have h7:=SF;have h8:=XE;have h9:=Pm;have h10:=XF;have h11:=XG;have h12:=XH;have h13:=Pn;have h14:=XI;have h15:=XJ;have h16:=bld9;go_enter Tryz.func124,Tryz.ntmps124;go_wp2_with (refine wpList_store_row rfl _ _ _ rfl w.heap.size zG rfl rfl 223 _ (aD w _ rfl) (by kernel_rfl) rfl (by kernel_rfl) ?_);rw[World.setRow_alloc_new];go_wp2;refine bodyPost_ret (results_cell_row rfl _ _ w.heap.size 223 zG (0,0) (.array 9 Xy) rfl (aD _ _ rfl) (by kernel_rfl) rfl (by kernel_rfl)) rfl ⟨rfl,aj.alloc aB _⟩
theorem E6(o:Int)(h0:0<=o)(h9:o<9):
  ∃s,∀w,(Instr.index 223 (.agg zG) (.int .i64 o)).run Tryz.prog w=.ok (.agg #[.string s,.int .i64 (Vm.dN o 0),.int .i64 (Vm.dN o 1),.int .i64 (Vm.dN o 2)]) w:=by
 have:o=0\/o=1\/o=2\/o=3\/o=4\/o=5\/o=6\/o=7\/o=8:=by omega
 rcases this with rfl|rfl|rfl|rfl|rfl|rfl|rfl|rfl|rfl
 ·exact⟨{data:=#[115,116,111,112]},fun w=>by kernel_rfl⟩
 ·exact⟨{data:=#[108,111,97,100]},fun w=>by kernel_rfl⟩
 ·exact⟨{data:=#[97,100,100]},fun w=>by kernel_rfl⟩
 ·exact⟨{data:=#[115,117,98]},fun w=>by kernel_rfl⟩
 ·exact⟨{data:=#[115,105,122,101]},fun w=>by kernel_rfl⟩
 ·exact⟨{data:=#[103,101,116]},fun w=>by kernel_rfl⟩
 ·exact⟨{data:=#[106,117,109,112]},fun w=>by kernel_rfl⟩
 ·exact⟨{data:=#[108,101,115,115]},fun w=>by kernel_rfl⟩
 ·exact⟨{data:=#[115,97,109,101]},fun w=>by kernel_rfl⟩
theorem wT(a b c:Int)(k:Nat)(h:k<3):
  ∀w,(Instr.index 219 (.agg #[.int .i64 a,.int .i64 b,.int .i64 c]) (.int .i64 (k:Int))).run Tryz.prog w=.ok (.int .i64 (if k=0 then a else if k=1 then b else c)) w:=by
 have:k=0\/k=1\/k=2:=by omega
 rcases this with rfl|rfl|rfl
 ·exact fun w=>by kernel_rfl
 ·exact fun w=>by kernel_rfl
 ·exact fun w=>by kernel_rfl
theorem Li(s:ByteArray)(a b c:Int):∀w,(Instr.field 222 (.agg #[.string s,.int .i64 a,.int .i64 b,.int .i64 c]) 1).run Tryz.prog w=.ok (.agg #[.int .i64 a,.int .i64 b,.int .i64 c]) w:=fun w=>by kernel_rfl
theorem Po(o:Int)(k:Nat)(h:k<3):(if k=0 then Vm.dN o 0 else if k=1 then Vm.dN o 1 else Vm.dN o 2)=Vm.dN o k:=by
 have:k=0\/k=1\/k=2:=by omega
 rcases this with rfl|rfl|rfl<;>rfl
theorem Pp(s v n:Int)(w:World):
  Calls Tryz.prog 123 #[.int .i64 s,.int .i64 v,.int .i64 n] w fun e w'=>e=.returned (.bool (Vm.dF s v n))/\w=w':=by
 have H:∀l m,Vm.vA s=l->Vm.zy s n=m->Vm.dF s v n=(decide (l<=v)&&decide (v<=m)):=fun l m h1 h2=>by unfold Vm.dF;rw[h1,h2]
 by_cases h1:s=1
 ·subst h1
  have H2:=hid (H 0 250 rfl rfl)
  by_cases g1:0<=v<;>by_cases g2:v<=250<;>(
   clear H
   go_enter Tryz.func123,Tryz.ntmps123
   go_wp2
   go_ret
   exact⟨by rw[H2.out];simp[g1,g2],rfl⟩)
 by_cases h2:s=2
 ·subst h2
  have H2:=hid (H 0 7 rfl rfl)
  by_cases g1:0<=v<;>by_cases g2:v<=7<;>(
   clear H
   go_enter Tryz.func123,Tryz.ntmps123
   go_wp2
   go_ret
   exact⟨by rw[H2.out];simp[g1,g2],rfl⟩)
 by_cases h3:s=3
 ·subst h3
  have H2:=hid (H (-1048576) 1048576 rfl rfl)
  by_cases g1: -1048576<=v<;>by_cases g2:v<=1048576<;>(
   clear H
   go_enter Tryz.func123,Tryz.ntmps123
   go_wp2
   go_ret
   exact⟨by rw[H2.out];simp[g1,g2],rfl⟩)
 by_cases h4:s=4
 ·subst h4
  have H2:=hid (H 0 5 rfl rfl)
  by_cases g1:0<=v<;>by_cases g2:v<=5<;>(
   clear H
   go_enter Tryz.func123,Tryz.ntmps123
   go_wp2
   go_ret
   exact⟨by rw[H2.out];simp[g1,g2],rfl⟩)
 by_cases h5:s=5
 ·subst h5
  have H2:=hid (H 0 9 rfl rfl)
  by_cases g1:0<=v<;>by_cases g2:v<=9<;>(
   clear H
   go_enter Tryz.func123,Tryz.ntmps123
   go_wp2
   go_ret
   exact⟨by rw[H2.out];simp[g1,g2],rfl⟩)
 by_cases h6:s=6
 ·subst h6
  have H2:=hid (H 0 n rfl rfl)
  by_cases g1:0<=v<;>by_cases g2:v<=n<;>(
   clear H
   go_enter Tryz.func123,Tryz.ntmps123
   go_wp2
   go_ret
   exact⟨by rw[H2.out];simp[g1,g2],rfl⟩)
 have H2:=hid (H 0 0 (if_neg h3) (by unfold Vm.zy;rw[if_neg h1,if_neg h2,if_neg h3,if_neg h4,if_neg h5,if_neg h6]));by_cases g1:v<0
 ·clear H
  go_enter Tryz.func123,Tryz.ntmps123;go_wp2;go_ret;exact⟨by rw[H2.out];simp[show ¬0<=v by omega],rfl⟩
 by_cases g2:0<v
 ·have g3:0<=v:=by omega
  clear H;go_enter Tryz.func123,Tryz.ntmps123;go_wp2;go_ret;exact⟨by rw[H2.out];simp[g3,show ¬v<=0 by omega],rfl⟩
 obtain rfl:v=0:=by omega
 clear H;go_enter Tryz.func123,Tryz.ntmps123;go_wp2;go_ret;exact⟨by rw[H2.out];rfl,rfl⟩
theorem Pq{n:Int}{i:Vm.Ins}(ho:Vm.Xo i=true)(h:∀j,j<3->Vm.dF (Vm.dN i.op j) (Vm.O7 i j) n=true):Vm.pY n i=true:=by
 have h0:Vm.dF (Vm.dN i.op 0) i.a n=true:=h 0 (by omega);have h1:Vm.dF (Vm.dN i.op 1) i.b n=true:=h 1 (by omega);have h2:Vm.dF (Vm.dN i.op 2) i.c n=true:=h 2 (by omega);unfold Vm.pY;rw[ho,h0,h1,h2];rfl
theorem Pr{n:Int}{i:Vm.Ins}(h:∃j,j<3/\Vm.dF (Vm.dN i.op j) (Vm.O7 i j) n=false):Vm.pY n i=false:=by
 obtain⟨j,hj,h⟩:=h;have:j=0\/j=1\/j=2:=by omega
 unfold Vm.pY;rcases this with rfl|rfl|rfl
 ·have h0:Vm.dF (Vm.dN i.op 0) i.a n=false:=h
  rw[h0];simp
 ·have h0:Vm.dF (Vm.dN i.op 1) i.b n=false:=h
  rw[h0];simp
 ·have h0:Vm.dF (Vm.dN i.op 2) i.c n=false:=h
  rw[h0];simp
theorem SH{n:Int}{i:Vm.Ins}(h:Vm.Xo i=false):Vm.pY n i=false:=by
 unfold Vm.pY;rw[h];rfl
theorem Hr{p:List Vm.Ins}(hl:p.length<=128){k:Nat}(hk:k<p.length)(h:Vm.pY p.length p[k]=false):Vm.dr p=1:=by
 unfold Vm.dr;rw[if_neg (by omega),if_neg];intro g;have:=List.all_eq_true.1 g p[k] (zGm hk);rw[h] at this;cases this
theorem CH(p:List Vm.Ins)(v:Value)(S:Nat->Prop)(w:World)(hv:nG S w v p):
  Calls Tryz.prog 92 #[v] w fun e w'=>e=.returned (.int .i64 (Vm.dr p))/\BL w w':=by
 obtain⟨a,cap,rfl,hok,hcap,hmax⟩:=hv.form;have HV:=hid hv;clear hv;by_cases hl:128<p.length
 ·have HE:Hid (Vm.dr p=4):=hid (if_pos hl)
  generalize p.length=n at*;have hl2:(128:Int)<n:=by omega
  go_enter Tryz.func92,Tryz.ntmps92;go_wp2;go_ret;exact⟨by rw[HE.out];rfl,aj⟩
 ·have HL:=hid hl
  obtain⟨n,hn⟩:=nmE p.length;rw[<-hn] at HV hok hcap HL ⊢;have HN:=hid hn;have hl2:¬(128:Int)<n:=by omega
  clear hn;go_enter Tryz.func92,Tryz.ntmps92;go_upto_region 4 with fail;go_loopw [12] (fun x wr=>∃k:Nat,k<=n/\x=.int .i64 (k:Int)/\Hid (∀j (h:j<p.length),j<k->Vm.pY n p[j]=true)/\Hid (BL w wr)) (fun x _=>n-(intOf x).toNat);case atStart=>exact⟨0,Nat.zero_le _,rfl,hid fun j _ h=>absurd h (by omega),hid aj⟩
  case round=>
   obtain⟨k,hk,rfl,HP,HB⟩:=hrel;obtain⟨wo,rfl⟩:=nmE (wr:World);by_cases hlt:k<n
   ·have hk0:(0:Int)<=k:=by omega
    have hk1:(k:Int)<n:=by omega
    have hkp:k<p.length:=by rw[<-HN.out];exact hlt
    obtain⟨-,hz,y0,y1,y2,y3⟩:=(nG.keep HV.out (aA.below HB.out)).at hkp
    have HI:Hid (Vm.pY n p[k]=true->∀j (h:j<p.length),j<k+1->Vm.pY n p[j]=true):=hid (fun h j hj hjk=>by
     by_cases e:j=k
     ·subst e;exact h
     ·exact HP.out j hj (by omega))
    have HJ:Hid (Vm.pY n p[k]=false->Vm.dr p=1):=hid (fun h=>Hr (by have:=HL.out;have:=HN.out;omega) hkp (by rw[<-HN.out];exact h));generalize p[k]=i at*;obtain⟨o,ia,ib,ic⟩:=i;simp only at y0 y1 y2 y3;by_cases ho:0<=o/\o<9
    ·obtain⟨Vu,ho9⟩:=ho
     have HOP:Hid (Vm.Xo ⟨o,ia,ib,ic⟩=true):=hid (by unfold Vm.Xo;simp[Vu,ho9]);obtain⟨sw,hsw⟩:=E6 o Vu ho9;have HNu:=hid (fun W=>E5 ⟨o,ia,ib,ic⟩ W);simp only[Hq] at HNu;have HSW:=hid hsw;clear hsw;have hno:¬(o:Int)<0:=by omega
     have hno9:¬(9:Int)<=o:=by omega
     obtain⟨w1,hw1⟩:=nmE (wo.alloc (.cells #[.int .i64 o,.int .i64 ia,.int .i64 ib,.int .i64 ic] 121));have aW:Hid (Below wo.heap.size wo w1):=hid (by rw[hw1];exact aj.alloc aB _);have HK:Hid (w1.heap[wo.heap.size]?=some (.cells #[.int .i64 o,.int .i64 ia,.int .i64 ib,.int .i64 ic] 121 (0,0))):=hid (by rw[hw1];exact aD wo _ rfl);obtain⟨⟨k0,k1,k2,k3⟩, -⟩:=aO HK.out;go_upto_region 6 with fail;rw[<-hw1];clear hw1;go_wp2_with fail;refine(HNu.out _).mono ?_;rintro e w2 ⟨rfl,hb2⟩;have bB:=hid hb2;have rG:Hid (w2.heap[wo.heap.size]?=some (.cells #[.int .i64 o,.int .i64 ia,.int .i64 ib,.int .i64 ic] 121 (0,0))):=hid ((hb2.block _ (ay HK.out)).trans HK.out);have HBO:Hid (BL w w2):=hid (tnB HB.out (tnB aW.out hb2));clear hb2 k0 k1 k2 k3 y0 y1 y2 y3;go_upto_region 9 with fail;go_loopw [26] (fun x wr=>∃j:Nat,j<=3/\x=.int .i64 (j:Int)/\Hid (∀j',j'<j->Vm.dF (Vm.dN o j') (Vm.O7 ⟨o,ia,ib,ic⟩ j') n=true)/\Hid (BL w2 wr)) (fun x _=>3-(intOf x).toNat);case atStart=>exact⟨0,by omega,rfl,hid fun j' h=>absurd h (by omega),hid aj⟩
     case round=>
      obtain⟨j,hj,rfl,HF,bG⟩:=hrel;obtain⟨wi,rfl⟩:=nmE (wr:World);by_cases hj3:j<3
      ·have hj4:(j:Int)<3:=by omega
       have hi1:=wT ia ib ic j hj3;have hi2:=wT (Vm.dN o 0) (Vm.dN o 1) (Vm.dN o 2) j hj3;rw[Po o j hj3] at hi2;obtain⟨vj,hvj⟩:=nmE ((if j=0 then ia else if j=1 then ib else ic));rw[<-hvj] at hi1;have HVJ:Hid (Vm.O7 ⟨o,ia,ib,ic⟩ j=vj):=hid (by rw[hvj];rfl);have hf2:=Li sw (Vm.dN o 0) (Vm.dN o 1) (Vm.dN o 2);have rH:Hid (wi.heap[wo.heap.size]?=some (.cells #[.int .i64 o,.int .i64 ia,.int .i64 ib,.int .i64 ic] 121 (0,0))):=hid ((bG.out.block _ (ay rG.out)).trans rG.out);obtain⟨⟨k0,k1,k2,k3⟩, -⟩:=aO rH.out;have hzi:wo.heap.size<wi.heap.size:=ay rH.out;have Ps:=hid (fun(x:lK wi)=>Calls.nX (x:=x) ((Pp (Vm.dN o j) vj n x.1).mono fun e w' ⟨h1,h2⟩=>⟨h1,by rw[h2];exact aj⟩));have Rq:=hid (fun(x:lK wi)=>Calls.nX (x:=x) (Lh x.1))
       have HG:Hid (Vm.dF (Vm.dN o j) vj n=true->∀j',j'<j+1->Vm.dF (Vm.dN o j') (Vm.O7 ⟨o,ia,ib,ic⟩ j') n=true):=hid (fun h j' hj'=>by
        by_cases e:j'=j
        ·subst e;rw[HVJ.out];exact h
        ·exact HF.out j' (by omega))
       have HG2:Hid (Vm.dF (Vm.dN o j) vj n=false->Vm.pY n ⟨o,ia,ib,ic⟩=false):=hid (fun h=>Pr ⟨j,hj3,by rw[HVJ.out];exact h⟩);have hsw:=HSW.out;clear hvj;generalize Vm.dN o j=sj at*;generalize Vm.dN o 0=s0 at*;generalize Vm.dN o 1=s1 at*;generalize Vm.dN o 2=s2 at*;go_wp2;have hg:=lK.cell (w:=wi);refine eP (by kernel_rfl) (by kernel_rfl) ?_;go_big_quiet_step ((exact Rq.out _));repeat (go_big_quiet_step ((exact Ps.out _)))
       refine zWq ?_;intro w4 hx;have dO:=hid (jR hx);clear hx hg;generalize wO:Vm.dF sj vj n=fb at*;cases fb with
       |true=>
        have sP:=hid (HG.out rfl)
        have dP:=bq bG dO.out
        clear wO HG HG2 k0 k1 k2 k3 hi1 hi2 hsw
        go_wp2
        go_roundw
        case rel=>exact⟨j+1,by omega,by go_num,sP,dP⟩
        simp[intOf];omega
       |false=>
        have sP:=hid (HJ.out (HG2.out rfl))
        have dP:=hid (tnB HBO.out (tnB bG.out dO.out))
        clear wO HG HG2 k0 k1 k2 k3 hi1 hi2 hsw
        go_wp2
        go_ret
        exact⟨by rw[sP.out];rfl,dP.out⟩
      ·have hj3':¬(j:Int)<3:=by omega
       have sP:=hid (HI.out (Pq HOP.out fun j' hj'=>HF.out j' (by omega)));have dP:=bq HBO bG.out;go_wp2;go_roundw;case rel=>exact⟨k+1,by omega,by go_num,sP,dP⟩
       simp[intOf];omega
    ·have sP:=hid (HJ.out (SH (by unfold Vm.Xo;simp only[Bool.and_eq_false_iff,decide_eq_false_iff_not];omega)))
     have HBF:Hid (∀o,BL w (wo.alloc o)):=hid fun o=>HB.out.alloc HB.out.size _;by_cases Vu:o<0
     ·go_wp2
      go_ret;exact⟨by rw[sP.out];rfl,HBF.out _⟩
     ·have ho9:(9:Int)<=o:=by omega
      go_wp2;go_ret;exact⟨by rw[sP.out];rfl,HBF.out _⟩
   ·have HE:Hid (Vm.dr p=0):=hid (by
     unfold Vm.dr
     rw[if_neg (by have:=HL.out;have:=HN.out;omega),if_pos]
     rw[List.all_eq_true]
     intro i hi
     obtain⟨j,hj,rfl⟩:=List.getElem_of_mem hi
     have:=HP.out j hj (by have:=HN.out;omega)
     rwa [HN.out] at this)
    go_wp2;go_ret;exact⟨by rw[HE.out];rfl,HB.out⟩
theorem aZ{P:Program}{f:FuncId}{fn:Func}{c:Code}(hf:P.funcs[f]?=some fn)(hn:(fn.name== "runtime.NumGoroutine")=false)(hb:fn.body=some c)(args:Array Value)(w:World):(callFunc f args).run P w=.ok (.enter f args) w:=by
 have hne:¬fn.name= "runtime.NumGoroutine" :=by simpa using hn
 simp[callFunc,hf,hne,hb,mark]
def Bp(S:Nat->Prop)(w:World)(b:Nat)(x:ah.bD):Prop:=
 ∃ak ck al cl ar cr,w.heap[b]?=some (.cells #[.int .i64 x.af6,.slice ak x.af3.length ck,.slice al x.af7.length cl,.slice ar x.af8.length cr] 27 (0,0))/\fV S w (.slice ak x.af3.length ck) x.af3/\rE S w (.slice al x.af7.length cl) x.af7/\tA S w (.slice ar x.af8.length cr) x.af8/\
  dG ak x.af3.length/\dG al x.af7.length/\dG ar x.af8.length
theorem Bp.keep{S:Nat->Prop}{w w':World}{b:Nat}{x:ah.bD}(h:Bp S w b x)(hk:aA S w w')(hb:w'.heap[b]?=w.heap[b]?):Bp S w' b x:=by
 obtain⟨ak,ck,al,cl,ar,cr,h1,h2,h3,h4,h5⟩:=h;exact⟨ak,ck,al,cl,ar,cr,hb.trans h1,h2.keep hk,dA.keep cE h3 hk,dA.keep dS h4 hk,h5⟩
theorem Bp.lt{S:Nat->Prop}{w:World}{b:Nat}{x:ah.bD}(h:Bp S w b x):b<w.heap.size:=by
 obtain⟨ak,ck,al,cl,ar,cr,h1, -⟩:=h;exact ay h1
theorem Bp.below{S:Nat->Prop}{w w':World}{b:Nat}{x:ah.bD}(h:Bp S w b x)(hb:BL w w'):Bp S w' b x:=h.keep (aA.below hb) (hb.block _ h.lt)
theorem CJ{x:ah.bD}{i:Vm.Ins}(h:i.op=4):Vm.gG x i=decide (i.b<x.af3.length):=by unfold Vm.gG;rw[if_pos h]
theorem vE{x:ah.bD}{i:Vm.Ins}(h:i.op=5):Vm.gG x i=(decide (i.b<x.af3.length)&&decide (i.c<(ah.kd x i.b).af4.length)):=by unfold Vm.gG;rw[if_neg (by omega),if_pos h]
theorem Pt{x:ah.bD}{i:Vm.Ins}(h4:¬i.op=4)(h5:¬i.op=5):Vm.gG x i=true:=by unfold Vm.gG;rw[if_neg h4,if_neg h5]
theorem Hs(x:ah.bD)(i:Vm.Ins)(hi:i.op=5->0<=i.b)(b:Nat)(S:Nat->Prop)(w:World)(hx:Bp S w b x):
  Calls Tryz.prog 128 #[.agg (Hq i).toArray,.pointer (some ⟨b,0,none⟩)] w fun e w'=>e=.returned (.bool (!Vm.gG x i))/\BL w w':=by
 have HX:=hid hx;obtain⟨ak,ck,al,cl,ar,cr,M5,hk, -, -,hsk, -, -⟩:=hx;obtain⟨o,ia,ib,ic⟩:=i;simp only at hi;simp only[Hq];obtain⟨w1,hw1⟩:=nmE (w.alloc (.cells #[.int .i64 o,.int .i64 ia,.int .i64 ib,.int .i64 ic] 121));have aW:Hid (Below w.heap.size w w1):=hid (by rw[hw1];exact aj.alloc aB _);have HK:Hid (w1.heap[w.heap.size]?=some (.cells #[.int .i64 o,.int .i64 ia,.int .i64 ib,.int .i64 ic] 121 (0,0))):=hid (by rw[hw1];exact aD w _ rfl);have rM:Hid (w1.heap[b]?=some (.cells #[.int .i64 x.af6,.slice ak x.af3.length ck,.slice al x.af7.length cl,.slice ar x.af8.length cr] 27 (0,0))):=hid ((aW.out.block _ (ay M5)).trans M5);have HKn:=hid (hk.keep (aA.below aW.out));obtain⟨⟨k0,k1,k2,k3⟩, -⟩:=aO HK.out;obtain⟨⟨-,x1, -, -⟩, -⟩:=aO rM.out;have HW:=hid hw1;clear M5 hk hw1;by_cases h4:o=4
 ·subst h4
  have HN:Hid (Vm.gG x ⟨4,ia,ib,ic⟩=decide (ib<x.af3.length)):=hid (CJ rfl);generalize x.af3.length=n at*;by_cases h:(n:Int)<=ib
  ·have CK:Hid (Vm.gG x ⟨4,ia,ib,ic⟩=false):=hid (by rw[HN.out];exact decide_eq_false (by omega))
   have hd:decide ((n:Int)<=ib)=true:=decide_eq_true h;go_enter Tryz.func128,Tryz.ntmps128;go_upto_region 1 with fail;rw[<-HW.out];go_wp2;go_quiet (fail);go_wp2;go_ret;exact⟨by rw[CK.out];rfl,af5 aW.out _⟩
  ·have CK:Hid (Vm.gG x ⟨4,ia,ib,ic⟩=true):=hid (by rw[HN.out];exact decide_eq_true (by omega))
   have hd:decide ((n:Int)<=ib)=false:=decide_eq_false h;go_enter Tryz.func128,Tryz.ntmps128;go_upto_region 1 with fail;rw[<-HW.out];go_wp2;go_quiet (fail);go_wp2;go_ret;exact⟨by rw[CK.out];rfl,af5 aW.out _⟩
 ·by_cases h5:o=5
  ·subst h5
   have HN:Hid (Vm.gG x ⟨5,ia,ib,ic⟩=(decide (ib<x.af3.length)&&decide (ic<(ah.kd x ib).af4.length))):=hid (vE rfl);have hi:=hi rfl;obtain⟨n,hn⟩:=nmE x.af3.length;rw[<-hn] at HN x1 HKn hsk;by_cases h:(n:Int)<=ib
   ·have CK:Hid (Vm.gG x ⟨5,ia,ib,ic⟩=false):=hid (by rw[HN.out,decide_eq_false (show ¬ib<(n:Int) by omega)];rfl)
    have hd:decide ((n:Int)<=ib)=true:=decide_eq_true h;clear hn;go_enter Tryz.func128,Tryz.ntmps128;go_upto_region 1 with fail;rw[<-HW.out];go_wp2;go_quiet (fail);go_wp2;go_ret;exact⟨by rw[CK.out];rfl,af5 aW.out _⟩
   ·have hd:decide ((n:Int)<=ib)=false:=decide_eq_false h
    obtain⟨j,rfl⟩:∃j:Nat,ib=(j:Int):=⟨ib.toNat,by omega⟩;have hj0:(0:Int)<=j:=by omega
    have hj1:(j:Int)<n:=by omega
    have hjx:j<x.af3.length:=by rw[<-hn];omega
    have hd2:decide (n<=j)=false:=decide_eq_false (by omega);obtain⟨-, -, -, -, -,uf,y3,hf⟩:=HKn.out.at hjx;obtain⟨af,cf,rfl, -⟩:=hf.form;have HM:Hid ((ah.kd x (j:Int)).af4.length=x.af3[j].af4.length):=hid (by rw[fM hjx]);rw[HM.out] at HN;clear hn hf;generalize x.af3[j].af4.length=m at*;by_cases g:(m:Int)<=ic
    ·have CK:Hid (Vm.gG x ⟨5,ia,(j:Int),ic⟩=false):=hid (by rw[HN.out,decide_eq_false (show ¬ic<(m:Int) by omega),Bool.and_false])
     go_enter Tryz.func128,Tryz.ntmps128;go_upto_region 1 with fail;rw[<-HW.out];go_wp2;go_quiet (fail);go_wp2;go_ret;exact⟨by rw[CK.out];simp,af5 aW.out _⟩
    ·have CK:Hid (Vm.gG x ⟨5,ia,(j:Int),ic⟩=true):=hid (by rw[HN.out,decide_eq_true (show ic<(m:Int) by omega),decide_eq_true hj1];rfl)
     go_enter Tryz.func128,Tryz.ntmps128;go_upto_region 1 with fail;rw[<-HW.out];go_wp2;go_quiet (fail);go_wp2;go_ret;exact⟨by rw[CK.out];simp[g],af5 aW.out _⟩
  ·have HN:Hid (Vm.gG x ⟨o,ia,ib,ic⟩=true):=hid (Pt h4 h5)
   have e4:(o !=4)=true:=by simpa using h4
   have e5:(o !=5)=true:=by simpa using h5
   go_enter Tryz.func128,Tryz.ntmps128;go_upto_region 1 with fail;rw[<-HW.out];go_wp2;go_ret;exact⟨by rw[HN.out];rfl,aW.out⟩
theorem Lj(x:ah.bD)(p:List Vm.Ins)(hp:∀i∈p,i.op=5->0<=i.b)(v u:Value)(S T:Nat->Prop)(w:World)(hv:eU S w v x)(hu:nG T w u p):
  Calls Tryz.prog 101 #[v,u] w fun e w'=>e=.returned (.bool (Vm.pZ x p))/\BL w w':=by
 obtain⟨ak,ck,al,cl,ar,cr,rfl,hk,hl,hr,hsk,hsl,hsr⟩:=hv.form;obtain⟨w1,hw1⟩:=nmE (bE w x.af6 (.slice ak x.af3.length ck) (.slice al x.af7.length cl) (.slice ar x.af8.length cr));have aW:=afX hw1
 have HX:Hid (Bp S w1 w.heap.size x):=hid (by
  rw[hw1]
  exact⟨ak,ck,al,cl,ar,cr,bf ..,hk.keep (aA.below (aQ ..)),dA.keep cE hl (aA.below (aQ ..)),dA.keep dS hr (aA.below (aQ ..)),hsk,hsl,hsr⟩)
 unfold bE at hw1;have HU:=hid (hu.keep (aA.below aW.out));obtain⟨au,cu,rfl, -⟩:=hu.form
 have HC:=hid (Sz zF p (fun i=> !Vm.gG x i) _ T w1 HU.out 128 #[.pointer (some ⟨w.heap.size,0,none⟩)] (aZ Tryz.func128 (by kernel_rfl) rfl)
  (fun X hX j hj us _ pE=>by
   have e:us=Hq p[j]:=pE;subst e;exact Hs x p[j] (hp _ (zGm hj)) w.heap.size S X (HX.out.below hX)))
 have HN:Hid (p.any (fun i=> !Vm.gG x i)= !Vm.pZ x p):=hid (by
  unfold Vm.pZ
  rw[List.not_all_eq_any_not])
 rw[HN.out] at HC;clear hv hk hl hr hu;have HW:=hid hw1;clear hw1;go_enter Tryz.func101,Tryz.ntmps101;go_upto_region 1 with fail;rw[<-HW.out];go_wp2_with fail;refine HC.out.mono ?_;rintro e w' ⟨rfl,hb⟩;have HB:=bq aW hb;clear hb;go_wp2;go_ret;exact⟨by simp,HB.out⟩
structure Src(T fc fv:Nat)(W:ah.bK)(uw:Value)(w0:World):Prop where
 nil:∀w,(nilAhead 457 T (.agg #[uw]) "Value").run Tryz.prog w=.ok (some false) w
 mc:∀w,(method 457 T (.agg #[uw]) "Count").run Tryz.prog w=.ok (fc,.agg #[uw]) w
 mv:∀w,(method 457 T (.agg #[uw]) "Value").run Tryz.prog w=.ok (fv,.agg #[uw]) w
 ec:∀args w,(callFunc fc args).run Tryz.prog w=.ok (.enter fc args) w
 ev:∀args w,(callFunc fv args).run Tryz.prog w=.ok (.enter fv args) w
 count:∀X,BL w0 X->∀k:Nat,k<W.length->CP fc #[.agg #[uw],.int .i64 (k:Int)] X fun e w'=>e=.returned (.int .i64 (Vm.kO W k:Nat))/\BL X w'
 value:∀X,BL w0 X->∀(k i f:Nat) (hk:k<W.length) (hi:i<W[k].length) (_:f<W[k][i].length),Calls Tryz.prog fv #[.agg #[uw],.int .i64 (k:Int),.int .i64 (i:Int),.int .i64 (f:Int)] X fun e w'=>e=.returned (.int .i64 (Vm.E2 W k i f))/\BL X w'
theorem Pu{W:ah.bK}{p:List Vm.Ins}(f at':Nat)(r:List Int)(n:Nat)(h:at'=p.length):Vm.oW W p f at' r n=(0,(n:Int),0):=by
 cases f<;>unfold Vm.oW<;>rw[if_pos h]
theorem Pv{W:ah.bK}{p:List Vm.Ins}(at':Nat)(r:List Int)(n:Nat)(h:at'≠p.length):Vm.oW W p 0 at' r n=(0,0,23):=by
 unfold Vm.oW;rw[if_neg h]
theorem Ll{W:ah.bK}{p:List Vm.Ins}(f at':Nat)(r:List Int)(n:Nat)(h:at'<p.length){r':List Int}{Le:Nat}(hs:Vm.step W p[at'] r (at'+1)=(none,r',Le)):Vm.oW W p (f+1) at' r n=Vm.oW W p f Le r' (n+1):=by
 have e:p.getD at' Vm.CA=p[at']:=by rw[zGd,zEg h];rfl
 conv=>lhs;unfold Vm.oW
 rw[if_neg (by omega),e,hs]
theorem Lm{W:ah.bK}{p:List Vm.Ins}(f at':Nat)(r:List Int)(n:Nat)(h:at'<p.length){c:Int}{r':List Int}{Le:Nat}(hs:Vm.step W p[at'] r (at'+1)=(some c,r',Le)):Vm.oW W p (f+1) at' r n=(c,((n+1:Nat):Int),0):=by
 have e:p.getD at' Vm.CA=p[at']:=by rw[zGd,zEg h];rfl
 conv=>lhs;unfold Vm.oW
 rw[if_neg (by omega),e,hs]
def kY(r:List Int):Array Value:=(r.map (Value.int .i64)).toArray
theorem j7{r:List Int}(h8:r.length=8){w:World}{g:Nat}(h:w.heap[g]?=some (.cells (kY r) 192 (0,0)))(k:Nat)(hk:k<8):w.cell? ⟨g,k,none⟩=some (.int .i64 (Vm.je r k)):=by
 rw[aI h];unfold kY Vm.je;simp[zGd,zEg (show k<r.length by omega)]
theorem qg(r:List Int)(k:Nat)(v:Int):(kY r).setIfInBounds k (.int .i64 v)=kY (Vm.iR r k v):=by
 unfold kY Vm.iR;simp[List.map_set]
theorem tQ(g b ia:Nat)(hia:ia<8)(v:Int)(w:World)(r:List Int)(h8:r.length=8)(hg:w.heap[g]?=some (.cells (kY r) 192 (0,0)))(hb:w.cell? ⟨b,1,none⟩=some (.int .i64 (ia:Int))):
  Calls Tryz.prog 102 #[.int .i64 v,.pointer (some ⟨g,0,none⟩),.pointer (some ⟨b,0,none⟩)] w fun e w'=>e=.returned (.tuple #[])/\w.setCell ⟨g,ia,none⟩ (.int .i64 v)=w':=by
 have hc:=j7 h8 hg ia hia;have hf:=bh hg ia;have h0:(0:Int)<=ia:=by omega
 have h1:(ia:Int)<8:=by omega
 go_enter Tryz.func102,Tryz.ntmps102;go_wp2;go_end0;exact⟨rfl,rfl⟩
theorem iV{w:World}{g:Nat}{x y e:Value}{tmps:Array Value}(h:w.heap[g]?=some (.cells #[x,y] 137 (0,0)))(hp:tmps[8]?=some (.pointer (some ⟨g,0,none⟩)))(hq:tmps[9]?=some e):
  (results Tryz.f64 tmps).run Tryz.prog w=.ok (.tuple #[.agg #[x,y],e]) w:=by
 have h0:w.cell? ⟨g,0,none⟩=some x:=(aI h 0).trans rfl;have h1:w.cell? ⟨g,1,none⟩=some y:=(aI h 1).trans rfl;simp[results,Tryz.results64,go_sem,hp,hq,h0,h1]
theorem j8{w:World}{g:Nat}{x y:Value}(h:w.heap[g]?=some (.cells #[x,y] 137 (0,0)))(a b:Value):((w.setCell ⟨g,0,none⟩ a).setCell ⟨g,1,none⟩ b).heap[g]?=some (.cells #[a,b] 137 (0,0)):=
 heap_setCell_same _ g 1 _ _ b (heap_setCell_same _ g 0 _ _ a h)
def DI(x:Int×Int×Int)(w:World)(e:Ending)(w':World):Prop:=e=.returned (.tuple #[.agg #[.int .i64 x.1,.int .i64 x.2.1],.int .i64 x.2.2])/\BL w w'
theorem DI.mk{x:Int×Int×Int}{w w':World}{a b c:Int}(h:x=(a,b,c))(hb:BL w w'):DI x w (.returned (.tuple #[.agg #[.int .i64 a,.int .i64 b],.int .i64 c])) w':=by
 rw[h];exact⟨rfl,hb⟩
theorem DJ(p:List Vm.Ins):Vm.dr p=0\/Vm.dr p=1\/Vm.dr p=4:=by
 unfold Vm.dr;split
 ·exact .inr (.inr rfl)
 ·split
  ·exact .inl rfl
  ·exact .inr (.inl rfl)
theorem DK(x:ah.bD)(W:ah.bK)(p:List Vm.Ins)(most:Int)(hm0: -9223372036854775808<=most)(hm1:most<=9223372036854775807)(hlen:W.length=x.af3.length)(hrec:∀(k:Nat) (h:k<W.length),∀r∈W[k],r.length=(ah.kd x k).af4.length)
  (T fc fv:Nat)(uw v u:Value)(S T':Nat->Prop)(w:World)(hv:eU S w v x)(hu:nG T' w u p)(hs:Src T fc fv W uw w):
  Calls Tryz.prog 64 #[v,u,.iface T (.agg #[uw]),.int .i64 most] w (DI (Vm.jK x W p most) w):=by
 obtain⟨ak,ck,al,cl,ar,cr,rfl,hk,hl,hr,hsk,hsl,hsr⟩:=hv.form;obtain⟨au,cu,rfl,hsu,hcu,hmu⟩:=hu.form;obtain⟨w1,hw1⟩:=nmE ((bE w x.af6 (.slice ak x.af3.length ck) (.slice al x.af7.length cl) (.slice ar x.af8.length cr)).alloc (.cells #[.int .i64 0,.int .i64 0] 137));have aW:Hid (Below w.heap.size w w1):=hid (by rw[hw1];exact(aQ ..).alloc (aQ ..).size _);have rM:Hid (w1.heap[w.heap.size]?=some (.cells #[.int .i64 x.af6,.slice ak x.af3.length ck,.slice al x.af7.length cl,.slice ar x.af8.length cr] 27 (0,0))):=hid (by rw[hw1];exact aG _ (bf ..));have zH:Hid (w1.heap[w.heap.size+1]?=some (.cells #[.int .i64 0,.int .i64 0] 137 (0,0))):=hid (by rw[hw1];exact aD _ _ (by simp[bE]));unfold bE at hw1;have HW:=hid hw1;clear hw1;have HV:=hid hv;have HU:=hid hu;have HS:=hid hs;have xX:=hid hlen;have HRec:=hid hrec;have Ef:=hid (CH p _ T' w1 (hu.keep (aA.below aW.out)))
 have Ln:Hid (∀(W':World) (ee:Int) (e4:Int×Int×Int),BL w W'->e4=(0,0,ee)->DI e4 w (.returned (.tuple #[.agg #[.int .i64 0,.int .i64 0],.int .i64 ee])) ((W'.setCell ⟨w.heap.size+1,0,none⟩ (.int .i64 0)).setCell ⟨w.heap.size+1,1,none⟩ (.int .i64 0))):=
  hid (fun W' ee e4 h1 h3=>DI.mk h3 ((h1.setCell (p:=⟨w.heap.size+1,0,none⟩) (by simp) _).setCell (p:=⟨w.heap.size+1,1,none⟩) (by simp) _))
 clear hv hu hs hk hl hr hlen hrec;obtain⟨n0,hn0⟩:=nmE p.length;have HN:=hid hn0;rw[<-hn0] at hsu hcu Ef HU ⊢;clear hn0;have hve:=DJ p;by_cases Bq:¬Vm.dr p=0
 ·have HE:Hid (Vm.jK x W p most=(0,0,Vm.dr p)):=hid (by unfold Vm.jK;rw[if_pos Bq])
  rcases hve with h|h|h
  ·exact absurd h Bq
  ·rw[h] at Ef HE
   clear h Bq;go_enter Tryz.func64,Tryz.ntmps64;go_upto_region 1 with fail;rw[<-HW.out];go_wp2_with fail;refine Ef.out.mono ?_;rintro e w2 ⟨rfl,hb2⟩;have bB:=bq aW hb2;have HG2:Hid (w2.heap[w.heap.size+1]?=some (.cells #[.int .i64 0,.int .i64 0] 137 (0,0))):=hid ((hb2.block _ (ay zH.out)).trans zH.out);have Ht:Hid (w2.heap[w.heap.size]?=some (.cells #[.int .i64 x.af6,.slice ak x.af3.length ck,.slice al x.af7.length cl,.slice ar x.af8.length cr] 27 (0,0))):=hid ((hb2.block _ (ay rM.out)).trans rM.out);clear hb2;have c0:w2.cell? ⟨w.heap.size+1,0,none⟩=some (.int .i64 0):=(aI HG2.out 0).trans rfl;have c1:w2.cell? ⟨w.heap.size+1,1,none⟩=some (.int .i64 0):=(aI HG2.out 1).trans rfl;have f0:=bh HG2.out 0;have f1:=bh HG2.out 1;go_wp2;refine bodyPost_ret (iV (j8 HG2.out _ _) rfl rfl) rfl (Ln.out w2 _ _ bB.out HE.out)
  ·rw[h] at Ef HE
   clear h Bq;go_enter Tryz.func64,Tryz.ntmps64;go_upto_region 1 with fail;rw[<-HW.out];go_wp2_with fail;refine Ef.out.mono ?_;rintro e w2 ⟨rfl,hb2⟩;have bB:=bq aW hb2;have HG2:Hid (w2.heap[w.heap.size+1]?=some (.cells #[.int .i64 0,.int .i64 0] 137 (0,0))):=hid ((hb2.block _ (ay zH.out)).trans zH.out);have Ht:Hid (w2.heap[w.heap.size]?=some (.cells #[.int .i64 x.af6,.slice ak x.af3.length ck,.slice al x.af7.length cl,.slice ar x.af8.length cr] 27 (0,0))):=hid ((hb2.block _ (ay rM.out)).trans rM.out);clear hb2;have c0:w2.cell? ⟨w.heap.size+1,0,none⟩=some (.int .i64 0):=(aI HG2.out 0).trans rfl;have c1:w2.cell? ⟨w.heap.size+1,1,none⟩=some (.int .i64 0):=(aI HG2.out 1).trans rfl;have f0:=bh HG2.out 0;have f1:=bh HG2.out 1;go_wp2;refine bodyPost_ret (iV (j8 HG2.out _ _) rfl rfl) rfl (Ln.out w2 _ _ bB.out HE.out)
 have Bq:=Classical.not_not.1 Bq;clear hve;have Vv:=hid (Vm.E3 Bq);have Nc:Hid (Vm.jK x W p most=if most<0\/1000000<most then (0,0,4) else if Vm.pZ x p=false then (0,0,12) else Vm.oW W p most.toNat 0 Vm.zA 0):=hid (by unfold Vm.jK;rw[if_neg (by simpa using Bq)]);rw[Bq] at Ef;clear Bq;by_cases hlo:most<0
 ·have HE:Hid (Vm.jK x W p most=(0,0,4)):=hid (by rw[Nc.out,if_pos (.inl hlo)])
  go_enter Tryz.func64,Tryz.ntmps64;go_upto_region 1 with fail;rw[<-HW.out];go_wp2_with fail;refine Ef.out.mono ?_;rintro e w2 ⟨rfl,hb2⟩;have bB:=bq aW hb2;have HG2:Hid (w2.heap[w.heap.size+1]?=some (.cells #[.int .i64 0,.int .i64 0] 137 (0,0))):=hid ((hb2.block _ (ay zH.out)).trans zH.out);have Ht:Hid (w2.heap[w.heap.size]?=some (.cells #[.int .i64 x.af6,.slice ak x.af3.length ck,.slice al x.af7.length cl,.slice ar x.af8.length cr] 27 (0,0))):=hid ((hb2.block _ (ay rM.out)).trans rM.out);clear hb2;have c0:w2.cell? ⟨w.heap.size+1,0,none⟩=some (.int .i64 0):=(aI HG2.out 0).trans rfl;have c1:w2.cell? ⟨w.heap.size+1,1,none⟩=some (.int .i64 0):=(aI HG2.out 1).trans rfl;have f0:=bh HG2.out 0;have f1:=bh HG2.out 1;go_wp2;refine bodyPost_ret (iV (j8 HG2.out _ _) rfl rfl) rfl (Ln.out w2 _ _ bB.out HE.out)
 by_cases hhi:1000000<most
 ·have HE:Hid (Vm.jK x W p most=(0,0,4)):=hid (by rw[Nc.out,if_pos (.inr hhi)])
  go_enter Tryz.func64,Tryz.ntmps64;go_upto_region 1 with fail;rw[<-HW.out];go_wp2_with fail;refine Ef.out.mono ?_;rintro e w2 ⟨rfl,hb2⟩;have bB:=bq aW hb2;have HG2:Hid (w2.heap[w.heap.size+1]?=some (.cells #[.int .i64 0,.int .i64 0] 137 (0,0))):=hid ((hb2.block _ (ay zH.out)).trans zH.out);have Ht:Hid (w2.heap[w.heap.size]?=some (.cells #[.int .i64 x.af6,.slice ak x.af3.length ck,.slice al x.af7.length cl,.slice ar x.af8.length cr] 27 (0,0))):=hid ((hb2.block _ (ay rM.out)).trans rM.out);clear hb2;have c0:w2.cell? ⟨w.heap.size+1,0,none⟩=some (.int .i64 0):=(aI HG2.out 0).trans rfl;have c1:w2.cell? ⟨w.heap.size+1,1,none⟩=some (.int .i64 0):=(aI HG2.out 1).trans rfl;have f0:=bh HG2.out 0;have f1:=bh HG2.out 1;go_wp2;refine bodyPost_ret (iV (j8 HG2.out _ _) rfl rfl) rfl (Ln.out w2 _ _ bB.out HE.out)
 have Ks:Hid (Vm.jK x W p most=if Vm.pZ x p=false then (0,0,12) else Vm.oW W p most.toNat 0 Vm.zA 0):=hid (by rw[Nc.out,if_neg (by omega)])
 have M6:=hid (fun W' (hb:BL w W')=>Lj x p (fun i hi h5=>by
  have:=Vm.af0 (Vv.out.2 i hi);omega) _ _ S T' W' (HV.out.keep (aA.below hb)) (HU.out.keep (aA.below hb)))
 obtain⟨M,rfl⟩:∃M:Nat,most=(M:Int):=⟨most.toNat,by omega⟩;have hM:M<=1000000:=by omega
 go_enter Tryz.func64,Tryz.ntmps64;go_upto_region 1 with fail;rw[<-HW.out];go_wp2_with fail;refine Ef.out.mono ?_;rintro e w2 ⟨rfl,hb2⟩;have bB:=bq aW hb2;have HG2:Hid (w2.heap[w.heap.size+1]?=some (.cells #[.int .i64 0,.int .i64 0] 137 (0,0))):=hid ((hb2.block _ (ay zH.out)).trans zH.out);have Ht:Hid (w2.heap[w.heap.size]?=some (.cells #[.int .i64 x.af6,.slice ak x.af3.length ck,.slice al x.af7.length cl,.slice ar x.af8.length cr] 27 (0,0))):=hid ((hb2.block _ (ay rM.out)).trans rM.out);clear hb2;obtain⟨⟨s0,s1,s2,s3⟩, -⟩:=aO Ht.out;have c0:w2.cell? ⟨w.heap.size+1,0,none⟩=some (.int .i64 0):=(aI HG2.out 0).trans rfl;have c1:w2.cell? ⟨w.heap.size+1,1,none⟩=some (.int .i64 0):=(aI HG2.out 1).trans rfl;have f0:=bh HG2.out 0;have f1:=bh HG2.out 1;clear c0 c1 f0 f1;have HNm2:=hid (M6.out w2 bB.out);clear M6;go_upto_region 6 with fail;go_wp2_with fail;refine HNm2.out.mono ?_;rintro e w3 ⟨rfl,hb3⟩;have bG:=bq bB hb3;have sP:Hid (w3.heap[w.heap.size+1]?=some (.cells #[.int .i64 0,.int .i64 0] 137 (0,0))):=hid ((hb3.block _ (ay HG2.out)).trans HG2.out);clear hb3 s0 s1 s2 s3;by_cases hnm:Vm.pZ x p=false
 ·have HE:Hid (Vm.jK x W p M=(0,0,12)):=hid (by rw[Ks.out,if_pos hnm])
  rw[hnm];have c0:w3.cell? ⟨w.heap.size+1,0,none⟩=some (.int .i64 0):=(aI sP.out 0).trans rfl;have c1:w3.cell? ⟨w.heap.size+1,1,none⟩=some (.int .i64 0):=(aI sP.out 1).trans rfl;have f0:=bh sP.out 0;have f1:=bh sP.out 1;go_wp2;refine bodyPost_ret (iV (j8 sP.out _ _) rfl rfl) rfl (Ln.out w3 _ _ bG.out HE.out)
 have hnm:Vm.pZ x p=true:=by simpa using hnm
 have Cy:Hid (Vm.oW W p M 0 Vm.zA 0=Vm.jK x W p M):=hid (by rw[Ks.out,if_neg (by rw[hnm];simp),Int.toNat_natCast]);have HNI:Hid (∀i∈p,Vm.gG x i=true):=hid (List.all_eq_true.1 hnm);rw[hnm];obtain⟨Rr,hRr⟩:=nmE (Vm.jK x W p M);rw[<-hRr] at Cy;have Gf:=hid hRr.symm;clear hnm hRr Nc Ks;obtain⟨rb,hrb⟩:=nmE w3.heap.size;obtain⟨w4,hw4⟩:=nmE (w3.alloc (.cells (kY Vm.zA) 192));have dO:Hid (Below w.heap.size w w4):=hid (by rw[hw4];exact bG.out.alloc bG.out.size _);have Kv:Hid (w4.heap[w.heap.size+1]?=some (.cells #[.int .i64 0,.int .i64 0] 137 (0,0))):=hid (by rw[hw4];exact aG _ sP.out);have HQ4:Hid (w4.heap[rb]?=some (.cells (kY Vm.zA) 192 (0,0))):=hid (by rw[hw4,hrb];exact aD _ _ rfl);have Rs:Hid (w.heap.size+1<rb):=hid (by rw[hrb];exact ay sP.out);have jO:w3.alloc (.cells #[.int .i64 0,.int .i64 0,.int .i64 0,.int .i64 0,.int .i64 0,.int .i64 0,.int .i64 0,.int .i64 0] 192)=w4:=by rw[hw4];rfl
 clear hw4;have yI:=hid jO;have HRB2:=hid hrb;clear jO hrb;go_upto_region 12 with fail;rw[yI.out,<-HRB2.out];go_loopw [12,13] (fun a n wr=>∃(at' n':Nat) (r:List Int),at'<=n0/\n'<=M/\a=.int .i64 (at':Int)/\n=.int .i64 (n':Int)/\Hid (r.length=8)/\Hid (Vm.oW W p (M-n') at' r n'=Rr)/\Hid (wr.heap[rb]?=some (.cells (kY r) 192 (0,0)))/\Hid (wr.heap[w.heap.size+1]?=some (.cells #[.int .i64 0,.int .i64 0] 137 (0,0)))/\Hid (BL w wr)) (fun _ n _=>M-(intOf n).toNat);case atStart=>exact⟨0,0,Vm.zA,by omega,by omega,rfl,rfl,hid rfl,Cy,HQ4,Kv,dO⟩
 case round=>
  obtain⟨at',n',r,hat,hn',rfl,rfl,H8,HF,HQ,HG,HB⟩:=hrel;obtain⟨wo,rfl⟩:=nmE (wr:World);by_cases ZV:at'=n0
  ·have HE:Hid (Rr=(0,(n':Int),0)):=hid (by rw[<-HF.out];exact Pu _ _ _ _ (ZV.trans HN.out))
   subst ZV;have c0:wo.cell? ⟨w.heap.size+1,0,none⟩=some (.int .i64 0):=(aI HG.out 0).trans rfl;have c1:wo.cell? ⟨w.heap.size+1,1,none⟩=some (.int .i64 0):=(aI HG.out 1).trans rfl;have f0:=bh HG.out 0;have f1:=bh HG.out 1;go_wp2;refine bodyPost_ret (iV (j8 HG.out _ _) rfl rfl) rfl ?_;exact DI.mk (Gf.out.trans HE.out) ((HB.out.setCell (p:=⟨w.heap.size+1,0,none⟩) (by simp) _).setCell (p:=⟨w.heap.size+1,1,none⟩) (by simp) _)
  by_cases hne:n'=M
  ·have HE:Hid (Rr=(0,0,23)):=hid (by
    rw[<-HF.out,hne,Nat.sub_self]
    exact Pv _ _ _ (by rw[<-HN.out];exact ZV))
   subst hne;have c0:wo.cell? ⟨w.heap.size+1,0,none⟩=some (.int .i64 0):=(aI HG.out 0).trans rfl;have c1:wo.cell? ⟨w.heap.size+1,1,none⟩=some (.int .i64 0):=(aI HG.out 1).trans rfl;have f0:=bh HG.out 0;have f1:=bh HG.out 1;have hae2:¬(at':Int)=n0:=by omega
   go_wp2;refine bodyPost_ret (iV (j8 HG.out _ _) rfl rfl) rfl (Ln.out wo _ _ HB.out (Gf.out.trans HE.out))
  have hae2:¬(at':Int)=n0:=by omega
  have Hu:¬(n':Int)=M:=by omega
  have hlt:at'<n0:=by omega
  have hnlt:n'<M:=by omega
  have hk0:(0:Int)<=at':=by omega
  have hk1:(at':Int)<n0:=by omega
  have hkp:at'<p.length:=by rw[<-HN.out];exact hlt
  obtain⟨f,hf⟩:∃f,M-n'=f+1:=⟨M-n'-1,by omega⟩;have hf2:M-(n'+1)=f:=by omega
  rw[hf] at HF;have uU:=hid hf2;obtain⟨-,hz,y0,y1,y2,y3⟩:=(nG.keep HU.out (aA.below HB.out)).at hkp;have HI:=hid (Vv.out.2 _ (zGm hkp));have HNi:=hid (HNI.out _ (zGm hkp));have uW:Hid (∀r' Le,Vm.step W p[at'] r (at'+1)=(none,r',Le)->Vm.oW W p f Le r' (n'+1)=Rr):=hid (fun r' Le h=>by rw[<-HF.out];exact(Ll f at' r n' hkp h).symm);have yJ:Hid (∀c r' Le,Vm.step W p[at'] r (at'+1)=(some c,r',Le)->Rr=(c,((n'+1:Nat):Int),0)):=hid (fun c r' Le h=>by rw[<-HF.out];exact Lm f at' r n' hkp h);clear HF hf hf2 ZV hne;generalize p[at']=i at*;obtain⟨o,ia,ib,ic⟩:=i;simp only at y0 y1 y2 y3;obtain⟨bI,hbI⟩:=nmE wo.heap.size;obtain⟨w5,jO⟩:=nmE (wo.alloc (.cells #[.int .i64 o,.int .i64 ia,.int .i64 ib,.int .i64 ic] 121));have dP:Hid (Below w.heap.size w w5):=hid (by rw[jO];exact HB.out.alloc HB.out.size _);have zo:Hid (w5.heap[w.heap.size+1]?=some (.cells #[.int .i64 0,.int .i64 0] 137 (0,0))):=hid (by rw[jO];exact aG _ HG.out);have wU:Hid (w5.heap[rb]?=some (.cells (kY r) 192 (0,0))):=hid (by rw[jO];exact aG _ HQ.out);have HK:Hid (w5.heap[bI]?=some (.cells #[.int .i64 o,.int .i64 ia,.int .i64 ib,.int .i64 ic] 121 (0,0))):=hid (by rw[jO,hbI];exact aD _ _ rfl);have HBI:=hid hbI;have abe:=hid jO;obtain⟨⟨k0,k1,k2,k3⟩, -⟩:=aO HK.out;clear jO hbI;go_upto_region 17 with fail;rw[<-abe.out,<-HBI.out];clear y0 y1 y2 y3 hz abe HBI;go_upto_region 20 with fail;rcases Vm.af0 HI.out with h|h|h|h|h|h|h|h|h
  ·obtain⟨ho,h⟩:=h
   dsimp only at ho h;subst ho;have HE:=hid (yJ.out ia r (at'+1) rfl);have c0:w5.cell? ⟨w.heap.size+1,0,none⟩=some (.int .i64 0):=(aI zo.out 0).trans rfl;have c1:w5.cell? ⟨w.heap.size+1,1,none⟩=some (.int .i64 0):=(aI zo.out 1).trans rfl;have f0:=bh zo.out 0;have f1:=bh zo.out 1;go_wp2;refine bodyPost_ret (iV (j8 zo.out _ _) rfl rfl) rfl ?_;exact DI.mk (Gf.out.trans (by rw[HE.out];simp)) ((dP.out.setCell (p:=⟨w.heap.size+1,0,none⟩) (by simp) _).setCell (p:=⟨w.heap.size+1,1,none⟩) (by simp) _)
  ·obtain⟨ho,h⟩:=h
   dsimp only at ho h;subst ho;obtain⟨na,rfl⟩:∃m:Nat,ia=(m:Int):=⟨ia.toNat,by omega⟩;have hna:na<8:=by omega
   have Lp:=hid (uW.out (Vm.iR r na ib) (at'+1) rfl);go_wp2_with fail;refine(tQ rb bI na hna ib w5 r H8.out wU.out ?k1).mono ?_;case k1=>exact k1
   rintro e w6 ⟨rfl,jf⟩;have SI:Hid (w6.heap[rb]?=some (.cells (kY (Vm.iR r na ib)) 192 (0,0))):=hid (by rw[<-jf,<-qg];exact heap_setCell_same _ rb na _ _ _ wU.out);have jC:Hid (Below w.heap.size w w6):=hid (by rw[<-jf];exact dP.out.setCell (p:=⟨rb,na,none⟩) (by have:=Rs.out;simp;omega) _);have SK:Hid (w6.heap[w.heap.size+1]?=some (.cells #[.int .i64 0,.int .i64 0] 137 (0,0))):=hid (by rw[<-jf,heap_setCell_other _ _ _ _ (by have:=Rs.out;simp;omega)];exact zo.out);have SL:Hid ((Vm.iR r na ib).length=8):=hid (by unfold Vm.iR;rw[List.length_set];exact H8.out);clear jf;go_wp2;go_roundw;case rel=>exact⟨at'+1,n'+1,Vm.iR r na ib,by omega,by omega,by go_num,by go_num,SL,hid (by rw[uU.out];exact Lp.out),SI,SK,jC⟩
   simp[intOf];omega
  ·obtain⟨ho,h⟩:=h
   dsimp only at ho h;subst ho;obtain⟨na,rfl⟩:∃m:Nat,ia=(m:Int):=⟨ia.toNat,by omega⟩;obtain⟨nb,rfl⟩:∃m:Nat,ib=(m:Int):=⟨ib.toNat,by omega⟩;obtain⟨nc,rfl⟩:∃m:Nat,ic=(m:Int):=⟨ic.toNat,by omega⟩;have hna:na<8:=by omega
   have hb0:(0:Int)<=nb:=by omega
   have hb1:(nb:Int)<8:=by omega
   have hc0:(0:Int)<=nc:=by omega
   have hc1:(nc:Int)<8:=by omega
   have r1:=j7 H8.out wU.out nb (by omega);have r2:=j7 H8.out wU.out nc (by omega);have Lp:=hid (uW.out (Vm.iR r na (wrap64 (Vm.je r nb+Vm.je r nc))) (at'+1) rfl);generalize Vm.je r nb=vb at*;generalize Vm.je r nc=vc at*;go_wp2;refine iq 10 mxT (by kernel_rfl) ?_;simp only[List.take_succ_cons,List.take_zero,zDs,zDz];repeat (go_big_quiet_step (fail))
   refine zWq ?_;have zI:Hid ((w5.drewN 1).heap[rb]?=some (.cells (kY r) 192 (0,0))):=hid wU.out;have kN:Hid (BL w (w5.drewN 1)):=hid (af5 dP.out 1);have sQ:Hid ((w5.drewN 1).heap[w.heap.size+1]?=some (.cells #[.int .i64 0,.int .i64 0] 137 (0,0))):=hid zo.out;go_wp2_with fail;refine(tQ rb bI na hna (wrap64 (vb+vc)) _ r H8.out zI.out ?k1).mono ?_;case k1=>exact k1
   rintro e w6 ⟨rfl,jf⟩;have SI:Hid (w6.heap[rb]?=some (.cells (kY (Vm.iR r na (wrap64 (vb+vc)))) 192 (0,0))):=hid (by rw[<-jf,<-qg];exact heap_setCell_same _ rb na _ _ _ zI.out);have jC:Hid (Below w.heap.size w w6):=hid (by rw[<-jf];exact kN.out.setCell (p:=⟨rb,na,none⟩) (by have:=Rs.out;simp;omega) _);have SK:Hid (w6.heap[w.heap.size+1]?=some (.cells #[.int .i64 0,.int .i64 0] 137 (0,0))):=hid (by rw[<-jf,heap_setCell_other _ _ _ _ (by have:=Rs.out;simp;omega)];exact sQ.out);have SL:Hid ((Vm.iR r na (wrap64 (vb+vc))).length=8):=hid (by unfold Vm.iR;rw[List.length_set];exact H8.out);clear jf;go_wp2;go_roundw;case rel=>exact⟨at'+1,n'+1,Vm.iR r na (wrap64 (vb+vc)),by omega,by omega,by go_num,by go_num,SL,hid (by rw[uU.out];exact Lp.out),SI,SK,jC⟩
   simp[intOf];omega
  ·obtain⟨ho,h⟩:=h
   dsimp only at ho h;subst ho;obtain⟨na,rfl⟩:∃m:Nat,ia=(m:Int):=⟨ia.toNat,by omega⟩;obtain⟨nb,rfl⟩:∃m:Nat,ib=(m:Int):=⟨ib.toNat,by omega⟩;obtain⟨nc,rfl⟩:∃m:Nat,ic=(m:Int):=⟨ic.toNat,by omega⟩;have hna:na<8:=by omega
   have hb0:(0:Int)<=nb:=by omega
   have hb1:(nb:Int)<8:=by omega
   have hc0:(0:Int)<=nc:=by omega
   have hc1:(nc:Int)<8:=by omega
   have r1:=j7 H8.out wU.out nb (by omega);have r2:=j7 H8.out wU.out nc (by omega);have Lp:=hid (uW.out (Vm.iR r na (wrap64 (Vm.je r nb-Vm.je r nc))) (at'+1) rfl);generalize Vm.je r nb=vb at*;generalize Vm.je r nc=vc at*;go_wp2;refine iq 10 mxT (by kernel_rfl) ?_;simp only[List.take_succ_cons,List.take_zero,zDs,zDz];repeat (go_big_quiet_step (fail))
   refine zWq ?_;have zI:Hid ((w5.drewN 1).heap[rb]?=some (.cells (kY r) 192 (0,0))):=hid wU.out;have kN:Hid (BL w (w5.drewN 1)):=hid (af5 dP.out 1);have sQ:Hid ((w5.drewN 1).heap[w.heap.size+1]?=some (.cells #[.int .i64 0,.int .i64 0] 137 (0,0))):=hid zo.out;go_wp2_with fail;refine(tQ rb bI na hna (wrap64 (vb-vc)) _ r H8.out zI.out ?k1).mono ?_;case k1=>exact k1
   rintro e w6 ⟨rfl,jf⟩;have SI:Hid (w6.heap[rb]?=some (.cells (kY (Vm.iR r na (wrap64 (vb-vc)))) 192 (0,0))):=hid (by rw[<-jf,<-qg];exact heap_setCell_same _ rb na _ _ _ zI.out);have jC:Hid (Below w.heap.size w w6):=hid (by rw[<-jf];exact kN.out.setCell (p:=⟨rb,na,none⟩) (by have:=Rs.out;simp;omega) _);have SK:Hid (w6.heap[w.heap.size+1]?=some (.cells #[.int .i64 0,.int .i64 0] 137 (0,0))):=hid (by rw[<-jf,heap_setCell_other _ _ _ _ (by have:=Rs.out;simp;omega)];exact sQ.out);have SL:Hid ((Vm.iR r na (wrap64 (vb-vc))).length=8):=hid (by unfold Vm.iR;rw[List.length_set];exact H8.out);clear jf;go_wp2;go_roundw;case rel=>exact⟨at'+1,n'+1,Vm.iR r na (wrap64 (vb-vc)),by omega,by omega,by go_num,by go_num,SL,hid (by rw[uU.out];exact Lp.out),SI,SK,jC⟩
   simp[intOf];omega
  ·obtain⟨ho,h⟩:=h
   dsimp only at ho h;subst ho;obtain⟨na,rfl⟩:∃m:Nat,ia=(m:Int):=⟨ia.toNat,by omega⟩;obtain⟨nb,rfl⟩:∃m:Nat,ib=(m:Int):=⟨ib.toNat,by omega⟩;have hna:na<8:=by omega
   have hkx:nb<W.length:=by
    have:=HNi.out;rw[CJ rfl] at this;simp only[zDt] at this;rw[xX.out];omega
   have Lp:=hid (uW.out (Vm.iR r na (Vm.kO W nb:Nat)) (at'+1) rfl);have hmc:=HS.out.mc;have hec:=HS.out.ec;have SN:=hid (HS.out.count w5 dP.out nb hkx);generalize Vm.kO W nb=cn at*;go_wp2_with fail;refine SN.out.mono ?_;rintro e w7 ⟨rfl,jM⟩;have zI:Hid (w7.heap[rb]?=some (.cells (kY r) 192 (0,0))):=hid ((jM.block _ (ay wU.out)).trans wU.out);have kN:=bq dP jM;have sQ:Hid (w7.heap[w.heap.size+1]?=some (.cells #[.int .i64 0,.int .i64 0] 137 (0,0))):=hid ((jM.block _ (ay zo.out)).trans zo.out);have k1:w7.cell? ⟨bI,1,none⟩=some (.int .i64 (na:Int)):=(jM.cell (p:=⟨bI,1,none⟩) (ay HK.out)).trans k1;clear jM;go_wp2_with fail;refine(tQ rb bI na hna (cn:Int) w7 r H8.out zI.out ?k1).mono ?_;case k1=>exact k1
   rintro e w6 ⟨rfl,jf⟩;have SI:Hid (w6.heap[rb]?=some (.cells (kY (Vm.iR r na (cn:Int))) 192 (0,0))):=hid (by rw[<-jf,<-qg];exact heap_setCell_same _ rb na _ _ _ zI.out);have jC:Hid (Below w.heap.size w w6):=hid (by rw[<-jf];exact kN.out.setCell (p:=⟨rb,na,none⟩) (by have:=Rs.out;simp;omega) _);have SK:Hid (w6.heap[w.heap.size+1]?=some (.cells #[.int .i64 0,.int .i64 0] 137 (0,0))):=hid (by rw[<-jf,heap_setCell_other _ _ _ _ (by have:=Rs.out;simp;omega)];exact sQ.out);have SL:Hid ((Vm.iR r na (cn:Int)).length=8):=hid (by unfold Vm.iR;rw[List.length_set];exact H8.out);clear jf;go_wp2;go_roundw;case rel=>exact⟨at'+1,n'+1,Vm.iR r na (cn:Int),by omega,by omega,by go_num,by go_num,SL,hid (by rw[uU.out];exact Lp.out),SI,SK,jC⟩
   simp[intOf];omega
  ·obtain⟨ho,h⟩:=h
   dsimp only at ho h;subst ho;obtain⟨na,rfl⟩:∃m:Nat,ia=(m:Int):=⟨ia.toNat,by omega⟩;obtain⟨nb,rfl⟩:∃m:Nat,ib=(m:Int):=⟨ib.toNat,by omega⟩;obtain⟨nc,rfl⟩:∃m:Nat,ic=(m:Int):=⟨ic.toNat,by omega⟩;have hna:na<8:=by omega
   have ha0:(0:Int)<=na:=by omega
   have ha1:(na:Int)<8:=by omega
   have hkx:nb<W.length:=by
    have:=HNi.out;rw[vE rfl] at this;simp only[zBa,zDt] at this;rw[xX.out];omega
   have hcx:∀l∈W[nb],nc<l.length:=by
    intro l hl;have:=HNi.out;rw[vE rfl] at this;simp only[zBa,zDt] at this;rw[HRec.out nb hkx l hl];omega
   have HHc:=hid hcx;have XK:Hid (Vm.kO W nb=W[nb].length):=hid (by unfold Vm.kO;rw[Int.toNat_natCast,zGd,zEg hkx];rfl);have r1:=j7 H8.out wU.out na (by omega);have hmc:=HS.out.mc;have hmv:=HS.out.mv;have hec:=HS.out.ec;have hev:=HS.out.ev;have hnil:=HS.out.nil;have hzi:bI<w5.heap.size:=ay HK.out;have Hv:rb<w5.heap.size:=ay wU.out;have SN:=hid (fun(y:lK w5)=>Calls.nX (x:=y) (HS.out.count y.1 (tnB dP.out y.2) nb hkx));have abf:Hid (∀q,q=Vm.je r na->Vm.step W ⟨5,na,nb,nc⟩ r (at'+1)=if q<0\/(Vm.kO W nb:Int)<=q then (some 251,r,at'+1) else (none,Vm.iR r na (Vm.E2 W nb q nc),at'+1)):=hid (fun q e=>by subst e;rfl);clear hcx;obtain⟨q,hq⟩:=nmE (Vm.je r na);rw[<-hq] at r1;have Pw:=hid (abf.out q hq);clear hq abf;obtain⟨cn,hcn⟩:=nmE (Vm.kO W nb);rw[<-hcn] at SN Pw XK;clear hcn;by_cases Bj:q<0
   ·have hd:decide (q<0)=true:=decide_eq_true Bj
    have HE:=hid (yJ.out 251 r (at'+1) (by rw[Pw.out,if_pos (.inl Bj)]));go_wp2;have hg:=lK.cell (w:=w5);refine eP (by kernel_rfl) (by kernel_rfl) ?_;repeat (go_big_quiet_step (fail))
    refine zWq ?_;intro w7 hx;have jM:=jR hx;clear hx hg;have kN:=bq dP jM;have sQ:Hid (w7.heap[w.heap.size+1]?=some (.cells #[.int .i64 0,.int .i64 0] 137 (0,0))):=hid ((jM.block _ (ay zo.out)).trans zo.out);have c0:w7.cell? ⟨w.heap.size+1,0,none⟩=some (.int .i64 0):=(aI sQ.out 0).trans rfl;have c1:w7.cell? ⟨w.heap.size+1,1,none⟩=some (.int .i64 0):=(aI sQ.out 1).trans rfl;have f0:=bh sQ.out 0;have f1:=bh sQ.out 1;go_wp2;refine bodyPost_ret (iV (j8 sQ.out _ _) rfl rfl) rfl ?_;exact DI.mk (Gf.out.trans (by rw[HE.out];simp)) ((kN.out.setCell (p:=⟨w.heap.size+1,0,none⟩) (by simp) _).setCell (p:=⟨w.heap.size+1,1,none⟩) (by simp) _)
   have hd:decide (q<0)=false:=decide_eq_false Bj;obtain⟨nq,rfl⟩:∃m:Nat,q=(m:Int):=⟨q.toNat,by omega⟩;by_cases SQ:cn<=nq
   ·have HE:=hid (yJ.out 251 r (at'+1) (by rw[Pw.out,if_pos (.inr (by omega))]))
    have hd3:decide (cn<=nq)=true:=decide_eq_true SQ;go_wp2;have hg:=lK.cell (w:=w5);refine eP (by kernel_rfl) (by kernel_rfl) ?_;repeat (go_big_quiet_step ((exact SN.out _)))
    refine zWq ?_;intro w7 hx;have jM:=jR hx;clear hx hg;have kN:=bq dP jM;have sQ:Hid (w7.heap[w.heap.size+1]?=some (.cells #[.int .i64 0,.int .i64 0] 137 (0,0))):=hid ((jM.block _ (ay zo.out)).trans zo.out);have c0:w7.cell? ⟨w.heap.size+1,0,none⟩=some (.int .i64 0):=(aI sQ.out 0).trans rfl;have c1:w7.cell? ⟨w.heap.size+1,1,none⟩=some (.int .i64 0):=(aI sQ.out 1).trans rfl;have f0:=bh sQ.out 0;have f1:=bh sQ.out 1;go_wp2;refine bodyPost_ret (iV (j8 sQ.out _ _) rfl rfl) rfl ?_;exact DI.mk (Gf.out.trans (by rw[HE.out];simp)) ((kN.out.setCell (p:=⟨w.heap.size+1,0,none⟩) (by simp) _).setCell (p:=⟨w.heap.size+1,1,none⟩) (by simp) _)
   have hd3:decide (cn<=nq)=false:=decide_eq_false SQ;have Lp:=hid (uW.out (Vm.iR r na (Vm.E2 W nb nq nc)) (at'+1) (by rw[Pw.out,if_neg (by omega)]));have Xd:nq<W[nb].length:=by have:=XK.out;omega
   have HVl:=hid (fun X (hX:BL w X)=>HS.out.value X hX nb nq nc hkx Xd (HHc.out _ (zGm Xd)));clear Pw;go_wp2;have hg:=lK.cell (w:=w5);refine eP (by kernel_rfl) (by kernel_rfl) ?_;repeat (go_big_quiet_step ((exact SN.out _)))
   refine zWq ?_;intro w7 hx;have jM:=jR hx;clear hx hg;have zI:Hid (w7.heap[rb]?=some (.cells (kY r) 192 (0,0))):=hid ((jM.block _ (ay wU.out)).trans wU.out);have kN:=bq dP jM;have sQ:Hid (w7.heap[w.heap.size+1]?=some (.cells #[.int .i64 0,.int .i64 0] 137 (0,0))):=hid ((jM.block _ (ay zo.out)).trans zo.out);have AZ:Hid (w7.heap[bI]?=some (.cells #[.int .i64 5,.int .i64 (na:Int),.int .i64 (nb:Int),.int .i64 (nc:Int)] 121 (0,0))):=hid ((jM.block _ (ay HK.out)).trans HK.out);have r1:w7.cell? ⟨rb,na,none⟩=some (.int .i64 (nq:Int)):=(jM.cell (p:=⟨rb,na,none⟩) (ay wU.out)).trans r1;clear jM k0 k1 k2 k3;obtain⟨⟨k0,k1,k2,k3⟩, -⟩:=aO AZ.out;have na0:(0:Int)<=na:=by omega
   go_wp2;refine bU 14 (.quiet 0 (.quiet 1 (.quiet 2 (.quiet 3 (.quiet 4 (.quiet 5 (.quiet 6 (.quiet 7 (.quiet 8 (.quiet 9 (.quiet 10 (.one 11 (.quiet 12 (.one 13 .done)))))))))))))) (BL w7) mxT (by kernel_rfl) (af5 aj 1) ?_;have lP:=hid (af5 (Below.refl w7.heap.size w7) 1);generalize w7.drewN 1=w8 at*;have hq1:=hqC w7 ⟨bI,1,none⟩ (.int .i64 (na:Int)) fun xh=>(xh.2.cell (p:=⟨bI,1,none⟩) (ay AZ.out)).trans k1;have xY:=hqC w7 ⟨bI,2,none⟩ (.int .i64 (nb:Int)) fun xh=>(xh.2.cell (p:=⟨bI,2,none⟩) (ay AZ.out)).trans k2;have Px:=hqC w7 ⟨bI,3,none⟩ (.int .i64 (nc:Int)) fun xh=>(xh.2.cell (p:=⟨bI,3,none⟩) (ay AZ.out)).trans k3;have M9:=hqC w7 ⟨rb,na,none⟩ (.int .i64 (nq:Int)) fun xh=>(xh.2.cell (p:=⟨rb,na,none⟩) (ay zI.out)).trans r1
   iterate 11
    refine ai rfl ?_
    intro hne
    go_big_quiet_step (fail)
    refine zWq ?_
    clear hne
   refine aH rfl ?_;go_wp2_with fail;refine aC (BL w7) (fun _ h=>h) lP.out ?_;refine ai rfl ?_;intro hne;go_big_quiet_step (fail);refine zWq ?_;clear hne;clear hq1 xY Px M9;have afe:=hid (HVl.out w8 (tnB kN.out lP.out));generalize Vm.E2 W nb nq nc=vv at*;refine aH rfl ?_;go_wp2_with fail;refine afe.out.mono ?_;rintro e w9 ⟨rfl,abg⟩;have Ce:=tnB lP.out abg;clear abg;have HQ9:Hid (w9.heap[rb]?=some (.cells (kY r) 192 (0,0))):=hid ((Ce.block _ (ay zI.out)).trans zI.out);have uV:=bq kN Ce;have HG9:Hid (w9.heap[w.heap.size+1]?=some (.cells #[.int .i64 0,.int .i64 0] 137 (0,0))):=hid ((Ce.block _ (ay sQ.out)).trans sQ.out);have k1:w9.cell? ⟨bI,1,none⟩=some (.int .i64 (na:Int)):=(Ce.cell (p:=⟨bI,1,none⟩) (ay AZ.out)).trans k1;go_wp2_with fail;refine aC (BL w7) (fun _ h=>h) Ce ?_;refine aL ?_;try simp only[zDs,zDz]
   clear Ce;go_wp2_with fail;refine(tQ rb bI na hna vv w9 r H8.out HQ9.out ?k1).mono ?_;case k1=>exact k1
   rintro e w6 ⟨rfl,jf⟩;have SI:Hid (w6.heap[rb]?=some (.cells (kY (Vm.iR r na vv)) 192 (0,0))):=hid (by rw[<-jf,<-qg];exact heap_setCell_same _ rb na _ _ _ HQ9.out);have jC:Hid (Below w.heap.size w w6):=hid (by rw[<-jf];exact uV.out.setCell (p:=⟨rb,na,none⟩) (by have:=Rs.out;simp;omega) _);have SK:Hid (w6.heap[w.heap.size+1]?=some (.cells #[.int .i64 0,.int .i64 0] 137 (0,0))):=hid (by rw[<-jf,heap_setCell_other _ _ _ _ (by have:=Rs.out;simp;omega)];exact HG9.out);have SL:Hid ((Vm.iR r na vv).length=8):=hid (by unfold Vm.iR;rw[List.length_set];exact H8.out);clear jf;go_wp2;go_roundw;case rel=>exact⟨at'+1,n'+1,Vm.iR r na vv,by omega,by omega,by go_num,by go_num,SL,hid (by rw[uU.out];exact Lp.out),SI,SK,jC⟩
   simp[intOf];omega
  ·obtain⟨ho,h⟩:=h
   dsimp only at ho h;subst ho;obtain⟨na,rfl⟩:∃m:Nat,ia=(m:Int):=⟨ia.toNat,by omega⟩;have hnaN:na<=n0:=by have:=HN.out;omega
   have Lp:=hid (uW.out r na rfl);go_wp2;go_roundw;case rel=>exact⟨na,n'+1,r,by omega,by omega,rfl,by go_num,H8,hid (by rw[uU.out];exact Lp.out),wU,zo,dP⟩
   simp[intOf];omega
  ·obtain⟨ho,h⟩:=h
   dsimp only at ho h;subst ho;obtain⟨na,rfl⟩:∃m:Nat,ia=(m:Int):=⟨ia.toNat,by omega⟩;obtain⟨nb,rfl⟩:∃m:Nat,ib=(m:Int):=⟨ib.toNat,by omega⟩;obtain⟨nc,rfl⟩:∃m:Nat,ic=(m:Int):=⟨ic.toNat,by omega⟩;have hncN:nc<=n0:=by have:=HN.out;omega
   have ha0:(0:Int)<=na:=by omega
   have ha1:(na:Int)<8:=by omega
   have hb0:(0:Int)<=nb:=by omega
   have hb1:(nb:Int)<8:=by omega
   have r1:=j7 H8.out wU.out na (by omega);have r2:=j7 H8.out wU.out nb (by omega);have HSx:Hid (∀a b,a=Vm.je r na->b=Vm.je r nb->Vm.oW W p f (if a<b then nc else at'+1) r (n'+1)=Rr):=hid (fun a b e1 e2=>by subst e1;subst e2;exact uW.out _ _ rfl);obtain⟨va,SV⟩:=nmE (Vm.je r na);obtain⟨vb,Lr⟩:=nmE (Vm.je r nb);rw[<-SV] at r1;rw[<-Lr] at r2;have SX:=hid (HSx.out va vb SV Lr);clear SV Lr HSx;by_cases hc:va<vb
   ·rw[if_pos hc] at SX
    go_wp2;go_quiet (fail);have zI:Hid ((w5.drewN nq).heap[rb]?=some (.cells (kY r) 192 (0,0))):=hid wU.out;have kN:Hid (BL w (w5.drewN nq)):=hid (af5 dP.out nq);have sQ:Hid ((w5.drewN nq).heap[w.heap.size+1]?=some (.cells #[.int .i64 0,.int .i64 0] 137 (0,0))):=hid zo.out;go_wp2;go_roundw;case rel=>exact⟨nc,n'+1,r,by omega,by omega,rfl,by go_num,H8,hid (by rw[uU.out];exact SX.out),zI,sQ,kN⟩
    simp[intOf];omega
   ·rw[if_neg hc] at SX
    go_wp2;go_quiet (fail);have zI:Hid ((w5.drewN nq).heap[rb]?=some (.cells (kY r) 192 (0,0))):=hid wU.out;have kN:Hid (BL w (w5.drewN nq)):=hid (af5 dP.out nq);have sQ:Hid ((w5.drewN nq).heap[w.heap.size+1]?=some (.cells #[.int .i64 0,.int .i64 0] 137 (0,0))):=hid zo.out;go_wp2;go_roundw;case rel=>exact⟨at'+1,n'+1,r,by omega,by omega,by go_num,by go_num,H8,hid (by rw[uU.out];exact SX.out),zI,sQ,kN⟩
    simp[intOf];omega
  ·obtain⟨ho,h⟩:=h
   dsimp only at ho h;subst ho;obtain⟨na,rfl⟩:∃m:Nat,ia=(m:Int):=⟨ia.toNat,by omega⟩;obtain⟨nb,rfl⟩:∃m:Nat,ib=(m:Int):=⟨ib.toNat,by omega⟩;obtain⟨nc,rfl⟩:∃m:Nat,ic=(m:Int):=⟨ic.toNat,by omega⟩;have hncN:nc<=n0:=by have:=HN.out;omega
   have ha0:(0:Int)<=na:=by omega
   have ha1:(na:Int)<8:=by omega
   have hb0:(0:Int)<=nb:=by omega
   have hb1:(nb:Int)<8:=by omega
   have r1:=j7 H8.out wU.out na (by omega);have r2:=j7 H8.out wU.out nb (by omega);have HSx:Hid (∀a b,a=Vm.je r na->b=Vm.je r nb->Vm.oW W p f (if a=b then nc else at'+1) r (n'+1)=Rr):=hid (fun a b e1 e2=>by subst e1;subst e2;exact uW.out _ _ rfl);obtain⟨va,SV⟩:=nmE (Vm.je r na);obtain⟨vb,Lr⟩:=nmE (Vm.je r nb);rw[<-SV] at r1;rw[<-Lr] at r2;have SX:=hid (HSx.out va vb SV Lr);clear SV Lr HSx;by_cases hc:va=vb
   ·rw[if_pos hc] at SX
    go_wp2;go_quiet (fail);have zI:Hid ((w5.drewN nq).heap[rb]?=some (.cells (kY r) 192 (0,0))):=hid wU.out;have kN:Hid (BL w (w5.drewN nq)):=hid (af5 dP.out nq);have sQ:Hid ((w5.drewN nq).heap[w.heap.size+1]?=some (.cells #[.int .i64 0,.int .i64 0] 137 (0,0))):=hid zo.out;go_wp2;go_roundw;case rel=>exact⟨nc,n'+1,r,by omega,by omega,rfl,by go_num,H8,hid (by rw[uU.out];exact SX.out),zI,sQ,kN⟩
    simp[intOf];omega
   ·rw[if_neg hc] at SX
    have hc2:(va==vb)=false:=by simpa using hc
    go_wp2;go_quiet (fail);have zI:Hid ((w5.drewN nq).heap[rb]?=some (.cells (kY r) 192 (0,0))):=hid wU.out;have kN:Hid (BL w (w5.drewN nq)):=hid (af5 dP.out nq);have sQ:Hid ((w5.drewN nq).heap[w.heap.size+1]?=some (.cells #[.int .i64 0,.int .i64 0] 137 (0,0))):=hid zo.out;go_wp2;go_roundw;case rel=>exact⟨at'+1,n'+1,r,by omega,by omega,by go_num,by go_num,H8,hid (by rw[uU.out];exact SX.out),zI,sQ,kN⟩
    simp[intOf];omega
theorem Ls{W:ah.bK}{k:Nat}(hk:k<W.length):Vm.kO W k=W[k].length:=by
 unfold Vm.kO;rw[Int.toNat_natCast,zGd,zEg hk];rfl
theorem SY{W:ah.bK}{k i f:Nat}(hk:k<W.length)(hi:i<W[k].length)(hf:f<W[k][i].length):Vm.E2 W k i f=W[k][i][f]:=by
 unfold Vm.E2;rw[Int.toNat_natCast,Int.toNat_natCast,Int.toNat_natCast,zGd (l:=W),zEg hk,zOg,zGd (l:=W[k]),zEg hi,zOg,zGd,zEg hf];rfl
theorem Hw(W:ah.bK)(k:Nat)(hk:k<W.length)(uw:Value)(S:Nat->Prop)(w:World)(hv:dc S w uw W):
  Calls Tryz.prog 271 #[.agg #[uw],.int .i64 (k:Int)] w fun e w'=>e=.returned (.int .i64 (Vm.kO W k:Nat))/\BL w w':=by
 obtain⟨a,cap,rfl,hok,hc,hm⟩:=hv.form;have HC:=hid (Ls hk);have h0:(0:Int)<=k:=by omega
 have h1:(k:Int)<W.length:=by omega
 obtain⟨u,hu,hz,hr⟩:=hv.at hk;obtain⟨a1,c1,rfl, -, -, -⟩:=hr.form;clear hr hv;generalize W[k].length=n at*;clear hk hc;generalize W.length=m at*;go_enter Tryz.func271,Tryz.ntmps271;go_wp2;go_ret;exact⟨by rw[HC.out];rfl,aj.alloc aB _⟩
theorem aei(W:ah.bK)(k:Nat)(hk:k<W.length)(uw:Value)(S:Nat->Prop)(w:World)(hv:dc S w uw W):
  Calls Tryz.prog 269 #[.agg #[uw],.int .i64 (k:Int)] w fun e w'=>e=.returned (.int .i64 (Vm.kO W k:Nat))/\BL w w':=by
 obtain⟨a,cap,rfl,hok,hc,hm⟩:=hv.form;have HC:=hid (Ls hk);have h0:(0:Int)<=k:=by omega
 have h1:(k:Int)<W.length:=by omega
 obtain⟨u,hu,hz,hr⟩:=hv.at hk;obtain⟨a1,c1,rfl, -, -, -⟩:=hr.form;clear hr hv;generalize W[k].length=n at*;clear hk hc;generalize W.length=m at*;have h2:¬(k:Int)<0:=by omega
 have h3:¬(m:Int)<=k:=by omega
 go_enter Tryz.func269,Tryz.ntmps269;go_wp2;go_ret;exact⟨by rw[HC.out];rfl,aj.alloc aB _⟩
theorem Hx(W:ah.bK)(k i f:Nat)(hk:k<W.length)(hi:i<W[k].length)(hf:f<W[k][i].length)(uw:Value)(S:Nat->Prop)(w:World)(hv:dc S w uw W):
  Calls Tryz.prog 272 #[.agg #[uw],.int .i64 (k:Int),.int .i64 (i:Int),.int .i64 (f:Int)] w fun e w'=>e=.returned (.int .i64 (Vm.E2 W k i f))/\BL w w':=by
 obtain⟨a,cap,rfl,hok,hc,hm⟩:=hv.form;have HC:=hid (SY hk hi hf);have h0:(0:Int)<=k:=by omega
 have h1:(k:Int)<W.length:=by omega
 have h2:(0:Int)<=i:=by omega
 have h3:(i:Int)<W[k].length:=by omega
 have h4:(0:Int)<=f:=by omega
 have h5:(f:Int)<W[k][i].length:=by omega
 obtain⟨u,hu,hz,hr⟩:=hv.at hk;obtain⟨a1,c1,rfl,hs1, -, -⟩:=hr.form;obtain⟨u2,kL,hz2,xR⟩:=hr.at hi;obtain⟨a2,c2,rfl,hs2, -, -⟩:=xR.form;obtain⟨u3,hu3,A5,rfl⟩:=xR.at hf;clear hr xR hv;generalize W[k][i][f]=x at*;clear hf;generalize W[k][i].length=n2 at*;clear hi;generalize W[k].length=n at*;clear hk hc;generalize W.length=m at*;go_enter Tryz.func272,Tryz.ntmps272;go_wp2;go_ret;exact⟨by rw[HC.out];rfl,aj.alloc aB _⟩
theorem aej(W:ah.bK)(k i f:Nat)(hk:k<W.length)(hi:i<W[k].length)(hf:f<W[k][i].length)(uw:Value)(S:Nat->Prop)(w:World)(hv:dc S w uw W):
  Calls Tryz.prog 270 #[.agg #[uw],.int .i64 (k:Int),.int .i64 (i:Int),.int .i64 (f:Int)] w fun e w'=>e=.returned (.int .i64 (Vm.E2 W k i f))/\BL w w':=by
 obtain⟨a,cap,rfl,hok,hc,hm⟩:=hv.form;have HC:=hid (SY hk hi hf);have h0:(0:Int)<=k:=by omega
 have h1:(k:Int)<W.length:=by omega
 have h2:(0:Int)<=i:=by omega
 have h3:(i:Int)<W[k].length:=by omega
 have h4:(0:Int)<=f:=by omega
 have h5:(f:Int)<W[k][i].length:=by omega
 have g0:¬(k:Int)<0:=by omega
 have g1:¬(W.length:Int)<=k:=by omega
 have g2:¬(i:Int)<0:=by omega
 have g3:¬(f:Int)<0:=by omega
 have g4:¬(W[k].length:Int)<=i:=by omega
 have g5:¬(W[k][i].length:Int)<=f:=by omega
 obtain⟨u,hu,hz,hr⟩:=hv.at hk;obtain⟨a1,c1,rfl,hs1, -, -⟩:=hr.form;obtain⟨u2,kL,hz2,xR⟩:=hr.at hi;obtain⟨a2,c2,rfl,hs2, -, -⟩:=xR.form;obtain⟨u3,hu3,A5,rfl⟩:=xR.at hf;clear hr xR hv;generalize W[k][i][f]=x at*;clear hf;generalize W[k][i].length=n2 at*;clear hi;generalize W[k].length=n at*;clear hk hc;generalize W.length=m at*;go_enter Tryz.func270,Tryz.ntmps270;go_wp2;go_ret;exact⟨by rw[HC.out];rfl,aj.alloc aB _⟩
theorem qh(W:ah.bK)(uw:Value)(S:Nat->Prop)(w:World)(hv:dc S w uw W):Src 180 271 272 W uw w where
 nil _:=by kernel_rfl
 mc _:=by kernel_rfl
 mv _:=by kernel_rfl
 ec:=aZ Tryz.func271 (by kernel_rfl) rfl
 ev:=aZ Tryz.func272 (by kernel_rfl) rfl
 count X hX k hk:=Hw W k hk uw S X (hv.keep (aA.below hX))
 value X hX k i f hk hi hf:=Hx W k i f hk hi hf uw S X (hv.keep (aA.below hX))
theorem aez(W:ah.bK)(uw:Value)(S:Nat->Prop)(w:World)(hv:dc S w uw W):Src 141 269 270 W uw w where
 nil _:=by kernel_rfl
 mc _:=by kernel_rfl
 mv _:=by kernel_rfl
 ec:=aZ Tryz.func269 (by kernel_rfl) rfl
 ev:=aZ Tryz.func270 (by kernel_rfl) rfl
 count X hX k hk:=aei W k hk uw S X (hv.keep (aA.below hX))
 value X hX k i f hk hi hf:=aej W k i f hk hi hf uw S X (hv.keep (aA.below hX))
theorem fH(n a b:Int)(w:World):Calls Tryz.prog 168 #[.int .i64 n,.int .i64 a,.int .i64 b] w fun e w'=>e=.returned (.bool (ah.qV n a b))/\w=w':=by
 have HE:Hid (ah.qV n a b=(decide (a<=n)&&decide (n<=b))):=hid rfl;by_cases h:a<=n
 ·go_enter Tryz.func168,Tryz.ntmps168
  go_wp2;go_ret;exact⟨by rw[HE.out,decide_eq_true h];rfl,rfl⟩
 ·have h2:n<a:=by omega
  go_enter Tryz.func168,Tryz.ntmps168;go_wp2;go_ret;exact⟨by rw[HE.out,decide_eq_false (show ¬a<=n by omega)];rfl,rfl⟩
theorem jV(lo hi a b:Int)(w:World):Calls Tryz.prog 198 #[.int .i64 lo,.int .i64 hi,.int .i64 a,.int .i64 b] w fun e w'=>e=.returned (.bool (ah.fG lo hi a b))/\w=w':=by
 have HE:Hid (ah.fG lo hi a b=(decide (a<=lo)&&decide (lo<=hi)&&decide (hi<=b))):=hid rfl;by_cases h:a<=lo
 ·by_cases g:lo<=hi
  ·go_enter Tryz.func198,Tryz.ntmps198
   go_wp2;go_ret;exact⟨by rw[HE.out,decide_eq_true h,decide_eq_true g];rfl,rfl⟩
  ·have g2:hi<lo:=by omega
   go_enter Tryz.func198,Tryz.ntmps198;go_wp2;go_ret;exact⟨by rw[HE.out,decide_eq_false (show ¬lo<=hi by omega),Bool.and_false];rfl,rfl⟩
 ·have h2:lo<a:=by omega
  go_enter Tryz.func198,Tryz.ntmps198;go_wp2;go_ret;exact⟨by rw[HE.out,decide_eq_false (show ¬a<=lo by omega)];rfl,rfl⟩
theorem tR(c:UInt8)(w:World):Calls Tryz.prog 219 #[.int .u8 (c.toNat:Int)] w fun e w'=>e=.returned (.bool (ah.mG c))/\w=w':=by
 have HE:Hid (ah.mG c=(decide (97<=c.toNat)&&decide (c.toNat<=122))):=hid rfl;have hc:=c.toNat_lt;generalize ah.mG c=b at*;generalize c.toNat=n at*;by_cases h:97<=n
 ·have h1:(97:Int)<=n:=by omega
  by_cases g:n<=122
  ·have g1:(n:Int)<=122:=by omega
   go_enter Tryz.func219,Tryz.ntmps219;go_wp2;go_ret;exact⟨by rw[HE.out,decide_eq_true h,decide_eq_true g];rfl,rfl⟩
  ·have g1:¬(n:Int)<=122:=by omega
   go_enter Tryz.func219,Tryz.ntmps219;go_wp2;go_ret;exact⟨by rw[HE.out,decide_eq_false g,Bool.and_false];rfl,rfl⟩
 ·have h1:¬(97:Int)<=n:=by omega
  go_enter Tryz.func219,Tryz.ntmps219;go_wp2;go_ret;exact⟨by rw[HE.out,decide_eq_false h];rfl,rfl⟩
theorem E7(c:UInt8)(w:World):Calls Tryz.prog 222 #[.int .u8 (c.toNat:Int)] w fun e w'=>e=.returned (.bool (ah.rW c))/\w=w':=by
 have HE:Hid (ah.rW c=(decide (48<=c.toNat)&&decide (c.toNat<=57))):=hid rfl;have hc:=c.toNat_lt;generalize ah.rW c=b at*;generalize c.toNat=n at*;by_cases h:48<=n
 ·have h1:(48:Int)<=n:=by omega
  by_cases g:n<=57
  ·have g1:(n:Int)<=57:=by omega
   go_enter Tryz.func222,Tryz.ntmps222;go_wp2;go_ret;exact⟨by rw[HE.out,decide_eq_true h,decide_eq_true g];rfl,rfl⟩
  ·have g1:¬(n:Int)<=57:=by omega
   go_enter Tryz.func222,Tryz.ntmps222;go_wp2;go_ret;exact⟨by rw[HE.out,decide_eq_false g,Bool.and_false];rfl,rfl⟩
 ·have h1:¬(48:Int)<=n:=by omega
  go_enter Tryz.func222,Tryz.ntmps222;go_wp2;go_ret;exact⟨by rw[HE.out,decide_eq_false h];rfl,rfl⟩
def nH(c:UInt8):Bool:= !(ah.mG c||ah.rW c)
theorem E8(c:UInt8)(w:World):Calls Tryz.prog 221 #[.int .u8 (c.toNat:Int)] w fun e w'=>e=.returned (.bool (nH c))/\w=w':=by
 have HL:=hid (fun W=>tR c W);have HD:=hid (fun W=>E7 c W);have HE:Hid (nH c= !(ah.mG c||ah.rW c)):=hid rfl;generalize nH c=z at*;generalize ah.mG c=a at*;generalize ah.rW c=b at*;generalize c.toNat=n at*;cases a with
 |true=>
  go_enter Tryz.func221,Tryz.ntmps221
  go_wp2_with fail
  refine(HL.out _).mono ?_
  rintro e w' ⟨rfl,rfl⟩
  go_wp2
  go_ret
  exact⟨by rw[HE.out];rfl,rfl⟩
 |false=>
  go_enter Tryz.func221,Tryz.ntmps221
  go_wp2_with fail
  refine(HL.out _).mono ?_
  rintro e w' ⟨rfl,rfl⟩
  go_wp2_with fail
  refine(HD.out _).mono ?_
  rintro e w' ⟨rfl,rfl⟩
  go_wp2
  go_ret
  exact⟨by rw[HE.out];rfl,rfl⟩
abbrev ByV(S:Nat->Prop):=eX (fun _ u (x:UInt8)=>u=.int .u8 (x.toNat:Int)) S
theorem Lu:dH (fun(_:Nat->Prop) _ u (x:UInt8)=>u=.int .u8 (x.toNat:Int)):=⟨fun h _=>h,fun h _=>h⟩
theorem Hy(s:ByteArray):ah.aN s=(ah.qV s.size 1 12&&(ah.mG (s.data.getD 0 0)&& !s.data.toList.any nH)):=by
 unfold ah.aN ah.qV nH;rw[List.not_any_eq_all_not];have h1:decide ((1:Int)<=(s.size:Int))=decide (1<=s.size):=by rw[decide_eq_decide];omega
 have h2:decide ((s.size:Int)<=(12:Int))=decide (s.size<=12):=by rw[decide_eq_decide];omega
 rw[h1,h2];simp[Bool.and_assoc]
end Go.Proofs.YtobgljfnfpolkaaGreatDoor
