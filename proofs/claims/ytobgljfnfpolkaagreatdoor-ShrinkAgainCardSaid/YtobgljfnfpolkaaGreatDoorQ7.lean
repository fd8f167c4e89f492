/- Part 7 of the walks and plain laws that the proof needs (packed). -/
import Derived.BigRegion
import Derived.Shelf.Strings.Builder1
import Derived.Shelf.LaysM
import Derived.Shelf.Strconv.Itoa3
import Derived.Test.YtobgljfnfpolkaaGreatDoorProg
import Derived.WalkSmall
import Derived.Test.YtobgljfnfpolkaaGreatDoorQ2
import Derived.Test.YtobgljfnfpolkaaGreatDoorQ5
import Derived.Test.YtobgljfnfpolkaaGreatDoorQ6
set_option linter.all false
set_option maxRecDepth 100000
set_option maxHeartbeats 8000000
namespace Go.Proofs.YtobgljfnfpolkaaGreatDoor
open Go.RowKit
theorem Lv(w W:World)(s:ByteArray)(hs:s.size<=1000000)(cap:Nat)(hcap:cap=grownCap w s.size 0 5)(fr:Nat×Nat)(h:W.heap[w.heap.size]?=some (.cells (bytesRow s cap) 5 fr)):
  ByV (fun _=>True) W (.slice (some ⟨w.heap.size,0,none⟩) s.size cap) s.data.toList:=by
 have hl:s.data.toList.length=s.size:=rfl;have h1:=grownCap_ge w s.size 0 5;have h2:=grownCap_le_maxLen w s.size 0 5 (by unfold maxLen;omega);rw[<-hcap] at h1 h2;refine⟨some ⟨w.heap.size,0,none⟩,cap,by rw[hl],fun _=>⟨_,_,rfl⟩,by rw[hl];exact h1,h2,fun _=>trivial,fun j hj=>⟨_,?_,rfl⟩⟩;have e:(⟨aY (some ⟨w.heap.size,0,none⟩),bC (some ⟨w.heap.size,0,none⟩)+j,none⟩:Addr)=⟨w.heap.size,j,none⟩:=by simp[aY,bC]
 rw[e,cell_of_row W _ j _ _ fr h];unfold bytesRow;rw[Array.getElem?_append_left (by rw[Array.size_map];exact hj),Array.getElem?_map]
 have:s.data[j]?=some s.data.toList[j]:=by
  rw[Array.getElem?_eq_getElem hj];simp
 rw[this];rfl
theorem cM(s:ByteArray)(w:World):Calls Tryz.prog 197 #[.string s] w fun e w'=>e=.returned (.bool (ah.aN s))/\BL w w':=by
 have HE:=hid (Hy s);have HI:=hid (fH s.size 1 12 w);cases hin:ah.qV s.size 1 12 with
 |false=>
  rw[hin] at HI HE
  clear hin
  go_enter Tryz.func197,Tryz.ntmps197
  go_wp2_with fail
  refine HI.out.mono ?_
  rintro e w' ⟨rfl,rfl⟩
  go_wp2
  go_ret
  exact⟨by rw[HE.out];rfl,aj⟩
 |true=>
  rw[hin] at HI HE
  have hsz:1<=s.size/\s.size<=12:=by
   unfold ah.qV at hin;simp only[zBa,zDt] at hin;omega
  have h0:0<s.size:=by omega
  have h0i:(0:Int)<s.size:=by omega
  have HL:=hid (tR s[0] w)
  have HX:Hid (s.data.getD 0 0=s[0]):=hid (by
   have h0':0<s.data.size:=h0
   rw[Array.getD_eq_getD_getElem?,Array.getElem?_eq_getElem h0']
   rfl)
  have HS:=hid hsz
  rw[HX.out] at HE
  clear hin hsz
  generalize ah.mG s[0]=lb at*
  have hix:∀W,(Instr.index 9 (.string s) (.int .i64 0)).run Tryz.prog W=.ok (.int .u8 (s[0].toNat:Int)) W:=fun W=>by
   rw[run_index_string W _ _ _ _ (by kernel_rfl),dif_pos ⟨Int.le_refl _,h0i⟩];rfl
  generalize s[0].toNat=c0 at*
  cases lb with
  |false=>
   go_enter Tryz.func197,Tryz.ntmps197
   go_wp2_with fail
   refine HI.out.mono ?_
   rintro e w' ⟨rfl,rfl⟩
   go_wp2_with fail
   refine HL.out.mono ?_
   rintro e w' ⟨rfl,rfl⟩
   go_wp2
   go_ret
   exact⟨by rw[HE.out];rfl,aj⟩
  |true=>
   have kc:=fun W:World=>run_bytes_of_string (P:=Tryz.prog) W 9 206 5 s (by kernel_rfl) (by kernel_rfl) (by kernel_rfl)
   go_enter Tryz.func197,Tryz.ntmps197
   go_wp2_with fail
   refine HI.out.mono ?_
   rintro e w' ⟨rfl,rfl⟩
   go_wp2_with fail
   refine HL.out.mono ?_
   rintro e w' ⟨rfl,rfl⟩
   go_wp2_with fail
   refine(Pj Lu s.data.toList nH _ (fun _=>True) _ (Lv w _ s (by have:=HS.out;omega) _ rfl _ (aD w.drew _ rfl)) (fun X u x h=>⟨_,h⟩) 221 #[] (aZ Tryz.func221 (by kernel_rfl) rfl) (fun X hX j hj u hu=>by
    subst hu;exact(E8 _ X).mono fun e w' ⟨h1,h2⟩=>⟨h1,by rw[h2];exact aj⟩)).mono ?_
   rintro e w' ⟨rfl,hb⟩
   have HB:Hid (BL w w'):=hid (((Below.refl w.heap.size w).drew.alloc aB _).trans (hb.mono (by simp)))
   clear hb kc hix
   go_wp2
   go_ret
   exact⟨by rw[HE.out];simp,HB.out⟩
theorem SZ(u0 u1 u2 u3:Value)(b:Nat)(fo:Nat)(lb:Array Value)(z:Bool)(w:World)(lG:∀args w,(callFunc fo args).run Tryz.prog w=.ok (.enter fo args) w)(hb:w.cell? ⟨b,0,none⟩=some (.func (.func fo) #[] lb))(hz:b<w.heap.size)
  (hp:∀X,BL w X->CP fo (#[.agg #[u0,u1,u2,u3]]++lb) X fun e w'=>e=.returned (.bool z)/\BL X w'):
  Calls Tryz.prog 196 #[.agg #[u0,u1,u2,u3],.pointer (some ⟨b,0,none⟩)] w fun e w'=>e=.returned (.bool (!z))/\BL w w':=by
 have HP:=hid hp;clear hp;have aW:Hid (BL w (w.alloc (.cells #[u0,u1,u2,u3] 102))):=hid (aj.alloc aB _);have HC:=hid (HP.out _ aW.out);go_enter Tryz.func196,Tryz.ntmps196;go_wp2_with fail;refine HC.out.mono ?_;rintro e w' ⟨rfl,hb2⟩;have HB:=bq aW hb2;clear hb2;go_wp2;go_ret;exact⟨rfl,HB.out⟩
theorem XL{α:Type}{RR:(Nat->Prop)->World->List Value->α->Prop}(hR:bV RR)(F:List α)(q:α->Bool)(v:Value)(S:Nat->Prop)(w:World)(hv:dA 4 (RR S) S w v F)(fo:Nat)(lb:Array Value)(lG:∀args w,(callFunc fo args).run Tryz.prog w=.ok (.enter fo args) w)
  (hp:∀X,BL w X->∀j (h:j<F.length) us,us.length=4->RR S X us F[j]->CP fo (#[.agg us.toArray]++lb) X fun e w'=>e=.returned (.bool (q F[j]))/\BL X w'):
  Calls Tryz.prog 169 #[v,.func (.func fo) #[] lb] w fun e w'=>e=.returned (.bool (F.all q))/\BL w w':=by
 have HP:=hid hp;clear hp;have hbx:BL w (w.alloc (.cells #[.func (.func fo) #[] lb] 270)):=aj.alloc aB _;have hv1:dA 4 (RR S) S (w.alloc (.cells #[.func (.func fo) #[] lb] 270)) v F:=dA.keep hR hv (aA.below hbx);obtain⟨a,cap,rfl, -, -, -⟩:=hv.form
 have HC:=hid (Sy hR F (fun x=> !q x) _ S _ hv1 196 #[.pointer (some ⟨w.heap.size,0,none⟩)] (aZ Tryz.func196 (by kernel_rfl) rfl) (fun X hX j hj us hl hr=>by
  obtain⟨u0,u1,u2,u3,rfl⟩:=Pf hl;exact SZ u0 u1 u2 u3 w.heap.size fo lb (q F[j]) X lG ((hX.cell (p:=⟨w.heap.size,0,none⟩) (by simp)).trans (by simp)) (by have:=hX.size;simp at this;omega) (fun Y hY=>HP.out Y (tnB hbx (tnB hX hY)) j hj [u0,u1,u2,u3] hl (hR.keep hr (aA.below hY)))))
 have HN:Hid (F.all q= !F.any fun x=> !q x):=hid (by rw[<-List.not_all_eq_any_not,Bool.not_not]);have jq:=hid hbx;generalize F.all q=fa at*;generalize (F.any fun x=> !q x)=fb at*;clear hv hv1 hbx;go_enter Tryz.func169,Tryz.ntmps169;go_wp2_with fail;refine HC.out.mono ?_;rintro e w' ⟨rfl,hb2⟩;have HB:=bq jq hb2;clear hb2;go_wp2;go_ret;exact⟨by rw[HN.out];rfl,HB.out⟩
theorem S9(u0 u1 u2:Value)(b:Nat)(fo:Nat)(lb:Array Value)(z:Bool)(w:World)(lG:∀args w,(callFunc fo args).run Tryz.prog w=.ok (.enter fo args) w)(hb:w.cell? ⟨b,0,none⟩=some (.func (.func fo) #[] lb))(hz:b<w.heap.size)
  (hp:∀X,BL w X->CP fo (#[.agg #[u0,u1,u2]]++lb) X fun e w'=>e=.returned (.bool z)/\BL X w'):
  Calls Tryz.prog 201 #[.agg #[u0,u1,u2],.pointer (some ⟨b,0,none⟩)] w fun e w'=>e=.returned (.bool (!z))/\BL w w':=by
 have HP:=hid hp;clear hp;have aW:Hid (BL w (w.alloc (.cells #[u0,u1,u2] 107))):=hid (aj.alloc aB _);have HC:=hid (HP.out _ aW.out);go_enter Tryz.func201,Tryz.ntmps201;go_wp2_with fail;refine HC.out.mono ?_;rintro e w' ⟨rfl,hb2⟩;have HB:=bq aW hb2;clear hb2;go_wp2;go_ret;exact⟨rfl,HB.out⟩
theorem XM{α:Type}{RR:(Nat->Prop)->World->List Value->α->Prop}(hR:bV RR)(F:List α)(q:α->Bool)(v:Value)(S:Nat->Prop)(w:World)(hv:dA 3 (RR S) S w v F)(fo:Nat)(lb:Array Value)(lG:∀args w,(callFunc fo args).run Tryz.prog w=.ok (.enter fo args) w)
  (hp:∀X,BL w X->∀j (h:j<F.length) us,us.length=3->RR S X us F[j]->CP fo (#[.agg us.toArray]++lb) X fun e w'=>e=.returned (.bool (q F[j]))/\BL X w'):
  Calls Tryz.prog 171 #[v,.func (.func fo) #[] lb] w fun e w'=>e=.returned (.bool (F.all q))/\BL w w':=by
 have HP:=hid hp;clear hp;have hbx:BL w (w.alloc (.cells #[.func (.func fo) #[] lb] 233)):=aj.alloc aB _;have hv1:dA 3 (RR S) S (w.alloc (.cells #[.func (.func fo) #[] lb] 233)) v F:=dA.keep hR hv (aA.below hbx);obtain⟨a,cap,rfl, -, -, -⟩:=hv.form
 have HC:=hid (DH hR F (fun x=> !q x) _ S _ hv1 201 #[.pointer (some ⟨w.heap.size,0,none⟩)] (aZ Tryz.func201 (by kernel_rfl) rfl) (fun X hX j hj us hl hr=>by
  obtain⟨u0,u1,u2,rfl⟩:=Vr hl;exact S9 u0 u1 u2 w.heap.size fo lb (q F[j]) X lG ((hX.cell (p:=⟨w.heap.size,0,none⟩) (by simp)).trans (by simp)) (by have:=hX.size;simp at this;omega) (fun Y hY=>HP.out Y (tnB hbx (tnB hX hY)) j hj [u0,u1,u2] hl (hR.keep hr (aA.below hY)))))
 have HN:Hid (F.all q= !F.any fun x=> !q x):=hid (by rw[<-List.not_all_eq_any_not,Bool.not_not]);have jq:=hid hbx;generalize F.all q=fa at*;generalize (F.any fun x=> !q x)=fb at*;clear hv hv1 hbx;go_enter Tryz.func171,Tryz.ntmps171;go_wp2_with fail;refine HC.out.mono ?_;rintro e w' ⟨rfl,hb2⟩;have HB:=bq jq hb2;clear hb2;go_wp2;go_ret;exact⟨by rw[HN.out];rfl,HB.out⟩
theorem Ta(u0 u1 u2 u3 u4:Value)(b:Nat)(fo:Nat)(lb:Array Value)(z:Bool)(w:World)(lG:∀args w,(callFunc fo args).run Tryz.prog w=.ok (.enter fo args) w)(hb:w.cell? ⟨b,0,none⟩=some (.func (.func fo) #[] lb))(hz:b<w.heap.size)
  (hp:∀X,BL w X->CP fo (#[.agg #[u0,u1,u2,u3,u4]]++lb) X fun e w'=>e=.returned (.bool z)/\BL X w'):
  Calls Tryz.prog 205 #[.agg #[u0,u1,u2,u3,u4],.pointer (some ⟨b,0,none⟩)] w fun e w'=>e=.returned (.bool (!z))/\BL w w':=by
 have HP:=hid hp;clear hp;have aW:Hid (BL w (w.alloc (.cells #[u0,u1,u2,u3,u4] 110))):=hid (aj.alloc aB _);have HC:=hid (HP.out _ aW.out);go_enter Tryz.func205,Tryz.ntmps205;go_wp2_with fail;refine HC.out.mono ?_;rintro e w' ⟨rfl,hb2⟩;have HB:=bq aW hb2;clear hb2;go_wp2;go_ret;exact⟨rfl,HB.out⟩
theorem XO{α:Type}{RR:(Nat->Prop)->World->List Value->α->Prop}(hR:bV RR)(F:List α)(q:α->Bool)(v:Value)(S:Nat->Prop)(w:World)(hv:dA 5 (RR S) S w v F)(fo:Nat)(lb:Array Value)(lG:∀args w,(callFunc fo args).run Tryz.prog w=.ok (.enter fo args) w)
  (hp:∀X,BL w X->∀j (h:j<F.length) us,us.length=5->RR S X us F[j]->CP fo (#[.agg us.toArray]++lb) X fun e w'=>e=.returned (.bool (q F[j]))/\BL X w'):
  Calls Tryz.prog 173 #[v,.func (.func fo) #[] lb] w fun e w'=>e=.returned (.bool (F.all q))/\BL w w':=by
 have HP:=hid hp;clear hp;have hbx:BL w (w.alloc (.cells #[.func (.func fo) #[] lb] 271)):=aj.alloc aB _;have hv1:dA 5 (RR S) S (w.alloc (.cells #[.func (.func fo) #[] lb] 271)) v F:=dA.keep hR hv (aA.below hbx);obtain⟨a,cap,rfl, -, -, -⟩:=hv.form
 have HC:=hid (Kt hR F (fun x=> !q x) _ S _ hv1 205 #[.pointer (some ⟨w.heap.size,0,none⟩)] (aZ Tryz.func205 (by kernel_rfl) rfl) (fun X hX j hj us hl hr=>by
  obtain⟨u0,u1,u2,u3,u4,rfl⟩:=Vs hl;exact Ta u0 u1 u2 u3 u4 w.heap.size fo lb (q F[j]) X lG ((hX.cell (p:=⟨w.heap.size,0,none⟩) (by simp)).trans (by simp)) (by have:=hX.size;simp at this;omega) (fun Y hY=>HP.out Y (tnB hbx (tnB hX hY)) j hj [u0,u1,u2,u3,u4] hl (hR.keep hr (aA.below hY)))))
 have HN:Hid (F.all q= !F.any fun x=> !q x):=hid (by rw[<-List.not_all_eq_any_not,Bool.not_not]);have jq:=hid hbx;generalize F.all q=fa at*;generalize (F.any fun x=> !q x)=fb at*;clear hv hv1 hbx;go_enter Tryz.func173,Tryz.ntmps173;go_wp2_with fail;refine HC.out.mono ?_;rintro e w' ⟨rfl,hb2⟩;have HB:=bq jq hb2;clear hb2;go_wp2;go_ret;exact⟨by rw[HN.out];rfl,HB.out⟩
theorem Tb(u0 u1 u2 u3 u4 u5 u6 u7:Value)(b:Nat)(fo:Nat)(lb:Array Value)(z:Bool)(w:World)(lG:∀args w,(callFunc fo args).run Tryz.prog w=.ok (.enter fo args) w)(hb:w.cell? ⟨b,0,none⟩=some (.func (.func fo) #[] lb))(hz:b<w.heap.size)
  (hp:∀X,BL w X->CP fo (#[.agg #[u0,u1,u2,u3,u4,u5,u6,u7]]++lb) X fun e w'=>e=.returned (.bool z)/\BL X w'):
  Calls Tryz.prog 224 #[.agg #[u0,u1,u2,u3,u4,u5,u6,u7],.pointer (some ⟨b,0,none⟩)] w fun e w'=>e=.returned (.bool (!z))/\BL w w':=by
 have HP:=hid hp;clear hp;have aW:Hid (BL w (w.alloc (.cells #[u0,u1,u2,u3,u4,u5,u6,u7] 117))):=hid (aj.alloc aB _);have HC:=hid (HP.out _ aW.out);go_enter Tryz.func224,Tryz.ntmps224;go_wp2_with fail;refine HC.out.mono ?_;rintro e w' ⟨rfl,hb2⟩;have HB:=bq aW hb2;clear hb2;go_wp2;go_ret;exact⟨rfl,HB.out⟩
theorem XP{α:Type}{RR:(Nat->Prop)->World->List Value->α->Prop}(hR:bV RR)(F:List α)(q:α->Bool)(v:Value)(S:Nat->Prop)(w:World)(hv:dA 8 (RR S) S w v F)(fo:Nat)(lb:Array Value)(lG:∀args w,(callFunc fo args).run Tryz.prog w=.ok (.enter fo args) w)
  (hp:∀X,BL w X->∀j (h:j<F.length) us,us.length=8->RR S X us F[j]->CP fo (#[.agg us.toArray]++lb) X fun e w'=>e=.returned (.bool (q F[j]))/\BL X w'):
  Calls Tryz.prog 199 #[v,.func (.func fo) #[] lb] w fun e w'=>e=.returned (.bool (F.all q))/\BL w w':=by
 have HP:=hid hp;clear hp;have hbx:BL w (w.alloc (.cells #[.func (.func fo) #[] lb] 259)):=aj.alloc aB _;have hv1:dA 8 (RR S) S (w.alloc (.cells #[.func (.func fo) #[] lb] 259)) v F:=dA.keep hR hv (aA.below hbx);obtain⟨a,cap,rfl, -, -, -⟩:=hv.form
 have HC:=hid (Sw hR F (fun x=> !q x) _ S _ hv1 224 #[.pointer (some ⟨w.heap.size,0,none⟩)] (aZ Tryz.func224 (by kernel_rfl) rfl) (fun X hX j hj us hl hr=>by
  obtain⟨u0,u1,u2,u3,u4,u5,u6,u7,rfl⟩:=Vt hl;exact Tb u0 u1 u2 u3 u4 u5 u6 u7 w.heap.size fo lb (q F[j]) X lG ((hX.cell (p:=⟨w.heap.size,0,none⟩) (by simp)).trans (by simp)) (by have:=hX.size;simp at this;omega) (fun Y hY=>HP.out Y (tnB hbx (tnB hX hY)) j hj [u0,u1,u2,u3,u4,u5,u6,u7] hl (hR.keep hr (aA.below hY)))))
 have HN:Hid (F.all q= !F.any fun x=> !q x):=hid (by rw[<-List.not_all_eq_any_not,Bool.not_not]);have jq:=hid hbx;generalize F.all q=fa at*;generalize (F.any fun x=> !q x)=fb at*;clear hv hv1 hbx;go_enter Tryz.func199,Tryz.ntmps199;go_wp2_with fail;refine HC.out.mono ?_;rintro e w' ⟨rfl,hb2⟩;have HB:=bq jq hb2;clear hb2;go_wp2;go_ret;exact⟨by rw[HN.out];rfl,HB.out⟩
theorem Tc(u0 u1:Value)(b:Nat)(fo:Nat)(lb:Array Value)(z:Bool)(w:World)(lG:∀args w,(callFunc fo args).run Tryz.prog w=.ok (.enter fo args) w)(hb:w.cell? ⟨b,0,none⟩=some (.func (.func fo) #[] lb))(hz:b<w.heap.size)
  (hp:∀X,BL w X->CP fo (#[.agg #[u0,u1]]++lb) X fun e w'=>e=.returned (.bool z)/\BL X w'):
  Calls Tryz.prog 231 #[.agg #[u0,u1],.pointer (some ⟨b,0,none⟩)] w fun e w'=>e=.returned (.bool (!z))/\BL w w':=by
 have HP:=hid hp;clear hp;have aW:Hid (BL w (w.alloc (.cells #[u0,u1] 108))):=hid (aj.alloc aB _);have HC:=hid (HP.out _ aW.out);go_enter Tryz.func231,Tryz.ntmps231;go_wp2_with fail;refine HC.out.mono ?_;rintro e w' ⟨rfl,hb2⟩;have HB:=bq aW hb2;clear hb2;go_wp2;go_ret;exact⟨rfl,HB.out⟩
theorem XQ{α:Type}{RR:(Nat->Prop)->World->List Value->α->Prop}(hR:bV RR)(F:List α)(q:α->Bool)(v:Value)(S:Nat->Prop)(w:World)(hv:dA 2 (RR S) S w v F)(fo:Nat)(lb:Array Value)(lG:∀args w,(callFunc fo args).run Tryz.prog w=.ok (.enter fo args) w)
  (hp:∀X,BL w X->∀j (h:j<F.length) us,us.length=2->RR S X us F[j]->CP fo (#[.agg us.toArray]++lb) X fun e w'=>e=.returned (.bool (q F[j]))/\BL X w'):
  Calls Tryz.prog 203 #[v,.func (.func fo) #[] lb] w fun e w'=>e=.returned (.bool (F.all q))/\BL w w':=by
 have HP:=hid hp;clear hp;have hbx:BL w (w.alloc (.cells #[.func (.func fo) #[] lb] 300)):=aj.alloc aB _;have hv1:dA 2 (RR S) S (w.alloc (.cells #[.func (.func fo) #[] lb] 300)) v F:=dA.keep hR hv (aA.below hbx);obtain⟨a,cap,rfl, -, -, -⟩:=hv.form
 have HC:=hid (SA hR F (fun x=> !q x) _ S _ hv1 231 #[.pointer (some ⟨w.heap.size,0,none⟩)] (aZ Tryz.func231 (by kernel_rfl) rfl) (fun X hX j hj us hl hr=>by
  obtain⟨u0,u1,rfl⟩:=Vq hl;exact Tc u0 u1 w.heap.size fo lb (q F[j]) X lG ((hX.cell (p:=⟨w.heap.size,0,none⟩) (by simp)).trans (by simp)) (by have:=hX.size;simp at this;omega) (fun Y hY=>HP.out Y (tnB hbx (tnB hX hY)) j hj [u0,u1] hl (hR.keep hr (aA.below hY)))))
 have HN:Hid (F.all q= !F.any fun x=> !q x):=hid (by rw[<-List.not_all_eq_any_not,Bool.not_not]);have jq:=hid hbx;generalize F.all q=fa at*;generalize (F.any fun x=> !q x)=fb at*;clear hv hv1 hbx;go_enter Tryz.func203,Tryz.ntmps203;go_wp2_with fail;refine HC.out.mono ?_;rintro e w' ⟨rfl,hb2⟩;have HB:=bq jq hb2;clear hb2;go_wp2;go_ret;exact⟨by rw[HN.out];rfl,HB.out⟩
theorem Td(s:ByteArray)(b:Nat)(fo:Nat)(lb:Array Value)(z:Bool)(w:World)(lG:∀args w,(callFunc fo args).run Tryz.prog w=.ok (.enter fo args) w)(hb:w.cell? ⟨b,0,none⟩=some (.func (.func fo) #[] lb))(_:b<w.heap.size)
  (hp:∀X,BL w X->CP fo (#[.string s]++lb) X fun e w'=>e=.returned (.bool z)/\BL X w'):
  Calls Tryz.prog 229 #[.string s,.pointer (some ⟨b,0,none⟩)] w fun e w'=>e=.returned (.bool (!z))/\BL w w':=by
 have HP:=hid hp;clear hp;have aW:Hid (BL w w):=hid aj;have HC:=hid (HP.out _ aW.out);go_enter Tryz.func229,Tryz.ntmps229;go_wp2_with fail;refine HC.out.mono ?_;rintro e w' ⟨rfl,hb2⟩;have HB:=bq aW hb2;clear hb2;go_wp2;go_ret;exact⟨rfl,HB.out⟩
theorem XR{α:Type}{RR:(Nat->Prop)->World->Value->α->Prop}(hR:dH RR)(F:List α)(q:α->Bool)(v:Value)(S:Nat->Prop)(w:World)(hv:eX (RR S) S w v F)(hform:∀X u x,RR S X u x->∃c,u=.string c)(fo:Nat)(lb:Array Value)(lG:∀args w,(callFunc fo args).run Tryz.prog w=.ok (.enter fo args) w)
  (hp:∀X,BL w X->∀j (h:j<F.length) u,RR S X u F[j]->CP fo (#[u]++lb) X fun e w'=>e=.returned (.bool (q F[j]))/\BL X w'):
  Calls Tryz.prog 202 #[v,.func (.func fo) #[] lb] w fun e w'=>e=.returned (.bool (F.all q))/\BL w w':=by
 have HP:=hid hp;clear hp;have hbx:BL w (w.alloc (.cells #[.func (.func fo) #[] lb] 289)):=aj.alloc aB _;have hv1:eX (RR S) S (w.alloc (.cells #[.func (.func fo) #[] lb] 289)) v F:=eX.keep (R:=RR S) hv (aA.below hbx) (fun _ _ h=>hR.keep h (aA.below hbx));obtain⟨a,cap,rfl, -, -, -⟩:=hv.form
 have HC:=hid (SC hR F (fun x=> !q x) _ S _ hv1 hform 229 #[.pointer (some ⟨w.heap.size,0,none⟩)] (aZ Tryz.func229 (by kernel_rfl) rfl) (fun X hX j hj u hr=>by
  obtain⟨c,rfl⟩:=hform _ _ _ hr;exact Td c w.heap.size fo lb (q F[j]) X lG ((hX.cell (p:=⟨w.heap.size,0,none⟩) (by simp)).trans (by simp)) (by have:=hX.size;simp at this;omega) (fun Y hY=>HP.out Y (tnB hbx (tnB hX hY)) j hj (.string c) (hR.keep hr (aA.below hY)))))
 have HN:Hid (F.all q= !F.any fun x=> !q x):=hid (by rw[<-List.not_all_eq_any_not,Bool.not_not]);have jq:=hid hbx;generalize F.all q=fa at*;generalize (F.any fun x=> !q x)=fb at*;clear hv hv1 hbx;go_enter Tryz.func202,Tryz.ntmps202;go_wp2_with fail;refine HC.out.mono ?_;rintro e w' ⟨rfl,hb2⟩;have HB:=bq jq hb2;clear hb2;go_wp2;go_ret;exact⟨by rw[HN.out];rfl,HB.out⟩
theorem Py(xs:List Int)(u v:Value)(S T:Nat->Prop)(w:World)(hu:bO S w u xs)(hv:bO T w v xs):
  Calls Tryz.prog 238 #[u,v] w fun e w'=>e=.returned (.bool true)/\BL w w':=by
 obtain⟨a,cap,rfl,hok,hcap,hmax⟩:=hu.form;obtain⟨a',cap',rfl,hok',abh,abj⟩:=hv.form;have HU:=hid hu;have HV:=hid hv;clear hu hv;go_enter Tryz.func238,Tryz.ntmps238;go_wp2;go_loopw [13] (fun i wr=>∃k:Nat,k<=xs.length/\i=.int .i64 k/\Hid (BL w wr)) (fun i _=>xs.length-(intOf i).toNat);case atStart=>exact⟨0,Nat.zero_le _,rfl,hid aj⟩
 case round=>
  obtain⟨k,hk,rfl,HB⟩:=hrel;obtain⟨wo,rfl⟩:=nmE (wr:World);by_cases hlt:k<xs.length
  ·obtain⟨x,hx, -,hx2⟩:=(bO.keep HU.out (aA.below HB.out)).at hlt
   obtain⟨y,hy, -,hy2⟩:=(bO.keep HV.out (aA.below HB.out)).at hlt;subst hx2;subst hy2;generalize xs[k]=x0 at*;have hk0:(0:Int)<=(k:Int):=by omega
   have hk1:(k:Int)<(xs.length:Int):=by omega
   go_wp2;go_quiet (fail);have bB:=hid (af5 HB.out nq);go_wp2;go_roundw;case rel=>exact⟨k+1,by omega,by go_num,bB⟩
   simp[intOf];omega
  ·go_wp2
   go_ret;exact⟨rfl,HB.out⟩
theorem Pz(xs:List ByteArray)(u v:Value)(S T:Nat->Prop)(w:World)(hu:fL S w u xs)(hv:fL T w v xs):
  Calls Tryz.prog 237 #[u,v] w fun e w'=>e=.returned (.bool true)/\BL w w':=by
 obtain⟨a,cap,rfl,hok,hcap,hmax⟩:=hu.form;obtain⟨a',cap',rfl,hok',abh,abj⟩:=hv.form;have HU:=hid hu;have HV:=hid hv;clear hu hv;go_enter Tryz.func237,Tryz.ntmps237;go_wp2;go_loopw [13] (fun i wr=>∃k:Nat,k<=xs.length/\i=.int .i64 k/\Hid (BL w wr)) (fun i _=>xs.length-(intOf i).toNat);case atStart=>exact⟨0,Nat.zero_le _,rfl,hid aj⟩
 case round=>
  obtain⟨k,hk,rfl,HB⟩:=hrel;obtain⟨wo,rfl⟩:=nmE (wr:World);by_cases hlt:k<xs.length
  ·obtain⟨x,hx, -,hx2⟩:=(fL.keep HU.out (aA.below HB.out)).at hlt
   obtain⟨y,hy, -,hy2⟩:=(fL.keep HV.out (aA.below HB.out)).at hlt;subst hx2;subst hy2;generalize xs[k]=x0 at*;have hk0:(0:Int)<=(k:Int):=by omega
   have hk1:(k:Int)<(xs.length:Int):=by omega
   go_wp2;go_quiet (fail);have bB:=hid (af5 HB.out nq);go_wp2;go_roundw;case rel=>exact⟨k+1,by omega,by go_num,bB⟩
   simp[intOf];omega
  ·go_wp2
   go_ret;exact⟨rfl,HB.out⟩
theorem iJ{w:World}{g:Nat}{x0 x1 x2 x3 x4 x5 x6 x7:Value}{tmps:Array Value}(h:w.heap[g]?=some (.cells #[x0,x1,x2,x3,x4,x5,x6,x7] 117 (0,0)))(hp:tmps[2]?=some (.pointer (some ⟨g,0,none⟩))):
  (results Tryz.f226 tmps).run Tryz.prog w=.ok (.agg #[x0,x1,x2,x3,x4,x5,x6,x7]) w:=by
 obtain⟨⟨h0,h1,h2,h3,h4,h5,h6,h7⟩, -⟩:=dn h;simp[results,Tryz.results226,go_sem,hp,h0,h1,h2,h3,h4,h5,h6,h7]
theorem gH{W:World}{k:Nat}{o:Obj}(h:W.heap[k]?=some o):W.drew.heap[k]?=some o:=h
theorem abk(nm:ByteArray)(lo:Int)(aw:Option Addr)(nw cw:Nat)(ag:Option Addr)(ng cg:Nat)(w:World):
  Calls Tryz.prog 226 #[.agg #[.string nm,.string ah.nil,.string ah.nil,.int .i64 0,.int .i64 lo,.int .i64 0,.slice aw nw cw,.slice ag ng cg]] w fun e w'=>e=.returned (.agg #[.string nm,.string ah.nil,.string ah.nil,.int .i64 0,.int .i64 lo,.int .i64 0,.slice none 0 0,.slice none 0 0])/\BL w w':=by
 try unfold ah.nil
 go_enter Tryz.func226,Tryz.ntmps226;go_wp2;refine bodyPost_ret (iJ (g:=w.heap.size+1) ?h1 rfl) rfl ⟨rfl, ?h2⟩;case h1=>first|exact aG _ (aD _ _ (by simp))|exact gH (aG _ (aD _ _ (by simp)))
 case h2=>first|exact((aj.alloc aB _).alloc (by simp) _).alloc (by simp;omega) _|exact(((aj.alloc aB _).alloc (by simp) _).alloc (by simp;omega) _).drew
theorem abl(nm:ByteArray)(o:ByteArray)(lo:Int)(hi:Int)(aw:Option Addr)(nw cw:Nat)(ag:Option Addr)(ng cg:Nat)(w:World):
  Calls Tryz.prog 226 #[.agg #[.string nm,.string o,.string ah.nil,.int .i64 1,.int .i64 lo,.int .i64 hi,.slice aw nw cw,.slice ag ng cg]] w fun e w'=>e=.returned (.agg #[.string nm,.string o,.string ah.nil,.int .i64 1,.int .i64 lo,.int .i64 hi,.slice none 0 0,.slice none 0 0])/\BL w w':=by
 try unfold ah.nil
 go_enter Tryz.func226,Tryz.ntmps226;go_wp2;go_region;go_wp2;refine bodyPost_ret (iJ (g:=w.heap.size+1) ?h1 rfl) rfl ⟨rfl, ?h2⟩;case h1=>first|exact aG _ (aD _ _ (by simp))|exact gH (aG _ (aD _ _ (by simp)))
 case h2=>first|exact((aj.alloc aB _).alloc (by simp) _).alloc (by simp;omega) _|exact(((aj.alloc aB _).alloc (by simp) _).alloc (by simp;omega) _).drew
theorem abm(nm:ByteArray)(lo:Int)(hi:Int)(aw:Option Addr)(nw cw:Nat)(ag:Option Addr)(ng cg:Nat)(w:World):
  Calls Tryz.prog 226 #[.agg #[.string nm,.string ah.nil,.string ah.nil,.int .i64 2,.int .i64 lo,.int .i64 hi,.slice aw nw cw,.slice ag ng cg]] w fun e w'=>e=.returned (.agg #[.string nm,.string ah.nil,.string ah.nil,.int .i64 2,.int .i64 lo,.int .i64 hi,.slice none 0 0,.slice none 0 0])/\BL w w':=by
 try unfold ah.nil
 go_enter Tryz.func226,Tryz.ntmps226;go_wp2;go_region;go_wp2;refine bodyPost_ret (iJ (g:=w.heap.size+1) ?h1 rfl) rfl ⟨rfl, ?h2⟩;case h1=>first|exact aG _ (aD _ _ (by simp))|exact gH (aG _ (aD _ _ (by simp)))
 case h2=>first|exact((aj.alloc aB _).alloc (by simp) _).alloc (by simp;omega) _|exact(((aj.alloc aB _).alloc (by simp) _).alloc (by simp;omega) _).drew
theorem abn(nm:ByteArray)(aw:Option Addr)(nw cw:Nat)(ag:Option Addr)(ng cg:Nat)(w:World):
  Calls Tryz.prog 226 #[.agg #[.string nm,.string ah.nil,.string ah.nil,.int .i64 3,.int .i64 0,.int .i64 0,.slice aw nw cw,.slice ag ng cg]] w fun e w'=>e=.returned (.agg #[.string nm,.string ah.nil,.string ah.nil,.int .i64 3,.int .i64 0,.int .i64 0,.slice aw nw cw,.slice ag ng cg])/\BL w w':=by
 try unfold ah.nil
 go_enter Tryz.func226,Tryz.ntmps226;go_wp2;go_region;go_wp2;refine bodyPost_ret (iJ (g:=w.heap.size+1) ?h1 rfl) rfl ⟨rfl, ?h2⟩;case h1=>first|exact aG _ (aD _ _ (by simp))|exact gH (aG _ (aD _ _ (by simp)))
 case h2=>first|exact((aj.alloc aB _).alloc (by simp) _).alloc (by simp;omega) _|exact(((aj.alloc aB _).alloc (by simp) _).alloc (by simp;omega) _).drew
theorem abo(nm:ByteArray)(o:ByteArray)(lo:Int)(hi:Int)(aw:Option Addr)(nw cw:Nat)(ag:Option Addr)(ng cg:Nat)(w:World):
  Calls Tryz.prog 226 #[.agg #[.string nm,.string o,.string ah.nil,.int .i64 4,.int .i64 lo,.int .i64 hi,.slice aw nw cw,.slice ag ng cg]] w fun e w'=>e=.returned (.agg #[.string nm,.string o,.string ah.nil,.int .i64 4,.int .i64 lo,.int .i64 hi,.slice none 0 0,.slice none 0 0])/\BL w w':=by
 try unfold ah.nil
 go_enter Tryz.func226,Tryz.ntmps226;go_wp2;go_region;go_wp2;refine bodyPost_ret (iJ (g:=w.heap.size+1) ?h1 rfl) rfl ⟨rfl, ?h2⟩;case h1=>first|exact aG _ (aD _ _ (by simp))|exact gH (aG _ (aD _ _ (by simp)))
 case h2=>first|exact((aj.alloc aB _).alloc (by simp) _).alloc (by simp;omega) _|exact(((aj.alloc aB _).alloc (by simp) _).alloc (by simp;omega) _).drew
theorem abp(nm:ByteArray)(o:ByteArray)(lo:Int)(hi:Int)(aw:Option Addr)(nw cw:Nat)(ag:Option Addr)(ng cg:Nat)(w:World):
  Calls Tryz.prog 226 #[.agg #[.string nm,.string o,.string ah.nil,.int .i64 5,.int .i64 lo,.int .i64 hi,.slice aw nw cw,.slice ag ng cg]] w fun e w'=>e=.returned (.agg #[.string nm,.string o,.string ah.nil,.int .i64 5,.int .i64 lo,.int .i64 hi,.slice none 0 0,.slice none 0 0])/\BL w w':=by
 try unfold ah.nil
 go_enter Tryz.func226,Tryz.ntmps226;go_wp2;go_region;go_wp2;refine bodyPost_ret (iJ (g:=w.heap.size+1) ?h1 rfl) rfl ⟨rfl, ?h2⟩;case h1=>first|exact aG _ (aD _ _ (by simp))|exact gH (aG _ (aD _ _ (by simp)))
 case h2=>first|exact((aj.alloc aB _).alloc (by simp) _).alloc (by simp;omega) _|exact(((aj.alloc aB _).alloc (by simp) _).alloc (by simp;omega) _).drew
theorem abq(nm:ByteArray)(o:ByteArray)(aw:Option Addr)(nw cw:Nat)(ag:Option Addr)(ng cg:Nat)(w:World):
  Calls Tryz.prog 226 #[.agg #[.string nm,.string o,.string ah.nil,.int .i64 6,.int .i64 0,.int .i64 0,.slice aw nw cw,.slice ag ng cg]] w fun e w'=>e=.returned (.agg #[.string nm,.string o,.string ah.nil,.int .i64 6,.int .i64 0,.int .i64 0,.slice none 0 0,.slice none 0 0])/\BL w w':=by
 try unfold ah.nil
 go_enter Tryz.func226,Tryz.ntmps226;go_wp2;refine bodyPost_ret (iJ (g:=w.heap.size+1) ?h1 rfl) rfl ⟨rfl, ?h2⟩;case h1=>first|exact aG _ (aD _ _ (by simp))|exact gH (aG _ (aD _ _ (by simp)))
 case h2=>first|exact((aj.alloc aB _).alloc (by simp) _).alloc (by simp;omega) _|exact(((aj.alloc aB _).alloc (by simp) _).alloc (by simp;omega) _).drew
theorem abr(nm:ByteArray)(o:ByteArray)(up:ByteArray)(lo:Int)(hi:Int)(aw:Option Addr)(nw cw:Nat)(ag:Option Addr)(ng cg:Nat)(w:World):
  Calls Tryz.prog 226 #[.agg #[.string nm,.string o,.string up,.int .i64 7,.int .i64 lo,.int .i64 hi,.slice aw nw cw,.slice ag ng cg]] w fun e w'=>e=.returned (.agg #[.string nm,.string o,.string up,.int .i64 7,.int .i64 lo,.int .i64 hi,.slice none 0 0,.slice none 0 0])/\BL w w':=by
 try unfold ah.nil
 go_enter Tryz.func226,Tryz.ntmps226;go_wp2;go_region;go_wp2;refine bodyPost_ret (iJ (g:=w.heap.size+1) ?h1 rfl) rfl ⟨rfl, ?h2⟩;case h1=>first|exact aG _ (aD _ _ (by simp))|exact gH (aG _ (aD _ _ (by simp)))
 case h2=>first|exact((aj.alloc aB _).alloc (by simp) _).alloc (by simp;omega) _|exact(((aj.alloc aB _).alloc (by simp) _).alloc (by simp;omega) _).drew
theorem abt(nm:ByteArray)(o:ByteArray)(up:ByteArray)(aw:Option Addr)(nw cw:Nat)(ag:Option Addr)(ng cg:Nat)(w:World):
  Calls Tryz.prog 226 #[.agg #[.string nm,.string o,.string up,.int .i64 8,.int .i64 0,.int .i64 0,.slice aw nw cw,.slice ag ng cg]] w fun e w'=>e=.returned (.agg #[.string nm,.string o,.string up,.int .i64 8,.int .i64 0,.int .i64 0,.slice none 0 0,.slice none 0 0])/\BL w w':=by
 try unfold ah.nil
 go_enter Tryz.func226,Tryz.ntmps226;go_wp2;go_region;go_wp2;refine bodyPost_ret (iJ (g:=w.heap.size+1) ?h1 rfl) rfl ⟨rfl, ?h2⟩;case h1=>first|exact aG _ (aD _ _ (by simp))|exact gH (aG _ (aD _ _ (by simp)))
 case h2=>first|exact((aj.alloc aB _).alloc (by simp) _).alloc (by simp;omega) _|exact(((aj.alloc aB _).alloc (by simp) _).alloc (by simp;omega) _).drew
def ZW(k:Int)(v:Value):Value:=if k=3 then v else .slice none 0 0
theorem PA(f:ah.cA)(hf:ah.cN f=true)(aw:Option Addr)(nw cw:Nat)(ag:Option Addr)(ng cg:Nat)(w:World):
  Calls Tryz.prog 226 #[.agg (bX f (.slice aw nw cw) (.slice ag ng cg)).toArray] w fun e w'=>e=.returned (.agg (bX f (ZW f.kind (.slice aw nw cw)) (ZW f.kind (.slice ag ng cg))).toArray)/\BL w w':=by
 obtain⟨k0,k8⟩:=ah.tI hf;unfold ah.cN ah.mz at hf;obtain⟨nm,o,up,k,lo,hi,ws,gs⟩:=f;simp only at k0 k8;have:k=0\/k=1\/k=2\/k=3\/k=4\/k=5\/k=6\/k=7\/k=8:=by omega
 simp only[bX];rcases this with rfl|rfl|rfl|rfl|rfl|rfl|rfl|rfl|rfl<;>simp only[zBa,Bool.or_eq_true,zDt] at hf<;>simp at hf
 ·obtain⟨⟨-,hz⟩, -⟩:=hf
  obtain⟨⟨⟨⟨rfl,rfl⟩,rfl⟩,rfl⟩,rfl⟩:=hz;refine(abk nm lo aw nw cw ag ng cg w).mono ?_;rintro e w' ⟨rfl,hb⟩;exact⟨rfl,hb⟩
 ·obtain⟨⟨-,hz⟩, -⟩:=hf
  obtain⟨⟨rfl,rfl⟩,rfl⟩:=hz;refine(abl nm o lo hi aw nw cw ag ng cg w).mono ?_;rintro e w' ⟨rfl,hb⟩;exact⟨rfl,hb⟩
 ·obtain⟨⟨-,hz⟩, -⟩:=hf
  obtain⟨⟨⟨rfl,rfl⟩,rfl⟩,rfl⟩:=hz;refine(abm nm lo hi aw nw cw ag ng cg w).mono ?_;rintro e w' ⟨rfl,hb⟩;exact⟨rfl,hb⟩
 ·obtain⟨⟨-,hz⟩, -⟩:=hf
  obtain⟨⟨⟨rfl,rfl⟩,rfl⟩,rfl⟩:=hz;refine(abn nm aw nw cw ag ng cg w).mono ?_;rintro e w' ⟨rfl,hb⟩;exact⟨rfl,hb⟩
 ·obtain⟨⟨-,hz⟩, -⟩:=hf
  obtain⟨⟨rfl,rfl⟩,rfl⟩:=hz;refine(abo nm o lo hi aw nw cw ag ng cg w).mono ?_;rintro e w' ⟨rfl,hb⟩;exact⟨rfl,hb⟩
 ·obtain⟨⟨-,hz⟩, -⟩:=hf
  obtain⟨⟨rfl,rfl⟩,rfl⟩:=hz;refine(abp nm o lo hi aw nw cw ag ng cg w).mono ?_;rintro e w' ⟨rfl,hb⟩;exact⟨rfl,hb⟩
 ·obtain⟨⟨-,hz⟩, -⟩:=hf
  obtain⟨⟨⟨⟨rfl,rfl⟩,rfl⟩,rfl⟩,rfl⟩:=hz;refine(abq nm o aw nw cw ag ng cg w).mono ?_;rintro e w' ⟨rfl,hb⟩;exact⟨rfl,hb⟩
 ·obtain⟨⟨-,hz⟩, -⟩:=hf
  obtain⟨rfl,rfl⟩:=hz;refine(abr nm o up lo hi aw nw cw ag ng cg w).mono ?_;rintro e w' ⟨rfl,hb⟩;exact⟨rfl,hb⟩
 ·obtain⟨⟨-,hz⟩, -⟩:=hf
  obtain⟨⟨⟨rfl,rfl⟩,rfl⟩,rfl⟩:=hz;refine(abt nm o up aw nw cw ag ng cg w).mono ?_;rintro e w' ⟨rfl,hb⟩;exact⟨rfl,hb⟩
theorem Br(f:ah.cA)(aw WZ:Option Addr)(cw W9:Nat)(ag ND:Option Addr)(cg MX:Nat)(S T S' T':Nat->Prop)(w:World)
  (h1:fL S w (.slice aw f.agb.length cw) f.agb)(h2:fL T w (.slice WZ f.agb.length W9) f.agb)(h3:bO S' w (.slice ag f.aga.length cg) f.aga)(h4:bO T' w (.slice ND f.aga.length MX) f.aga):
  Calls Tryz.prog 225 #[.agg (bX f (.slice aw f.agb.length cw) (.slice ag f.aga.length cg)).toArray,.agg (bX f (.slice WZ f.agb.length W9) (.slice ND f.aga.length MX)).toArray] w
   fun e w'=>e=.returned (.bool true)/\BL w w':=by
 have HS:=hid (fun(W:World) (hb:BL w W)=>Pz f.agb _ _ S T W (h1.keep (aA.below hb)) (h2.keep (aA.below hb)));have HI:=hid (fun(W:World) (hb:BL w W)=>Py f.aga _ _ S' T' W (h3.keep (aA.below hb)) (h4.keep (aA.below hb)));clear h1 h2 h3 h4;obtain⟨nm,o,up,k,lo,hi,ws,gs⟩:=f;simp only[bX] at HS HI ⊢;generalize ws.length=nw at*;generalize gs.length=ng at*;go_enter Tryz.func225,Tryz.ntmps225;go_wp2_with fail;refine(HS.out _ ((aj.alloc aB _).alloc (by simp) _)).mono ?_;rintro e w2 ⟨rfl,hb2⟩;have bB:Hid (BL w w2):=hid (((aj.alloc aB _).alloc (by simp) _).trans (hb2.mono (by simp;omega)))
 obtain⟨y6,y7,y8,y9⟩:w2.cell? ⟨w.heap.size,6,none⟩=some (.slice aw nw cw)/\w2.cell? ⟨w.heap.size,7,none⟩=some (.slice ag ng cg)/\w2.cell? ⟨w.heap.size+1,6,none⟩=some (.slice WZ nw W9)/\w2.cell? ⟨w.heap.size+1,7,none⟩=some (.slice ND ng MX):=by
  refine⟨(hb2.cell (p:=⟨w.heap.size,6,none⟩) (by simp;omega)).trans (by simp),(hb2.cell (p:=⟨w.heap.size,7,none⟩) (by simp;omega)).trans (by simp),(hb2.cell (p:=⟨w.heap.size+1,6,none⟩) (by simp)).trans (by simp),(hb2.cell (p:=⟨w.heap.size+1,7,none⟩) (by simp)).trans (by simp)⟩
 clear hb2;go_wp2_with fail;refine(HI.out _ bB.out).mono ?_;rintro e w3 ⟨rfl,hb3⟩;have bG:=bq bB hb3;clear hb3;go_wp2;go_ret;exact⟨rfl,bG.out⟩
theorem Lw(S:Nat->Prop):∀(X:World) (u:Value) (x:ByteArray),(fun(_:Nat->Prop) (_:World) u (x:ByteArray)=>u=Value.string x) S X u x->∃c,u=.string c:=fun _ _ _ h=>⟨_,h⟩
theorem CM(ws:List ByteArray)(v:Value)(S:Nat->Prop)(w:World)(hv:fL S w v ws):
  Calls Tryz.prog 202 #[v,.func (.func 197) #[] #[]] w fun e w'=>e=.returned (.bool (ws.all ah.aN))/\BL w w':=
 XR GA ws ah.aN v S w hv (Lw S) 197 #[] (aZ Tryz.func197 (by kernel_rfl) rfl) (fun X _ j hj u hu=>by
  have hu:u=.string ws[j]:=hu;subst hu;exact cM ws[j] X)
theorem Lx(gs:List Int){k:Nat}(h:k<gs.length):ah.rX (gs.take (k+1))=ah.rX (gs.take k)+gs[k]:=by
 rw[zTs h];unfold ah.rX;rw[List.foldl_append];rfl
theorem oA{ws:List ah.Nm}{gs:List Int}(h:ah.j6 ws gs=true):(∀g∈gs,ah.qV g 0 1048576=true)/\ah.qV ws.length 1 12=true/\ws.length=gs.length/\0<ah.rX gs/\ws.all ah.aN=true:=by
 unfold ah.j6 at h;simp only[zBa,zDt,List.all_eq_true] at h;exact⟨h.1.1.1.1,h.1.1.1.2,h.1.1.2,h.1.2,by rw[List.all_eq_true];exact h.2⟩
theorem gK{n a b:Int}(h:ah.qV n a b=true):a<=n/\n<=b:=by
 unfold ah.qV at h;simpa using h
theorem Hz(ws:List ByteArray)(gs:List Int)(h:ah.j6 ws gs=true)(v u:Value)(S T:Nat->Prop)(w:World)(hv:fL S w v ws)(hu:bO T w u gs):
  Calls Tryz.prog 227 #[v,u] w fun e w'=>e=.returned (.bool true)/\BL w w':=by
 obtain⟨p1,p2,p3,p4,p5⟩:=oA h;have Te:=(gK p2).2;have HG:=hid p1;have HW:=hid p2;have HL:=hid p3;have HP:=hid p4;obtain⟨a,cap,rfl,hok,hcap,hmax⟩:=hv.form;obtain⟨b,cb,rfl,hokb,hcapb,hmaxb⟩:=hu.form;have HN:=hid (fun(W:World) (hb:BL w W)=>CM ws _ S W (hv.keep (aA.below hb)));rw[p5] at HN;have HU:=hid hu;rw[p3] at HN Te;have HW2:=hid (fun W=>fH (ws.length:Int) 1 12 W);rw[HW.out,p3] at HW2;rw[p3];clear hv hu h p1 p2 p3 p4 p5;have hgl:gs.length<=12:=by omega
 go_enter Tryz.func227,Tryz.ntmps227;go_upto_region 3 with fail;go_loopw [5,10] (fun s i wr=>∃(k:Nat) (z:Int),k<=gs.length/\i=.int .i64 (k:Int)/\s=.int .i64 z/\Hid (z=ah.rX (gs.take k)/\0<=z/\z<=1048576*k)/\Hid (BL w wr)) (fun _ i _=>gs.length-(intOf i).toNat);case atStart=>exact⟨0,0,by omega,rfl,rfl,hid ⟨rfl,by omega,by omega⟩,hid aj⟩
 case round=>
  obtain⟨k,z,hk,rfl,rfl,HZ,HB⟩:=hrel;obtain⟨wo,rfl⟩:=nmE (wr:World);by_cases hlt:k<gs.length
  ·have hk0:(0:Int)<=(k:Int):=by omega
   have hk1:(k:Int)<(gs.length:Int):=by omega
   obtain⟨x,hx, -,hx2⟩:=(bO.keep HU.out (aA.below HB.out)).at hlt;subst hx2;have hg:=HG.out _ (zGm hlt);have hgn:=gK hg;have HI:=hid (fH gs[k] 0 1048576 wo);rw[hg] at HI
   have HZ2:Hid (z+gs[k]=ah.rX (gs.take (k+1))/\0<=z+gs[k]/\z+gs[k]<=1048576*(k+1:Nat)):=hid (by
    have:=HZ.out
    refine⟨by rw[Lx gs hlt,this.1],by omega,by omega⟩)
   have hz1:0<=z:=HZ.out.2.1;have hz2:z<=1048576*12:=by have:=HZ.out.2.2;omega
   clear hg;generalize gs[k]=g at*;go_wp2_with fail;refine HI.out.mono ?_;rintro e w' ⟨rfl,rfl⟩;go_wp2;go_roundw;case rel=>exact⟨k+1,z+g,by omega,by go_num,rfl,HZ2,HB⟩
   simp[intOf];omega
  ·have hz:0<z:=by
    have:=HZ.out.1
    rw[this,zTl (by omega)]
    exact HP.out
   have yd:=hid (HN.out wo HB.out);have XS:=hid (HW2.out wo);go_wp2_with fail;refine XS.out.mono ?_;rintro e w' ⟨rfl,rfl⟩;go_wp2_with fail;refine yd.out.mono ?_;rintro e w' ⟨rfl,hb⟩;have bB:=bq HB hb;clear hb;go_wp2;go_ret;exact⟨rfl,bB.out⟩
theorem PB{S:Nat->Prop}{w:World}{f:ah.cA}(hf:ah.cN f=true){aw:Option Addr}{cw:Nat}(_h:fL S w (.slice aw f.agb.length cw) f.agb):
  ∃a c,ZW f.kind (.slice aw f.agb.length cw)=.slice a f.agb.length c/\∀W,fL S W (.slice aw f.agb.length cw) f.agb->fL S W (.slice a f.agb.length c) f.agb:=by
 unfold ZW;by_cases h3:f.kind=3
 ·rw[if_pos h3];exact⟨aw,cw,rfl,fun _ h=>h⟩
 ·rw[if_neg h3]
  have hw:f.agb=[]:=by
   unfold ah.cN ah.mz at hf;simp only[zBa,Bool.or_eq_true,zDt] at hf;rcases hf.1.2.1.2 with e|e
   ·exact e
   ·exact absurd e h3
  rw[hw];exact⟨none,0,rfl,fun W _=>eX.nil _ _ _⟩
theorem PD{S:Nat->Prop}{w:World}{f:ah.cA}(hf:ah.cN f=true){aw:Option Addr}{cw:Nat}(_h:bO S w (.slice aw f.aga.length cw) f.aga):
  ∃a c,ZW f.kind (.slice aw f.aga.length cw)=.slice a f.aga.length c/\∀W,bO S W (.slice aw f.aga.length cw) f.aga->bO S W (.slice a f.aga.length c) f.aga:=by
 unfold ZW;by_cases h3:f.kind=3
 ·rw[if_pos h3];exact⟨aw,cw,rfl,fun _ h=>h⟩
 ·rw[if_neg h3]
  have hw:f.aga=[]:=by
   unfold ah.cN ah.mz at hf;simp only[zBa,Bool.or_eq_true,zDt] at hf;rcases hf.1.2.2 with e|e
   ·exact e
   ·exact absurd e h3
  rw[hw];exact⟨none,0,rfl,fun W _=>eX.nil _ _ _⟩
theorem wV{f:ah.cA}(h:ah.cN f=true):ah.aN f.name=true/\ah.lM f=true:=by
 unfold ah.cN at h;simp only[zBa] at h;exact⟨h.1.1,h.2⟩
theorem E9(f:ah.cA)(hf:ah.cN f=true)(uw ug:Value)(S T:Nat->Prop)(w:World)(h1:fL S w uw f.agb)(h2:bO T w ug f.aga):
  Calls Tryz.prog 200 #[.agg (bX f uw ug).toArray] w fun e w'=>e=.returned (.bool true)/\BL w w':=by
 obtain⟨hnm,hcase⟩:=wV hf;obtain⟨kk0,kk8⟩:=ah.tI hf;obtain⟨aw,cw,rfl, -, -, -⟩:=h1.form;obtain⟨ag,cg,rfl, -, -, -⟩:=h2.form;obtain⟨a2,c2,eo1,Tf⟩:=PB hf h1;obtain⟨b2,d2,eo2,ZX⟩:=PD hf h2;have H9:=hid (fun W=>PA f hf aw f.agb.length cw ag f.aga.length cg W);rw[eo1,eo2] at H9;obtain⟨w1,hw1⟩:=nmE (w.alloc (.cells (bX f (.slice aw f.agb.length cw) (.slice ag f.aga.length cg)).toArray 117));have aW:Hid (Below w.heap.size w w1):=hid (by rw[hw1];exact aj.alloc aB _);have HK:Hid (∀W,BL w1 W->W.heap[w.heap.size]?=some (.cells (bX f (.slice aw f.agb.length cw) (.slice ag f.aga.length cg)).toArray 117 (0,0))):=hid (fun W hW=>(hW.block _ (by rw[hw1];simp)).trans (by rw[hw1];exact aD w _ rfl));have Tg:=hid (fun(W:World) (hb:BL w W)=>Br f aw a2 cw c2 ag b2 cg d2 S S T T W (h1.keep (aA.below hb)) (Tf W (h1.keep (aA.below hb))) (h2.keep (aA.below hb)) (ZX W (h2.keep (aA.below hb))));have HPk:=hid (fun(hp:ah.j6 f.agb f.aga=true) (W:World) (hb:BL w W)=>Hz f.agb f.aga hp _ _ S T W (h1.keep (aA.below hb)) (h2.keep (aA.below hb)));have M6:=hid (fun W=>cM f.name W);rw[hnm] at M6;have hz1:w.heap.size<w1.heap.size:=by rw[hw1];simp
 clear h1 h2 eo1 eo2 Tf ZX hnm;obtain⟨nm,o,up,k,lo,hi,ws,gs⟩:=f;simp only[bX] at hw1 H9 HK Tg HPk M6 kk0 kk8 ⊢;generalize ws.length=nw at*;generalize gs.length=ng at*;obtain⟨⟨y0,y1,y2,y3,y4,y5,y6,y7⟩, -⟩:=dn (HK.out w1 aj);have zH:=hid (fun(x:lK w1)=>Calls.nX (x:=x) (M6.out x.1));have HG2:=hid (fun(x:lK w1)=>Calls.nX (x:=x) (H9.out x.1));have sP:=hid (fun(x:lK w1)=>Calls.nX (x:=x) (Tg.out x.1 (tnB aW.out x.2)));have HW:=hid hw1;clear hw1;go_enter Tryz.func200,Tryz.ntmps200;go_upto_region 1 with fail;rw[<-HW.out];have hg:=lK.cell (w:=w1);refine eP (by kernel_rfl) (by kernel_rfl) ?_;iterate 2 (go_big_quiet_step (fail))
 go_big_quiet_step ((exact zH.out _));iterate 4 (go_big_quiet_step (fail))
 go_big_quiet_step ((exact HG2.out _));go_big_quiet_step ((exact sP.out _));repeat (go_big_quiet_step (fail))
 refine zWq ?_;intro w2 hx;have hb2:=jR hx;clear hx hg zH HG2 sP y0 y1 y2 y3 y4 y5 y6 y7;have bB:Hid (BL w1 w2):=hid hb2;have mL:Hid (BL w w2):=hid (tnB aW.out hb2);clear hb2;obtain⟨⟨y0,y1,y2,y3,y4,y5,y6,y7⟩, -⟩:=dn (HK.out w2 bB.out);have sR:=hid hcase;clear hcase;have:k=0\/k=1\/k=2\/k=3\/k=4\/k=5\/k=6\/k=7\/k=8:=by omega
 rcases this with rfl|rfl|rfl|rfl|rfl|rfl|rfl|rfl|rfl
 ·have hc:ah.qV lo (-1048576) 1048576=true:=sR.out
  have HX:=hid (fH lo (-1048576) 1048576 w2);rw[hc] at HX;go_wp2_with fail;refine HX.out.mono ?_;rintro e w' ⟨rfl,rfl⟩;clear HX;go_wp2;go_ret;exact⟨rfl,mL.out⟩
 ·have hc:(ah.aN o&&ah.fG lo hi 0 65536)=true:=sR.out
  obtain⟨hc1,hc2⟩:=Bool.and_eq_true_iff.1 hc;have HX:=hid (cM o w2);rw[hc1] at HX;go_wp2_with fail;refine HX.out.mono ?_;rintro e w3 ⟨rfl,hb⟩;have bG:=bq bB hb;have mM:Hid (BL w w3):=hid (tnB mL.out hb);clear hb HX y0 y1 y2 y3 y4 y5 y6 y7;obtain⟨⟨y0,y1,y2,y3,y4,y5,y6,y7⟩, -⟩:=dn (HK.out w3 bG.out);have HX:=hid (jV lo hi 0 65536 w3);rw[hc2] at HX;go_wp2_with fail;refine HX.out.mono ?_;rintro e w' ⟨rfl,rfl⟩;clear HX;go_wp2;go_ret;exact⟨rfl,mM.out⟩
 ·have hc:ah.fG lo hi (-1048576) 1048576=true:=sR.out
  have HX:=hid (jV lo hi (-1048576) 1048576 w2);rw[hc] at HX;go_wp2_with fail;refine HX.out.mono ?_;rintro e w' ⟨rfl,rfl⟩;clear HX;go_wp2;go_ret;exact⟨rfl,mL.out⟩
 ·have hc:ah.j6 ws gs=true:=sR.out
  have HX:=hid (HPk.out hc w2 mL.out);go_wp2_with fail;refine HX.out.mono ?_;rintro e w3 ⟨rfl,hb⟩;have mM:Hid (BL w w3):=hid (tnB mL.out hb);clear hb HX;go_wp2;go_ret;exact⟨rfl,mM.out⟩
 ·have hc:((decide (o=ah.nil)||ah.aN o)&&ah.fG lo hi (-1048576) 1048576)=true:=sR.out
  obtain⟨hc1,hc2⟩:=Bool.and_eq_true_iff.1 hc;by_cases ho:o=ah.nil
  ·subst ho
   unfold ah.nil at*;have HX:=hid (jV lo hi (-1048576) 1048576 w2);rw[hc2] at HX;go_wp2_with fail;refine HX.out.mono ?_;rintro e w' ⟨rfl,rfl⟩;clear HX;go_wp2;go_ret;exact⟨rfl,mL.out⟩
  ·have hc3:ah.aN o=true:=by
    rw[decide_eq_false ho] at hc1;exact hc1
   have hoe:o.toList.isEmpty=false:=by
    cases hh:o.toList.isEmpty
    ·rfl
    ·exact absurd (str_inj (a:=o) (b:=ah.nil) (by rw[List.isEmpty_iff.1 hh,ByteArray.toList_eq];rfl)) ho
   have HX:=hid (cM o w2);rw[hc3] at HX;go_wp2_with fail;refine HX.out.mono ?_;rintro e w3 ⟨rfl,hb⟩;have bG:=bq bB hb;have mM:Hid (BL w w3):=hid (tnB mL.out hb);clear hb HX y0 y1 y2 y3 y4 y5 y6 y7;obtain⟨⟨y0,y1,y2,y3,y4,y5,y6,y7⟩, -⟩:=dn (HK.out w3 bG.out);have HX:=hid (jV lo hi (-1048576) 1048576 w3);rw[hc2] at HX;go_wp2_with fail;refine HX.out.mono ?_;rintro e w' ⟨rfl,rfl⟩;clear HX;go_wp2;go_ret;exact⟨rfl,mM.out⟩
 ·have hc:(ah.aN o&&ah.fG lo hi 0 32)=true:=sR.out
  obtain⟨hc1,hc2⟩:=Bool.and_eq_true_iff.1 hc;have HX:=hid (cM o w2);rw[hc1] at HX;go_wp2_with fail;refine HX.out.mono ?_;rintro e w3 ⟨rfl,hb⟩;have bG:=bq bB hb;have mM:Hid (BL w w3):=hid (tnB mL.out hb);clear hb HX y0 y1 y2 y3 y4 y5 y6 y7;obtain⟨⟨y0,y1,y2,y3,y4,y5,y6,y7⟩, -⟩:=dn (HK.out w3 bG.out);have HX:=hid (jV lo hi 0 32 w3);rw[hc2] at HX;go_wp2_with fail;refine HX.out.mono ?_;rintro e w' ⟨rfl,rfl⟩;clear HX;go_wp2;go_ret;exact⟨rfl,mM.out⟩
 ·have hc:ah.aN o=true:=sR.out
  have HX:=hid (cM o w2);rw[hc] at HX;go_wp2_with fail;refine HX.out.mono ?_;rintro e w3 ⟨rfl,hb⟩;have bG:=bq bB hb;have mM:Hid (BL w w3):=hid (tnB mL.out hb);clear hb HX y0 y1 y2 y3 y4 y5 y6 y7;obtain⟨⟨y0,y1,y2,y3,y4,y5,y6,y7⟩, -⟩:=dn (HK.out w3 bG.out);go_wp2;go_ret;exact⟨rfl,mM.out⟩
 ·have hc:(ah.aN o&&ah.aN up&&ah.fG lo hi 0 1048576)=true:=sR.out
  obtain⟨hc0,hc3⟩:=Bool.and_eq_true_iff.1 hc;obtain⟨hc1,hc2⟩:=Bool.and_eq_true_iff.1 hc0;have HX:=hid (cM o w2);rw[hc1] at HX;go_wp2_with fail;refine HX.out.mono ?_;rintro e w3 ⟨rfl,hb⟩;have bG:=bq bB hb;have mM:Hid (BL w w3):=hid (tnB mL.out hb);clear hb HX y0 y1 y2 y3 y4 y5 y6 y7;obtain⟨⟨y0,y1,y2,y3,y4,y5,y6,y7⟩, -⟩:=dn (HK.out w3 bG.out);have HX:=hid (cM up w3);rw[hc2] at HX;go_wp2_with fail;refine HX.out.mono ?_;rintro e w4 ⟨rfl,hb⟩;have dO:=bq bG hb;have XT:Hid (BL w w4):=hid (tnB mM.out hb);clear hb HX y0 y1 y2 y3 y4 y5 y6 y7;obtain⟨⟨y0,y1,y2,y3,y4,y5,y6,y7⟩, -⟩:=dn (HK.out w4 dO.out);have HX:=hid (jV lo hi 0 1048576 w4);rw[hc3] at HX;go_wp2_with fail;refine HX.out.mono ?_;rintro e w' ⟨rfl,rfl⟩;clear HX;go_wp2;go_ret;exact⟨rfl,XT.out⟩
 ·have hc:(ah.aN o&&ah.aN up)=true:=sR.out
  obtain⟨hc1,hc2⟩:=Bool.and_eq_true_iff.1 hc;have HX:=hid (cM o w2);rw[hc1] at HX;go_wp2_with fail;refine HX.out.mono ?_;rintro e w3 ⟨rfl,hb⟩;have bG:=bq bB hb;have mM:Hid (BL w w3):=hid (tnB mL.out hb);clear hb HX y0 y1 y2 y3 y4 y5 y6 y7;obtain⟨⟨y0,y1,y2,y3,y4,y5,y6,y7⟩, -⟩:=dn (HK.out w3 bG.out);have HX:=hid (cM up w3);rw[hc2] at HX;go_wp2_with fail;refine HX.out.mono ?_;rintro e w4 ⟨rfl,hb⟩;have dO:=bq bG hb;have XT:Hid (BL w w4):=hid (tnB mM.out hb);clear hb HX y0 y1 y2 y3 y4 y5 y6 y7;obtain⟨⟨y0,y1,y2,y3,y4,y5,y6,y7⟩, -⟩:=dn (HK.out w4 dO.out);go_wp2;go_ret;exact⟨rfl,XT.out⟩
theorem Ia(fs:List ah.cA)(hf:∀f∈fs,ah.cN f=true)(v:Value)(S:Nat->Prop)(w:World)(hv:dh S w v fs):
  Calls Tryz.prog 199 #[v,.func (.func 200) #[] #[]] w fun e w'=>e=.returned (.bool true)/\BL w w':=by
 have H:=XP aT fs (fun _=>true) v S w hv 200 #[] (aZ Tryz.func200 (by kernel_rfl) rfl) (fun X _ j hj us _ hu=>by
  obtain⟨uw,ug,rfl,h1,h2⟩:=hu;exact E9 fs[j] (hf _ (zGm hj)) uw ug S S X h1 h2)
 have:fs.all (fun _=>true)=true:=by simp
 rwa [this] at H
theorem wW{k:ah.dZ}(h:ah.oK k=true):ah.aN k.name=true/\ah.fG k.lo k.hi 0 65536=true/\k.af4.length<=10/\∀f∈k.af4,ah.cN f=true:=by
 unfold ah.oK at h;simp only[zBa,zDt,List.all_eq_true] at h;exact⟨h.1.1.1,h.1.1.2,h.1.2,h.2⟩
theorem Ib(k:ah.dZ)(hk:ah.oK k=true)(uf:Value)(S:Nat->Prop)(w:World)(hv:dh S w uf k.af4):
  Calls Tryz.prog 170 #[.agg (kC k uf).toArray] w fun e w'=>e=.returned (.bool true)/\BL w w':=by
 obtain⟨p1,p2,p3,p4⟩:=wW hk;obtain⟨af,cf,rfl, -, -, -⟩:=hv.form;have HA:=hid (fun(W:World) (hb:BL w W)=>Ia k.af4 p4 _ S W (hv.keep (aA.below hb)));have HN:=hid (fun W=>cM k.name W);have HS:=hid (fun W=>jV k.lo k.hi 0 65536 W);rw[p1] at HN;rw[p2] at HS;obtain⟨w1,hw1⟩:=nmE (w.alloc (.cells (kC k (.slice af k.af4.length cf)).toArray 102));have aW:Hid (Below w.heap.size w w1):=hid (by rw[hw1];exact aj.alloc aB _);have HK:Hid (∀W,BL w1 W->W.heap[w.heap.size]?=some (.cells (kC k (.slice af k.af4.length cf)).toArray 102 (0,0))):=hid (fun W hW=>(hW.block _ (by rw[hw1];simp)).trans (by rw[hw1];exact aD w _ rfl));clear hv hk p1 p2 p4;obtain⟨nm,lo,hi,fs⟩:=k;simp only[kC] at hw1 HK HA HN HS p3 ⊢;generalize fs.length=n at*;have hn:(n:Int)<=10:=by omega
 have HW:=hid hw1;clear hw1;obtain⟨⟨y0,y1,y2,y3⟩, -⟩:=aO (HK.out w1 aj);go_enter Tryz.func170,Tryz.ntmps170;go_upto_region 1 with fail;rw[<-HW.out];go_wp2_with fail;refine(HN.out _).mono ?_;rintro e w2 ⟨rfl,hb⟩;clear y0 y1 y2 y3;obtain⟨⟨y0,y1,y2,y3⟩, -⟩:=aO (HK.out w2 hb);have bB:=bq aW hb;clear hb;go_wp2_with fail;refine(HS.out _).mono ?_;rintro e w' ⟨rfl,rfl⟩;go_wp2_with fail;refine(HA.out _ bB.out).mono ?_;rintro e w3 ⟨rfl,hb⟩;have bG:=bq bB hb;clear hb;go_wp2;go_ret;exact⟨rfl,bG.out⟩
theorem Fa(m:Int×Int)(n b:Nat)(hm:ah.yS n m=true)(hn:n<=100)(w:World)(hb:w.cell? ⟨b,0,none⟩=some (.int .i64 (n:Int))):
  Calls Tryz.prog 204 #[.agg #[.int .i64 m.1,.int .i64 m.2],.pointer (some ⟨b,0,none⟩)] w fun e w'=>e=.returned (.bool true)/\BL w w':=by
 unfold ah.yS at hm;obtain⟨h1,h2⟩:=Bool.and_eq_true_iff.1 hm;have H1:=hid (fun W=>fH m.1 0 ((n:Int)-1) W);have H2:=hid (fun W=>fH m.2 0 ((n:Int)-1) W);rw[h1] at H1;rw[h2] at H2;have hz:b<w.heap.size:=zBl w _ hb;clear hm h1 h2;obtain⟨m1,m2⟩:=m;simp only at H1 H2 ⊢;go_enter Tryz.func204,Tryz.ntmps204;go_wp2_with fail;refine(H1.out _).mono ?_;rintro e w' ⟨rfl,rfl⟩;go_wp2_with fail;refine(H2.out _).mono ?_;rintro e w' ⟨rfl,rfl⟩;go_wp2;go_ret;exact⟨rfl,aj.alloc aB _⟩
theorem wX{x:ah.Eb}(h:ah.tf x=true):ah.aN x.name=true/\ah.qV x.agc.length 1 12=true/\x.agc.all ah.aN=true/\x.agd.length<=32/\∀m∈x.agd,ah.yS x.agc.length m=true:=by
 unfold ah.tf at h;simp only[zBa,zDt] at h;exact⟨h.1.1.1.1,h.1.1.1.2,h.1.1.2,h.1.2,List.all_eq_true.1 h.2⟩
theorem CN{w:World}{F:Nat}{x0 x1 x2:Value}{t:TypeId}(h:w.heap[F]?=some (.cells #[x0,x1,x2] t (0,0))):
  w.cell? ⟨F,0,none⟩=some x0/\w.cell? ⟨F,1,none⟩=some x1/\w.cell? ⟨F,2,none⟩=some x2:=⟨(aI h 0).trans rfl,(aI h 1).trans rfl,(aI h 2).trans rfl⟩
theorem Ic(x:ah.Eb)(hx:ah.tf x=true)(u1 u2:Value)(S:Nat->Prop)(w:World)(hs:fL S w u1 x.agc)(hm:BZ S w u2 x.agd):
  Calls Tryz.prog 172 #[.agg #[.string x.name,u1,u2]] w fun e w'=>e=.returned (.bool true)/\BL w w':=by
 obtain⟨p1,p2,p3,p4,p5⟩:=wX hx;obtain⟨a1,c1,rfl, -, -, -⟩:=hs.form;obtain⟨a2,c2,rfl, -, -, -⟩:=hm.form;have hn:=(gK p2).2;obtain⟨w1,hw1⟩:=nmE ((w.alloc (.cells #[.string x.name,.slice a1 x.agc.length c1,.slice a2 x.agd.length c2] 107)).alloc (.cells #[.int .i64 (x.agc.length:Int)] 3));have aW:Hid (Below w.heap.size w w1):=hid (by rw[hw1];exact(aj.alloc aB _).alloc (by simp) _);have HK:Hid (∀W,BL w1 W->W.heap[w.heap.size]?=some (.cells #[.string x.name,.slice a1 x.agc.length c1,.slice a2 x.agd.length c2] 107 (0,0))):=hid (fun W hW=>(hW.block _ (by rw[hw1];simp;omega)).trans (by rw[hw1];exact aG _ (aD w _ rfl)));have HC:Hid (∀W,BL w1 W->W.cell? ⟨w.heap.size+1,0,none⟩=some (.int .i64 (x.agc.length:Int))):=hid (fun W hW=>(hW.cell (p:=⟨w.heap.size+1,0,none⟩) (by rw[hw1];simp)).trans (by rw[hw1];simp));have HN:=hid (fun W=>cM x.name W);have HI:=hid (fun W=>fH (x.agc.length:Int) 1 12 W);have HA:=hid (fun(W:World) (hb:BL w W)=>CM x.agc _ S W (hs.keep (aA.below hb)))
 have HM:=hid (fun(W:World) (hb:BL w W) (hb1:BL w1 W)=>XQ dx x.agd (fun _=>true) _ S W (dA.keep dx hm (aA.below hb)) 204 #[.pointer (some ⟨w.heap.size+1,0,none⟩)] (aZ Tryz.func204 (by kernel_rfl) rfl)
  (fun X hX j hj us _ hu=>by
   have hu:us=[.int .i64 x.agd[j].1,.int .i64 x.agd[j].2]:=hu;subst hu;exact Fa x.agd[j] x.agc.length (w.heap.size+1) (p5 _ (zGm hj)) (by omega) X (HC.out X (tnB hb1 hX))))
 have hall:x.agd.all (fun _=>true)=true:=by simp
 rw[hall] at HM;rw[p1] at HN;rw[p2] at HI;rw[p3] at HA;clear hs hm hx p1 p2 p3 p5 hall;obtain⟨nm,ss,ms⟩:=x;simp only at hw1 HK HC HN HI HA HM p4 hn ⊢;generalize ss.length=n at*;generalize ms.length=m at*;have hm32:(m:Int)<=32:=by omega
 have HW:=hid hw1;clear hw1;have cn:=HC.out w1 aj;obtain⟨y0,y1,y2⟩:=CN (HK.out w1 aj);go_enter Tryz.func172,Tryz.ntmps172;go_upto_region 2 with fail;rw[<-HW.out];go_wp2_with fail;refine(HN.out _).mono ?_;rintro e w2 ⟨rfl,hb⟩;clear y0 y1 y2 cn;have cn:=HC.out w2 hb;obtain⟨y0,y1,y2⟩:=CN (HK.out w2 hb);have bB:=bq aW hb;have cU:=hid hb;clear hb;go_wp2_with fail;refine(HI.out _).mono ?_;rintro e w' ⟨rfl,rfl⟩;go_wp2_with fail;refine(HA.out _ bB.out).mono ?_;rintro e w3 ⟨rfl,hb⟩;clear y0 y1 y2 cn;have dD:=bq cU hb;have cn:=HC.out w3 dD.out;obtain⟨y0,y1,y2⟩:=CN (HK.out w3 dD.out);have bG:=bq bB hb;clear hb;go_wp2_with fail;refine(HM.out _ bG.out dD.out).mono ?_;rintro e w4 ⟨rfl,hb⟩;have dO:=bq bG hb;clear hb;go_wp2;go_ret;exact⟨rfl,dO.out⟩
theorem wY{r:ah.uY}(h:ah.tg r=true):ah.aN r.name=true/\ah.aN r.kind=true/\(r.a=ah.nil\/ah.aN r.a=true)/\(r.b=ah.nil\/ah.aN r.b=true)/\¬(r.a=ah.nil/\r.b=ah.nil)/\ah.qV r.n (-1048576) 1048576=true:=by
 unfold ah.tg at h;simp only[zBa,Bool.or_eq_true,zDt,Bool.not_eq_true',Bool.and_eq_false_iff,decide_eq_false_iff_not] at h;refine⟨h.1.1.1.1.1,h.1.1.1.1.2,h.1.1.1.2,h.1.1.2,fun⟨g1,g2⟩=>?_,h.2⟩;rcases h.1.2 with g|g
 ·exact g g1
 ·exact g g2
theorem qi{o:ByteArray}(h:¬o=ah.nil):o.toList.isEmpty=false:=by
 cases hh:o.toList.isEmpty
 ·rfl
 ·exact absurd (str_inj (a:=o) (b:=ah.nil) (by rw[List.isEmpty_iff.1 hh,ByteArray.toList_eq];rfl)) h
end Go.Proofs.YtobgljfnfpolkaaGreatDoor
namespace Go.Proofs
open Go.Shelf Go.RowKit Go.Sort Go.Lib
def Tryz.wZ:Go.Shelf.Ren:=⟨fun|169=>210|n=>n,fun|70=>301|9=>9|0=>0|72=>303|37=>206|127=>325|3=>3|5=>5|n=>n,fun|n=>n⟩
theorem Tryz.Ti:Go.Proofs.Lays.n169 Tryz.prog Tryz.wZ:={
 mixed:=by kernel_rfl
 f169:=Tryz.func210.trans (congrArg some (by kernel_rfl))
 t0:=Tryz.underlying0
 a0:=Tryz.isAgg0
 z0:=Tryz.sizeOf0
 v0:=Tryz.zeroValue0
 t3:=Tryz.underlying3
 a3:=Tryz.isAgg3
 z3:=Tryz.sizeOf3
 v3:=Tryz.zeroValue3
 t9:=Tryz.underlying9
 a9:=Tryz.isAgg9
 z9:=Tryz.sizeOf9
 v9:=Tryz.zeroValue9
 t37:=Tryz.underlying206
 a37:=Tryz.isAgg206
 z37:=Tryz.sizeOf206
 v37:=Tryz.zeroValue206
 t70:=Tryz.underlying301
 a70:=Tryz.isAgg301
 z70:=Tryz.sizeOf301
 v70:=Tryz.zeroValue301
 t72:=Tryz.underlying303
 a72:=Tryz.isAgg303
 z72:=Tryz.sizeOf303
 v72:=Tryz.zeroValue303
 t127:=Tryz.underlying325
 a127:=Tryz.isAgg325
 z127:=Tryz.sizeOf325
 v127:=Tryz.zeroValue325}
theorem Tryz.tS:Builder.Extra Tryz.prog Tryz.wZ:={
 sizeBuilder:=by kernel_rfl
 liesBuilder:=by kernel_rfl
 t5:=Tryz.underlying5
 a5:=Tryz.isAgg5
 z5:=Tryz.sizeOf5
 v5:=Tryz.zeroValue5
 infoByte:=by kernel_rfl
 cellsByte:=by kernel_rfl
 sizeByte:=by kernel_rfl
 neB5:=by decide}
open Go.RowKit in
theorem Tryz.Builder_String_any(B b:Nat)(l:List UInt8)(w:World)(h:Lib.IsBuilder 303 5 B b (Lib.byteCells l) w)(hBw:B<=w.heap.size):
  Calls Tryz.prog 210 #[.pointer (some ⟨b,0,none⟩)] w fun e w'=>e=.returned (.string ⟨l.toArray⟩)/\Below B w w':=Any.Builder_String_any Tryz.Ti Tryz.tS B b l w h hBw
def Tryz.DL:Go.Shelf.Ren:=⟨fun|171=>234|243=>242|246=>243|283=>244|284=>245|285=>246|286=>247|129=>158|317=>248|318=>249|319=>250|320=>251|337=>252|338=>253|n=>n,fun|3=>3|9=>9|2=>2|4=>4|171=>333|0=>0|53=>251|37=>206|5=>5|173=>335|212=>338|51=>248|20=>20|213=>339|46=>175|232=>341|233=>342|n=>n,fun|17=>2|18=>3|19=>4|n=>n⟩
theorem Tryz.PE:Go.Proofs.LaysM.n171 Tryz.prog Tryz.DL:={
 mixed:=by kernel_rfl
 f129:=Tryz.func158.trans (congrArg some (by kernel_rfl))
 f171:=Tryz.func234.trans (congrArg some (by kernel_rfl))
 f243:=Tryz.func242.trans (congrArg some (by kernel_rfl))
 f246:=Tryz.func243.trans (congrArg some (by kernel_rfl))
 f283:=Tryz.func244.trans (congrArg some (by kernel_rfl))
 f284:=Tryz.func245.trans (congrArg some (by kernel_rfl))
 f285:=Tryz.func246.trans (congrArg some (by kernel_rfl))
 f286:=Tryz.func247.trans (congrArg some (by kernel_rfl))
 f317:=Tryz.func248.trans (congrArg some (by kernel_rfl))
 f318:=Tryz.func249.trans (congrArg some (by kernel_rfl))
 f319:=Tryz.func250.trans (congrArg some (by kernel_rfl))
 f320:=Tryz.func251.trans (congrArg some (by kernel_rfl))
 f337:=Tryz.func252.trans (congrArg some (by kernel_rfl))
 f338:=Tryz.func253.trans (congrArg some (by kernel_rfl))
 t0:=Tryz.underlying0
 a0:=Tryz.isAgg0
 z0:=Tryz.sizeOf0
 v0:=Tryz.zeroValue0
 t2:=Tryz.underlying2
 a2:=Tryz.isAgg2
 z2:=Tryz.sizeOf2
 v2:=Tryz.zeroValue2
 t3:=Tryz.underlying3
 a3:=Tryz.isAgg3
 z3:=Tryz.sizeOf3
 v3:=Tryz.zeroValue3
 t4:=Tryz.underlying4
 a4:=Tryz.isAgg4
 z4:=Tryz.sizeOf4
 v4:=Tryz.zeroValue4
 t5:=Tryz.underlying5
 a5:=Tryz.isAgg5
 z5:=Tryz.sizeOf5
 v5:=Tryz.zeroValue5
 t9:=Tryz.underlying9
 a9:=Tryz.isAgg9
 z9:=Tryz.sizeOf9
 v9:=Tryz.zeroValue9
 t20:=Tryz.underlying20
 a20:=Tryz.isAgg20
 z20:=Tryz.sizeOf20
 v20:=Tryz.zeroValue20
 t37:=Tryz.underlying206
 a37:=Tryz.isAgg206
 z37:=Tryz.sizeOf206
 v37:=Tryz.zeroValue206
 t46:=Tryz.underlying175
 a46:=Tryz.isAgg175
 z46:=Tryz.sizeOf175
 v46:=Tryz.zeroValue175
 t51:=Tryz.underlying248
 a51:=Tryz.isAgg248
 z51:=Tryz.sizeOf248
 v51:=Tryz.zeroValue248
 t53:=Tryz.underlying251
 a53:=Tryz.isAgg251
 z53:=Tryz.sizeOf251
 v53:=Tryz.zeroValue251
 t171:=Tryz.underlying333
 a171:=Tryz.isAgg333
 z171:=Tryz.sizeOf333
 v171:=Tryz.zeroValue333
 t173:=Tryz.underlying335
 a173:=Tryz.isAgg335
 z173:=Tryz.sizeOf335
 v173:=Tryz.zeroValue335
 t212:=Tryz.underlying338
 a212:=Tryz.isAgg338
 z212:=Tryz.sizeOf338
 v212:=Tryz.zeroValue338
 t213:=Tryz.underlying339
 a213:=Tryz.isAgg339
 z213:=Tryz.sizeOf339
 t232:=Tryz.underlying341
 a232:=Tryz.isAgg341
 z232:=Tryz.sizeOf341
 v232:=Tryz.zeroValue341
 t233:=Tryz.underlying342
 a233:=Tryz.isAgg342
 z233:=Tryz.sizeOf342
 v233:=Tryz.zeroValue342
 g17:=by kernel_rfl
 g18:=by kernel_rfl
 g19:=by kernel_rfl
 i0:=by kernel_rfl
 i2:=by kernel_rfl
 i3:=by kernel_rfl
 i4:=by kernel_rfl
 i5:=by kernel_rfl
 i9:=by kernel_rfl
 i20:=by kernel_rfl
 i37:=by kernel_rfl
 i46:=by kernel_rfl
 i51:=by kernel_rfl
 i53:=by kernel_rfl
 i171:=by kernel_rfl
 i173:=by kernel_rfl
 i212:=by kernel_rfl
 i232:=by kernel_rfl
 i233:=by kernel_rfl
 m17:=by kernel_rfl
 m18:=by kernel_rfl
 m19:=by kernel_rfl}
theorem Tryz.strconv_Itoa(n:Int)(h0: -9223372036854775808<=n)(h1:n<=9223372036854775807)(w:World)(htab:Lib.TabIs Tryz.prog w "internal/strconv.uint64pow10" .u64 Lib.pow10Tab):
  Calls Tryz.prog 234 #[.int .i64 n] w fun e w'=>e=.returned (.string ⟨(Lib.itoa n).toArray⟩)/\∃k os,w'=grow (w.drewN k) os:=Any.strconv_Itoa Tryz.PE n h0 h1 w htab
end Go.Proofs
namespace Go.Proofs.YtobgljfnfpolkaaGreatDoor
open Go.RowKit
theorem Fb:∃j,Tryz.prog.info? 303=some j/\j.size=2:=by
 have h:(Tryz.prog.info? 303).map (·.size)=some 2:=by kernel_rfl
 exact Option.map_eq_some_iff.1 h
theorem zJ(b:Nat)(w:World)(h0:w.cell? ⟨b,0,none⟩=some (.pointer (some ⟨b,0,none⟩))):
  Calls Tryz.prog 232 #[.pointer (some ⟨b,0,none⟩)] w fun e w'=>e=.returned (.tuple #[])/\w=w':=by
 obtain⟨j,hj,_⟩:=Fb;go_enter Tryz.func232,Tryz.ntmps232;go_wp2;rw[Lib.run_neq_ptr_same w _ Tryz.underlying301 hj];go_wp2;go_end0;exact⟨rfl,rfl⟩
theorem ye(b:Nat)(w:World)(h0:w.cell? ⟨b,0,none⟩=some (.pointer none))(hsh:w.shape? b=some (303,2))(hfz:w.frozen? ⟨b,0,none⟩=false):
  Calls Tryz.prog 232 #[.pointer (some ⟨b,0,none⟩)] w fun e w'=>e=.returned (.tuple #[])/\w.setCell ⟨b,0,none⟩ (.pointer (some ⟨b,0,none⟩))=w':=by
 obtain⟨j,hj,hjs⟩:=Fb;go_enter Tryz.func232,Tryz.ntmps232;go_wp2;rw[Lib.run_to_unsafe w ⟨b,0,none⟩ Tryz.underlying301 Tryz.underlying330 hj (by rw[hjs];decide) hsh (Nat.zero_lt_succ 1)];simp only[Result.andThen];rw[Oper.upon_value];go_wp2;rw[run_callFunc_extern Tryz.func241 (by kernel_rfl) (by kernel_rfl) (by kernel_rfl) (e:=Extern.AbiNoEscape.same) (by kernel_rfl)];rw[Lib.run_noEscape];simp only[Result.andThen];rw[Oper.upon_value];go_wp2;rw[Lib.run_from_unsafe w ⟨b,0,none⟩ Tryz.underlying330 Tryz.underlying301 hj hsh (by kernel_rfl)];simp only[Result.andThen];rw[Oper.upon_value];go_wp2;go_end0;exact⟨rfl,rfl⟩
def PG(o:Obj):Prop:=∀cs fr,o≠ .cells cs 5 fr
def KB(b:Nat)(w w':World):Prop:=∀x o,w.heap[x]?=some o->x≠b->PG o->w'.heap[x]?=some o
theorem KB.refl(b:Nat)(w:World):KB b w w:=fun _ _ h _ _=>h
theorem KB.trans{b:Nat}{w w1 w2:World}(h:KB b w w1)(k:KB b w1 w2):KB b w w2:=fun x o h1 h2 h3=>k x o (h x o h1 h2 h3) h2 h3
theorem KB.setCell(b i:Nat)(v:Value)(w:World):KB b w (w.setCell ⟨b,i,none⟩ v):=fun x o h1 h2 _=>by rw[heap_setCell_other _ _ _ _ h2];exact h1
theorem KB.grown{b base n:Nat}{w w':World}{v:Value}{xs:List Value}(ho:w.ownsRow base 5 1 v n xs)(h:w.grownBy w' v.ownBlock):KB b w w':=fun x o h1 _ h3=>by
 refine(h.block x (ay h1) (fun e=>?_)).trans h1;rcases ho.2 with⟨rfl,_⟩|⟨g,cap,cur,rfl,_,hg,_⟩
 ·simp[Value.ownBlock] at e
 ·simp only[Value.ownBlock,Option.some.injEq] at e
  subst e;rw[hg] at h1;exact h3 _ _ (zSi h1).symm
theorem rN(B b:Nat)(bs:List Value)(w:World)(h:Lib.IsBuilder 303 5 B b bs w):
  Calls Tryz.prog 232 #[.pointer (some ⟨b,0,none⟩)] w fun e w'=>e=.returned (.tuple #[])/\Lib.BuilderAt 303 5 B b (.pointer (some ⟨b,0,none⟩)) bs w'/\Below B w w'/\KB b w w':=by
 rcases h with h|h
 ·refine(ye b w h.cell0 h.shape h.frozen0).mono ?_
  rintro e w' ⟨rfl,rfl⟩;exact⟨rfl,h.used _,(Below.refl B w).setCell (p:=⟨b,0,none⟩) h.1 _,KB.setCell b 0 _ _⟩
 ·refine(zJ b w h.cell0).mono ?_
  rintro e w' ⟨rfl,rfl⟩;exact⟨rfl,h,Below.refl B _,KB.refl _ _⟩
def fI(B b n:Nat)(w:World):Prop:=∃l:List UInt8,l.length=n/\Lib.IsBuilder 303 5 B b (Lib.byteCells l) w
theorem CO:(Tryz.prog.info? 5).map (fun i=>(i.zero,i.size,i.bytes))=some (some (.int .u8 0),1,1):=by kernel_rfl
theorem dm(B b n:Nat)(s:ByteArray)(w:World)(h:fI B b n w)(hlen:n+s.size<=140737488355328)(hBw:B<=w.heap.size):
  Calls Tryz.prog 206 #[.pointer (some ⟨b,0,none⟩),.string s] w fun e w'=>e=.returned (.tuple #[.int .i64 s.size,.nilIface])/\fI B b (n+s.size) w'/\Below B w w'/\KB b w w':=by
 obtain⟨l,hl,h⟩:=h;have hbl:=Lib.byteCells_length l;have HL:=hid hl;have Vo:(Lib.byteCells l).length+s.size<=140737488355328:=by omega
 clear hbl hl hlen;obtain⟨i0,hi,hz0,hz1,hz2⟩:=info_parts CO;have HC:=hid (rN B b _ w h);go_enter Tryz.func206,Tryz.ntmps206;go_wp2_with fail;refine HC.out.mono ?_;rintro e w1 ⟨rfl,h1,hb1,hk1⟩;obtain⟨hB,v,hbk,hown,hne⟩:=h1;have c0:w1.cell? ⟨b,0,none⟩=some (.pointer (some ⟨b,0,none⟩)):=by rw[Lib.cell_of_heap hbk];rfl
 have c1:w1.cell? ⟨b,1,none⟩=some v:=by rw[Lib.cell_of_heap hbk];rfl
 go_wp2_with (at_builtin;refine Lib.wpList_append_own_string _ rfl _ _ 206 9 rfl B 5 i0 Tryz.underlying206 Tryz.underlying9 hi hz0 hz1 hz2 _ _ _ rfl hown s rfl ?c3 ?c4 ?c5 ?_);case c3=>unfold maxLen;omega
 case c4=>omega
 case c5=>have:=hb1.size;omega
 intro v' w2 hown' hgrow _;have hlt:b<w1.heap.size:=ay hbk
 have hb2:w2.heap[b]?=some (.cells #[.pointer (some ⟨b,0,none⟩),v] 303 (0,0)):=by
  rw[hgrow.block b hlt (fun e=>hne e.symm)];exact hbk
 have d0:w2.cell? ⟨b,0,none⟩=some (.pointer (some ⟨b,0,none⟩)):=by rw[Lib.cell_of_heap hb2];rfl
 have d1:w2.cell? ⟨b,1,none⟩=some v:=by rw[Lib.cell_of_heap hb2];rfl
 have f1:w2.frozen? ⟨b,1,none⟩=false:=Lib.frozen_of_heap hb2 1
 obtain⟨ao,n',cap,rfl⟩:∃ao n' cap,v'=.slice ao n' cap:=by
  rcases hown'.2 with⟨hv,_⟩|⟨g,cap,cur,hv,_⟩
  ·exact⟨_,_,_,hv⟩
  ·exact⟨_,_,_,hv⟩
 go_wp2;go_ret2;refine⟨rfl,⟨l++s.data.toList,by rw[zLa,HL.out];rfl,.inr ?_⟩,?_,?_⟩
 ·rw[Lib.byteCells_append,<-Lib.strCells_eq]
  exact Lib.BuilderAt.put (T:=303) (e:=5) hB hb2 (bs':=Lib.byteCells l++Lib.strCells s) (by simpa [Lib.strCells_length] using hown') (by decide)
 ·exact(hb1.grown hgrow (by have:=hb1.size;omega) (fun k hk=>(hown.lt k hk).1)).setCell (p:=⟨b,1,none⟩) hB _
 ·exact(hk1.trans (KB.grown hown hgrow)).trans (KB.setCell b 1 _ _)
theorem Bs(B b n:Nat)(c:UInt8)(w:World)(h:fI B b n w)(hlen:n+1<=140737488355328)(hBw:B<=w.heap.size):
  Calls Tryz.prog 233 #[.pointer (some ⟨b,0,none⟩),.int .u8 (c.toNat:Int)] w fun e w'=>e=.returned .nilIface/\fI B b (n+1) w'/\Below B w w':=by
 obtain⟨l,hl,h⟩:=h;have hbl:=Lib.byteCells_length l;have HL:=hid hl;have Vo:(Lib.byteCells l).length+1<=140737488355328:=by omega
 clear hbl hl hlen;obtain⟨i0,hi,hz0,hz1,hz2⟩:=info_parts CO;have HC:=hid (rN B b _ w h);have ZY:Hid (Lib.byteCells (l++[c])=Lib.byteCells l++[.int .u8 (c.toNat:Int)]):=hid (by rw[Lib.byteCells_append];rfl);generalize (c.toNat:Int)=ci at*;go_enter Tryz.func233,Tryz.ntmps233;go_wp2_with fail;refine HC.out.mono ?_;rintro e w1 ⟨rfl,h1,hb1, -⟩;obtain⟨hB,v,hbk,hown,hne⟩:=h1;have c0:w1.cell? ⟨b,0,none⟩=some (.pointer (some ⟨b,0,none⟩)):=by rw[Lib.cell_of_heap hbk];rfl
 have c1:w1.cell? ⟨b,1,none⟩=some v:=by rw[Lib.cell_of_heap hbk];rfl
 go_wp2_with (at_builtin;refine wpList_append_own _ rfl _ _ 206 rfl B 5 i0 (.int .u8 0) 1 1 Tryz.underlying206 hi hz0 hz1 hz2 rfl (by decide) _ _ _ rfl (hown.alloc _) ⟨w1.heap.size,0,none⟩ 1 1 [.int .u8 ci] rfl rfl ?c1 ?c2 ?c3 ?c4 ?c5 ?_)
 case c1=>
  intro j u hj;match j,hj with
  |0,hj=>simp at hj;subst hj;simp[Addr.add]
 case c2=>intro u hu;simp at hu;subst hu;rfl
 case c3=>unfold maxLen;omega
 case c4=>omega
 case c5=>have:=hb1.size;simp;omega
 intro v' w2 hown' hgrow _;have hlt:b<w1.heap.size:=ay hbk
 have hb2:w2.heap[b]?=some (.cells #[.pointer (some ⟨b,0,none⟩),v] 303 (0,0)):=by
  rw[hgrow.block b (by simp;omega) (fun e=>hne e.symm),Lib.alloc_old w1 _ b hlt];exact hbk
 have d0:w2.cell? ⟨b,0,none⟩=some (.pointer (some ⟨b,0,none⟩)):=by rw[Lib.cell_of_heap hb2];rfl
 have d1:w2.cell? ⟨b,1,none⟩=some v:=by rw[Lib.cell_of_heap hb2];rfl
 have f1:w2.frozen? ⟨b,1,none⟩=false:=Lib.frozen_of_heap hb2 1
 obtain⟨g,cap,rfl⟩:∃g cap,v'=.slice (some ⟨g,0,none⟩) ((Lib.byteCells l).length+1) cap:=by
  rcases hown'.2 with⟨_,h0⟩|⟨g,cap,cur,hv,_⟩
  ·omega
  ·exact⟨g,cap,hv⟩
 go_wp2;go_ret;refine⟨rfl,⟨l++[c],by rw[zLa,HL.out];rfl,.inr ?_⟩,?_⟩
 ·rw[ZY.out]
  exact Lib.BuilderAt.put (T:=303) (e:=5) hB hb2 (bs':=Lib.byteCells l++[.int .u8 ci]) (by simpa using hown') (by decide)
 ·exact((hb1.alloc (by have:=hb1.size;omega) _).grown hgrow (by have:=hb1.size;simp;omega) (fun k hk=>(hown.lt k hk).1)).setCell (p:=⟨b,1,none⟩) hB _
theorem zK(B b n:Nat)(w:World)(h:fI B b n w)(hBw:B<=w.heap.size):
  Calls Tryz.prog 210 #[.pointer (some ⟨b,0,none⟩)] w fun e w'=>∃s:ByteArray,e=.returned (.string s)/\s.size=n/\Below B w w':=by
 obtain⟨l,hl,h⟩:=h;exact(Tryz.Builder_String_any B b l w h hBw).mono fun e w' ⟨h1,h2⟩=>⟨⟨l.toArray⟩,h1,by show l.toArray.size=n;simpa using hl,h2⟩
def Ie:List ByteArray:=[⟨#[107,101,121]⟩,⟨#[114,101,102]⟩,⟨#[110,117,109]⟩,⟨#[112,105,99,107]⟩,⟨#[100,97,121]⟩,⟨#[115,116,101,112]⟩,⟨#[115,117,109]⟩,⟨#[115,104,97,114,101]⟩,⟨#[99,111,112,121]⟩]
structure LaidW(w:World):Prop where
 pow:Lib.TabIs Tryz.prog w "internal/strconv.uint64pow10" .u64 Lib.pow10Tab
 agb:∀k (_:k<9),w.cell? ⟨1,k,none⟩=some (.string (Ie.getD k ah.nil))
 size:5<=w.heap.size
theorem Vw:Tryz.prog.globalNamed "internal/strconv.uint64pow10" =some 2:=by kernel_rfl
theorem LaidW.below{B:Nat}{w w':World}(h:LaidW w)(hb:Below B w w')(hB:5<=B):LaidW w' where
 pow:=var?_below hb Vw (by omega) h.pow
 agb k hk:=(hb.cell (p:=⟨1,k,none⟩) (show 1<B by omega)).trans (h.agb k hk)
 size:=Nat.le_trans h.size hb.size
theorem LaidW.next{w w':World}(h:LaidW w)(hb:BL w w'):LaidW w':=h.below hb h.size
theorem DM:∀(f n:Nat),n<10 ^ f->ah.yT f n=Lib.nDigits n
 |0,n,h=>by
  have:n=0:=by simpa using h
  subst this;rw[Lib.nDigits_small (by omega)];rfl
 |f+1,n,h=>by
  unfold ah.yT;split
  ·rename_i h1;rw[Lib.nDigits_small h1]
  ·rename_i h1
   rw[Lib.nDigits_big h1,DM f (n / 10) (by rw[Nat.pow_succ] at h;omega)];omega
theorem Fc(w:World)(k:Nat)(os:Array Obj):BL w (Go.Sort.grow (w.drewN k) os):=
 ⟨rfl,rfl,rfl,by simp[Go.Sort.grow],fun b hb=>Go.Sort.heap_grow_old (w.drewN k) os hb⟩
theorem PI(n:Int)(h0: -1000000000000<=n)(h1:n<=1000000000000)(w:World)(hl:LaidW w):
  Calls Tryz.prog 234 #[.int .i64 n] w fun e w'=>∃s:ByteArray,e=.returned (.string s)/\s.size=ah.cZ n/\BL w w':=by
 refine(Tryz.strconv_Itoa n (by omega) (by omega) w hl.pow).mono ?_;rintro e w' ⟨rfl,k,os,rfl⟩;refine⟨_,rfl,?_,Fc w k os⟩;show (Lib.itoa n).toArray.size=_
 rw[List.size_toArray];unfold Lib.itoa ah.cZ;split
 ·rw[List.length_cons,Lib.decDigits_length,DM 40 _ (by omega)];omega
 ·rw[Lib.decDigits_length,DM 40 _ (by omega)]
  have:n.natAbs=n.toNat:=by omega
  rw[this];omega
inductive Arg
 |num (n:Int)
 |str (s:ByteArray)
def jL(a:Arg):Value:=match a with
 | .num n=>.iface 3 (.int .i64 n)
 | .str s=>.iface 9 (.string s)
def argN:Arg->Nat
 | .num n=>1+ah.cZ n
 | .str s=>1+s.size
def fN:Arg->Prop
 | .num n=> -1000000000000<=n/\n<=1000000000000
 | .str _=>True
abbrev xq(S:Nat->Prop):=eX (fun _ u (x:Arg)=>u=jL x) S
theorem xq.keep{S w w' v xs}(h:xq S w v xs)(hk:aA S w w'):xq S w' v xs:=eX.keep h hk fun _ _ h=>h
theorem Lz{α:Type}(g:α->Nat)(l:List α)(x:α):ah.bn g (l++[x])=ah.bn g l+g x:=by
 unfold ah.bn;rw[List.foldl_append];rfl
theorem lH{α:Type}(g:α->Nat)(l:List α){k:Nat}(h:k<l.length):ah.bn g (l.take (k+1))=ah.bn g (l.take k)+g l[k]:=by
 rw[zTs h,Lz]
theorem qM{α:Type}(g:α->Nat):∀(l:List α) (a:Nat),l.foldl (fun n x=>n+g x) a=a+l.foldl (fun n x=>n+g x) 0
 |[],_=>rfl
 |x::l,a=>by
  simp only[List.foldl_cons];rw[qM g l (a+g x),qM g l (0+g x)];omega
theorem cB{α:Type}(g:α->Nat)(x:α)(l:List α):ah.bn g (x::l)=g x+ah.bn g l:=by
 unfold ah.bn;rw[List.foldl_cons,qM];omega
theorem iK{α:Type}(g:α->Nat)(l:List α)(k:Nat):ah.bn g (l.take k)<=ah.bn g l:=by
 have h:ah.bn g l=ah.bn g (l.take k)+ah.bn g (l.drop k):=by
  unfold ah.bn;conv=>lhs;rw[<-List.take_append_drop k l]
  rw[List.foldl_append,qM]
 omega
theorem oO{T e:TypeId}{B b:Nat}{p:Value}{bs:List Value}{w w':World}(h:Lib.BuilderAt T e B b p bs w)(hb:BL w w'):Lib.BuilderAt T e B b p bs w':=by
 obtain⟨h1,v,h2,h3,h4⟩:=h;exact⟨h1,v,(hb.block _ (ay h2)).trans h2,cC (S:=fun _=>True) h3 (fun _ _=>trivial) (aA.below hb),h4⟩
theorem fI.below{B b n:Nat}{w w':World}(h:fI B b n w)(hb:BL w w'):fI B b n w':=by
 obtain⟨l,h1,h2⟩:=h;exact⟨l,h1,h2.imp (fun h=>oO h hb) (fun h=>oO h hb)⟩
theorem Ig(n:Int)(w:World):(Instr.typeAssert (.iface 3 (.int .i64 n)) 20 3 true).run Tryz.prog w=.ok (.tuple #[.int .i64 n,.bool true]) w:=by kernel_rfl
theorem Ih(s:ByteArray)(w:World):(Instr.typeAssert (.iface 9 (.string s)) 20 3 true).run Tryz.prog w=.ok (.tuple #[.int .i64 0,.bool false]) w:=by kernel_rfl
theorem Ii(s:ByteArray)(w:World):(Instr.typeAssert (.iface 9 (.string s)) 20 9 true).run Tryz.prog w=.ok (.tuple #[.string s,.bool true]) w:=by kernel_rfl
theorem zL(word:ByteArray)(l:List Arg)(hok:∀a∈l,fN a)(hlen:word.size+ah.bn argN l<=1000000000)(v:Value)(S:Nat->Prop)(w:World)(hv:xq S w v l)(hw:LaidW w):
  Calls Tryz.prog 207 #[.string word,v] w fun e w'=>∃s:ByteArray,e=.returned (.string s)/\s.size=word.size+ah.bn argN l+1/\BL w w':=by
 obtain⟨a,cap,rfl,hsl,hcap,hmax⟩:=hv.form;have HV:=hid hv;have HO:=hid hok;have HN:=hid hlen;have HL:=hid hw;clear hv hok hlen hw;obtain⟨w1,hw1⟩:=nmE (w.alloc (.cells #[.pointer none,.slice none 0 0] 303));have aW:Hid (Below w.heap.size w w1):=hid (by rw[hw1];exact aj.alloc aB _);have HD1:Hid (fI w.heap.size w.heap.size 0 w1):=hid (by rw[hw1];exact⟨[],rfl,Lib.fresh_isBuilder _ _ w⟩);have HW:=hid hw1;clear hw1;go_enter Tryz.func207,Tryz.ntmps207;go_upto_region 2 with fail;rw[<-HW.out];go_wp2_with fail;refine(dm w.heap.size w.heap.size 0 word w1 HD1.out (by have:=HN.out;omega) aW.out.size).mono ?_;rintro e w2 ⟨rfl,hd2,hb2, -⟩;have Rt:Hid (fI w.heap.size w.heap.size (word.size+ah.bn argN (l.take 0)) w2):=hid (by simpa [ah.bn] using hd2);have bB:Hid (BL w w2):=hid (aW.out.trans hb2);clear hd2 hb2;go_upto_region 4 with fail;go_loopw [14] (fun i wr=>∃k:Nat,k<=l.length/\i=.int .i64 (k:Int)/\Hid (fI w.heap.size w.heap.size (word.size+ah.bn argN (l.take k)) wr)/\Hid (BL w wr)) (fun i _=>l.length-(intOf i).toNat);case atStart=>exact⟨0,by omega,rfl,Rt,bB⟩
 case round=>
  obtain⟨k,hk,rfl,HD,HB⟩:=hrel;obtain⟨wo,rfl⟩:=nmE (wr:World);by_cases hlt:k<l.length
  ·have hk0:(0:Int)<=(k:Int):=by omega
   have hk1:(k:Int)<(l.length:Int):=by omega
   obtain⟨x,hx, -,hx2⟩:=(xq.keep HV.out (aA.below HB.out)).at hlt;subst hx2;have HO1:=hid (HO.out _ (zGm hlt));have hsum:=lH argN l hlt;have hle:=iK argN l (k+1);have HM:Hid (word.size+ah.bn argN (l.take k)+argN l[k]=word.size+ah.bn argN (l.take (k+1))/\word.size+ah.bn argN (l.take (k+1))<=1000000000):=hid (by have:=HN.out;omega);clear hsum hle;generalize l[k]=z at*;obtain⟨n0,hn0⟩:=nmE (word.size+ah.bn argN (l.take k));rw[<-hn0] at HD HM;clear hn0;have HWB:=hid (Bs w.heap.size w.heap.size n0 32 wo HD.out (by have:=HM.out;omega) HB.out.size);cases z with
   |num n=>
    have hb:=HO1.out
    simp only[fN] at hb
    simp only[argN] at HM
    simp only[jL] at hx
    have ta:=Ig n
    go_wp2_with fail
    refine HWB.out.mono ?_
    rintro e w3 ⟨rfl,hd3,hb3⟩
    have bG:Hid (BL w w3):=hid (HB.out.trans hb3)
    have Tj:=hid hd3
    clear hd3 hb3
    have HI:=hid (PI n (by omega) (by omega) w3 (HL.out.next bG.out))
    go_wp2_with fail
    refine HI.out.mono ?_
    rintro e w4 ⟨s,rfl,hs,hb4⟩
    have dO:=bq bG hb4
    have Ru:Hid (fI w.heap.size w.heap.size (n0+1) w4):=hid (Tj.out.below hb4)
    have HS:=hid hs
    clear hs hb4
    go_wp2_with fail
    refine(dm w.heap.size w.heap.size (n0+1) s w4 Ru.out (by have:=HM.out;have:=HS.out;omega) dO.out.size).mono ?_
    rintro e w5 ⟨rfl,hd5,gL, -⟩
    have dP:Hid (BL w w5):=hid (dO.out.trans gL)
    have Ij:Hid (fI w.heap.size w.heap.size (word.size+ah.bn argN (l.take (k+1))) w5):=hid (by
     have h1:=HM.out
     have h2:=HS.out
     rw[<-h1.1,<-h2]
     have:n0+(1+s.size)=n0+1+s.size:=by omega
     rw[this];exact hd5)
    clear hd5 gL
    go_wp2
    go_roundw
    case rel=>exact⟨k+1,by omega,by go_num,Ij,dP⟩
    simp[intOf];omega
   |str s=>
    simp only[argN] at HM
    simp only[jL] at hx
    have ta:=Ih s
    have tb:=Ii s
    go_wp2_with fail
    refine HWB.out.mono ?_
    rintro e w3 ⟨rfl,hd3,hb3⟩
    have bG:Hid (BL w w3):=hid (HB.out.trans hb3)
    have Tj:=hid hd3
    clear hd3 hb3
    go_wp2_with fail
    refine(dm w.heap.size w.heap.size (n0+1) s w3 Tj.out (by have:=HM.out;omega) bG.out.size).mono ?_
    rintro e w5 ⟨rfl,hd5,gL, -⟩
    have dP:Hid (BL w w5):=hid (bG.out.trans gL)
    have Ij:Hid (fI w.heap.size w.heap.size (word.size+ah.bn argN (l.take (k+1))) w5):=hid (by
     have h1:=HM.out
     rw[<-h1.1]
     have:n0+(1+s.size)=n0+1+s.size:=by omega
     rw[this];exact hd5)
    clear hd5 gL
    go_wp2
    go_roundw
    case rel=>exact⟨k+1,by omega,by go_num,Ij,dP⟩
    simp[intOf];omega
  ·have hkk:k=l.length:=by omega
   subst hkk;have Tj:Hid (fI w.heap.size w.heap.size (word.size+ah.bn argN l) wo):=hid (by have:=HD.out;rwa [List.take_length] at this);have yJ:=hid (zK w.heap.size w.heap.size _ wo Tj.out HB.out.size);go_wp2_with fail;refine yJ.out.mono ?_;rintro e w3 ⟨s,rfl,hs,hb3⟩;have HS:=hid hs;have bG:=hid (HB.out.trans hb3);have hs1:s.size<=1000000000:=by have:=HN.out;omega
   clear hs hb3;go_wp2;go_ret;refine⟨_,rfl,?_,bG.out⟩;rw[<-HS.out];exact ByteArray.size_append
def dash:ByteArray:=⟨#[45]⟩
def gI(s:ByteArray):ByteArray:=if s=ah.nil then dash else s
theorem kH(s:ByteArray):(gI s).size=ah.dR s:=by
 unfold gI ah.dR;split<;>rfl
theorem XU(s:ByteArray)(g:Nat)(w:World)(h0:w.cell? ⟨g,0,none⟩=some (.string s))(h1:w.cell? ⟨g,1,none⟩=some (.string {data:=#[45]})):
  Calls Tryz.prog 235 #[.slice (some ⟨g,0,none⟩) 2 2] w fun e w'=>e=.returned (.string (gI s))/\w=w':=by
 go_enter Tryz.func235,Tryz.ntmps235;go_upto_region 3 with fail;go_loopw [8] (fun i wr=>∃k:Nat,k<=1/\i=.int .i64 (k:Int)/\Hid (k=1->s=ah.nil)/\w=wr) (fun i _=>2-(intOf i).toNat);case atStart=>exact⟨0,by omega,rfl,hid fun h=>absurd h (by omega),rfl⟩
 case round=>
  obtain⟨k,hk,rfl,HK,rfl⟩:=hrel;have hk2:k=0\/k=1:=by omega
  rcases hk2 with rfl|rfl
  ·by_cases hs:s=ah.nil
   ·subst hs
    unfold ah.nil at*;go_wp2;go_roundw;case rel=>exact⟨1,by omega,by first|trivial|rfl,by first|exact hid trivial|exact hid (fun _=>trivial)|exact hid (fun _=>rfl),by first|trivial|rfl⟩
    simp[intOf]
   ·have he:=qi hs
    have HE:Hid (gI s=s):=hid (if_neg hs);go_wp2;go_ret;exact⟨by rw[HE.out];rfl,rfl⟩
  ·have hs:=HK.out rfl
   have HE:Hid (gI s={data:=#[45]}):=hid (if_pos hs);clear hs;go_wp2;go_ret;exact⟨by rw[HE.out];rfl,rfl⟩
theorem nI(s:ByteArray)(w:World):Calls Tryz.prog 209 #[.string s] w fun e w'=>e=.returned (.string (gI s))/\BL w w':=by
 have HO:=hid (XU s w.heap.size (w.alloc (.cells #[.string s,.string {data:=#[45]}] 9)) (by simp) (by simp));go_enter Tryz.func209,Tryz.ntmps209;go_wp2_with fail;refine HO.out.mono ?_;rintro e w' ⟨rfl,rfl⟩;go_wp2;go_ret;exact⟨rfl,aj.alloc aB _⟩
theorem adA(W:World)(l:List Arg)(hl:l.length<=1000)(T:TypeId):xq (fun _=>True) (W.alloc (.cells (l.map jL).toArray T)) (.slice (some ⟨W.heap.size,0,none⟩) l.length l.length) l:=by
 refine⟨some ⟨W.heap.size,0,none⟩,l.length,rfl,fun _=>⟨_,_,rfl⟩,aB,by unfold maxLen;omega,fun _=>trivial,fun j hj=>⟨jL l[j],?_,rfl⟩⟩;have e:(⟨aY (some ⟨W.heap.size,0,none⟩),bC (some ⟨W.heap.size,0,none⟩)+j,none⟩:Addr)=⟨W.heap.size,j,none⟩:=by simp[aY,bC]
 rw[e,aI (aD W _ rfl)];simp[zEg hj]
section
variable {P:Program} {ops:Array Oper} {md:Region.Mode}
def tT:Op->Bool
 | .move _| .assign _| .pick .. | .load .. | .binOp .. | .unOp .. | .build .. | .fieldAddr .. | .field .. | .indexAddr .. | .index .. | .slice .. | .extract .. | .convert .. | .makeFunc .. | .makeInterface .. =>true
 | .call {callee:=.builtin .len, .. }| .call {callee:=.builtin .cap, .. }| .call {callee:=.builtin .min, .. }| .call {callee:=.builtin .max, .. }=>true
 |_=>false
theorem vF{o:Oper}(h:tT o.op=true){ρ:Operand->Value}{w w':World}{nx:Next}(hn:∀v,nx≠ .value v):(execOp ρ o).run P w≠ .ok nx w':=by
 unfold execOp;generalize o.op=op at*;unfold tT at h;split at h
 all_goals first
  |exact lE hn
  |exact rT hn
  |(intro e;cases e;exact hn _ rfl)
  |(simp only[resolve,invoke,builtin];exact lE hn)
  |(exact absurd h (by simp))
def Region.jG(md:Region.Mode)(ops:Array Oper)(n:Nat):Nat->iM->Array Bool->Bool
 |0,.done,listed=>Region.seqB md ops (ops.size-n) n listed
 |f+1,.one c s,listed=>decide (Region.ready md ops listed=[c])&&decide (c<n)&&Region.jG md ops n f s (listed.setIfInBounds c true)
 |f+1,.two c d s t,listed=>decide (Region.ready md ops listed=[c,d])&&decide (c<n)&&decide (d<n)&&Region.jG md ops n f s (listed.setIfInBounds c true)&&Region.jG md ops n f t (listed.setIfInBounds d true)
 |f+1,.three c d e s t u,listed=>decide (Region.ready md ops listed=[c,d,e])&&decide (c<n)&&decide (d<n)&&decide (e<n)&&Region.jG md ops n f s (listed.setIfInBounds c true)&&Region.jG md ops n f t (listed.setIfInBounds d true)&&Region.jG md ops n f u (listed.setIfInBounds e true)
 |f+1,.quiet q s,listed=>(Region.ready md ops listed).contains q&&Region.free md ops listed q&&decide (q<n)&&((ops[q]?).map (fun o=>tT o.op)).getD false&&Region.jG md ops n f s (listed.setIfInBounds q true)
 |_,_,_=>false
def Region.agh(md:Region.Mode)(ops:Array Oper)(n:Nat)(s:iM):Bool:=
 Region.noSelect ops&&decide (n<ops.size)&&Region.sinkB md ops n&&Region.chainB md ops n&&Region.jG md ops n n s (Array.replicate ops.size false)
theorem eG{n:Nat}{Lq:Act->World->Prop}(hsel:Region.noSelect ops=true)(hs:Region.sinkB md ops n=true)(hc:Region.chainB md ops n=true)(hn:n<ops.size):
  ∀(f:Nat) (s:iM) (φ:World->Prop) (listed:Array Bool) (a:Act) (w:World),φ w->HeadInv md ops n listed->Region.jG md ops n f s listed=true->bJ P ops Lq ops.toList s φ a w->
  jv P md ops (dQ φ) n (fun listed' a' w'=>Region.seqB md ops (ops.size-n) n listed'=true/\Lq a' w') f listed a w
 |0,.done,φ,listed,a,w,hC,inv,hB,h=>by
  simp only[Region.jG] at hB;exact⟨hB,h⟩
 |f+1,.quiet k s,φ,listed,a,w,hC,inv,hB,h=>by
  simp only[Region.jG,zBa,zDt] at hB;obtain⟨⟨⟨⟨hr,hf⟩,hkn⟩,hq⟩,hB⟩:=hB;have hks:k<ops.size:=by omega
  obtain⟨o,h0⟩:∃o,ops[k]?=some o:=⟨ops[k],by simp[hks]⟩;have h0':ops.toList[k]?=some o:=by simpa using h0
  simp only[bJ,h0'] at h;have h:=h ⟨⟨w,hC⟩⟩;have F9:dQ φ w:=⟨⟨w,hC⟩,rfl⟩;have MW:tT o.op=true:=by rw[h0] at hq;simpa using hq
  unfold wpQuiet at h;split at h
  ·rename_i hw
   obtain⟨v,h1,h2⟩:=h
   have hy:fF P ops (dQ φ) o v a:=.inl ⟨hw,fun w1 Ws=>by
    have g:=h1 w1 Ws;unfold Oper.quietAt at g;generalize hr1:(execOp a.eval o).run P w1=r at g ⊢;cases r with
    |ok nx w2=>
     cases nx with
     |value u=>obtain⟨e1,e2⟩:=g;rw[e1,e2]
     |_=>exact absurd hr1 (vF MW (by intro v;simp))
    |halt x w2=>exact g.elim⟩
   exact gm h0 hsel hs hc hn hkn (fun listed' a' w' hL=>mw hL.1 aB) F9 inv hf hr hy
    (eG hsel hs hc hn f s φ _ _ w hC (inv.set (by simpa using hr) hkn) hB h2)
  ·rename_i hw
   exact gm h0 hsel hs hc hn hkn (fun listed' a' w' hL=>mw hL.1 aB) F9 inv hf hr (.inr ⟨by simpa using hw,rfl⟩)
    (eG hsel hs hc hn f s φ _ _ w hC (inv.set (by simpa using hr) hkn) hB h)
 |f+1,.one k s,φ,listed,a,w,hC,inv,hB,h=>by
  simp only[Region.jG,zBa,zDt] at hB;obtain⟨⟨hr,hkn⟩,hB⟩:=hB;simp only[bJ] at h;refine⟨by rw[hr];simp,fun i hi=>?_⟩;rw[hr] at hi;obtain rfl:i=k:=by simpa using hi
  exact⟨hkn,dL h fun φ' a' w' hw' h3=>eG hsel hs hc hn f s φ' _ a' w' hw' (inv.set (by rw[hr];simp) hkn) hB h3⟩
 |f+1,.two k j s t,φ,listed,a,w,hC,inv,hB,h=>by
  simp only[Region.jG,zBa,zDt] at hB;obtain⟨⟨⟨⟨hr,hkn⟩,hjn⟩,NG⟩,Dw⟩:=hB;simp only[bJ] at h;refine⟨by rw[hr];simp,fun i hi=>?_⟩;rw[hr] at hi;by_cases e:i=k
  ·subst e
   exact⟨hkn,dL h.1 fun φ' a' w' hw' h3=>eG hsel hs hc hn f s φ' _ a' w' hw' (inv.set (by rw[hr];simp) hkn) NG h3⟩
  ·obtain rfl:i=j:=by simpa [e] using hi
   exact⟨hjn,dL h.2 fun φ' a' w' hw' h3=>eG hsel hs hc hn f t φ' _ a' w' hw' (inv.set (by rw[hr];simp) hjn) Dw h3⟩
 |f+1,.three k j m s t u,φ,listed,a,w,hC,inv,hB,h=>by
  simp only[Region.jG,zBa,zDt] at hB;obtain⟨⟨⟨⟨⟨⟨hr,hkn⟩,hjn⟩,hmn⟩,NG⟩,Dw⟩,hB3⟩:=hB;simp only[bJ] at h;refine⟨by rw[hr];simp,fun i hi=>?_⟩;rw[hr] at hi;by_cases e:i=k
  ·subst e
   exact⟨hkn,dL h.1 fun φ' a' w' hw' h3=>eG hsel hs hc hn f s φ' _ a' w' hw' (inv.set (by rw[hr];simp) hkn) NG h3⟩
  ·by_cases e':i=j
   ·subst e'
    exact⟨hjn,dL h.2.1 fun φ' a' w' hw' h3=>eG hsel hs hc hn f t φ' _ a' w' hw' (inv.set (by rw[hr];simp) hjn) Dw h3⟩
   ·obtain rfl:i=m:=by simpa [e,e'] using hi
    exact⟨hmn,dL h.2.2 fun φ' a' w' hw' h3=>eG hsel hs hc hn f u φ' _ a' w' hw' (inv.set (by rw[hr];simp) hmn) hB3 h3⟩
 |0,.quiet ..,_,_,_,_,_,_,hB,_=>by simp[Region.jG] at hB
 |0,.one ..,_,_,_,_,_,_,hB,_=>by simp[Region.jG] at hB
 |0,.two ..,_,_,_,_,_,_,hB,_=>by simp[Region.jG] at hB
 |0,.three ..,_,_,_,_,_,_,hB,_=>by simp[Region.jG] at hB
 |_+1,.done,_,_,_,_,_,_,hB,_=>by simp[Region.jG] at hB
theorem cH{id:Nat}{Q:Exit->Act->World->Prop}{a:Act}{w:World}{l:List Oper}(n:Nat)(s:iM)(φ:World->Prop)(hm:P.follows .mixedOrders=true)(hB:Region.agh .any l.toArray n s=true)(hC:φ (w.drewN 1))
  (h:bJ P l.toArray (fun a' w'=>wpList P l.toArray Q (l.drop n) a' w') l s φ a (w.drewN 1)):(Code.region id l.toArray true).wp P Q a w:=by
 simp only[Region.agh,zBa,zDt] at hB;obtain⟨⟨⟨⟨hsel,hn⟩,hs⟩,hc⟩,hlex⟩:=hB
 have inv0:HeadInv .any l.toArray n (Array.replicate l.toArray.size false):=
  ⟨by simp,fun j oj _ hl=>(by rw[getD_replicate_false] at hl;cases hl),fun t _ ht=>getD_in (by simpa using ht) (getD_replicate_false _ _)⟩
 have H:=eG (md:=.any) (Lq:=fun a' w'=>wpList P l.toArray Q (l.drop n) a' w') hsel hs hc hn n s φ _ a _ hC inv0 hlex (by simpa using h);refine wp_region_any hm ?_;have hdl:(l.drop n).length=l.toArray.size-n:=by simp
 have:=fU (Q':=Q) (g:=l.toArray.size-n) (fun listed a' w' hL=>by
  have:=wpAny_of_seq (md:=.any) (Q':=Q) (l.drop n) n listed a' w' (fun j=>by simp[List.getElem?_drop]) (by rw[hdl];exact hL.1) hL.2;rwa [hdl] at this) _ _ _ _ H
 rw[show n+(l.toArray.size-n)=l.toArray.size by omega] at this;exact this
end
end Go.Proofs.YtobgljfnfpolkaaGreatDoor
