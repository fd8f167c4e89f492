/- Part 15 of the walks and plain laws that the proof needs (packed). -/
import Derived.Laws.BytesString
import Derived.Test.YtohddpbgflgiaaaGreatDoorQ1
import Derived.Test.YtohddpbgflgiaaaGreatDoorQ4
import Derived.Test.YtohddpbgflgiaaaGreatDoorQ6
import Derived.Test.YtohddpbgflgiaaaGreatDoorQ7
import Derived.Test.YtohddpbgflgiaaaGreatDoorQ10
import Derived.Test.YtohddpbgflgiaaaGreatDoorQ11
import Derived.Test.YtohddpbgflgiaaaGreatDoorQ12
import Derived.Test.YtohddpbgflgiaaaGreatDoorQ13
import Derived.Test.YtohddpbgflgiaaaGreatDoorQ14
set_option linter.all false
set_option maxRecDepth 100000
set_option maxHeartbeats 8000000
open Go.Proofs.Tryz
variable{p:Prop}
namespace Go.Proofs.YtohddpbgflgiaaaGreatDoor
open Go.RowKit
attribute [local go_sem] Oper.semAt_some
theorem Mw(S:List Cz.Row)(hS:∀r∈S,r.length<=1000)(bu:S.length<=1000):∀(T:List Cz.Row) (k:Nat) (before:List (List Nat)) (j P bk bS bb p:Nat) (uv bv:Value) (PB:Nat->Prop) (Q:Nat->Obj->Prop) (w:World),T=S.drop k->k<=S.length->before.length<=k->j<=w.heap.size->
  Eo S k before j bk bS bb p uv bv PB w->(∀b,PB b->b<w.heap.size/\∀o,w.heap[b]?=some o->¬(Q b o\/cD P b o))->
  GZ (α:=Value×List (List Nat)) prog j P 68 #[.pointer (some ⟨bk,0,none⟩),.pointer (some ⟨bS,0,none⟩),.pointer (some ⟨bb,0,none⟩)] (fun x=> #[x.1]) (akC (Cz.lK T before)) Q (fun xs _=>xs.map (·.2)=Cz.lK T before) w
 |[],k,before,j,P,bk,bS,bb,p,uv,bv,PB,Q,w,hT,hk2,hbl,hn0,hA,hPB=>by
  obtain rfl:S.length=k:=by
   have i:=congrArg List.length hT;rw[List.length_drop] at i;simp at i;omega
  exact all_zero S before j P bk bS bb p uv bv PB Q w hn0 hA
 |r::T,k,before,j,P,bk,bS,bb,p,uv,bv,PB,Q,w,hT,hk2,hbl,hn0,hA,hPB=>by
  intro l J W Iz hJ hY h0;have bw:j<=W.heap.size:=zxb hn0 Iz.size;obtain⟨w0,af⟩:=bJ (W.alloc (.cells #[.func (.yield l) #[] #[]] 134));have aq:BL W w0:=by rw[af];exact aG.alloc aL _
  have aQ:w0.heap[W.heap.size]?=some (.cells #[.func (.yield l) #[] #[]] 134 (0,0)):=by rw[af];exact bD _ _ rfl
  have hk:k<S.length:=by
   have i:=congrArg List.length hT;rw[List.length_drop] at i;simp at i;omega
  have hr:S[k]=r:=by
   have i:S.drop k=S[k]::S.drop (k+1):=zxe hk;rw[<-hT] at i;injection i with i _;exact i.symm
  have aS:T=S.drop (k+1):=by
   have i:S.drop k=S[k]::S.drop (k+1):=zxe hk;rw[<-hT] at i;injection i
  have bx:=hid (Mw S hS bu T (k+1));have bz:r.length<=1000:=by rw[<-hr];exact hS _ (eV hk)
  have bE:=hid (hA.next Iz);have R:=hid ((hA.next Iz).next aq);obtain⟨au,cu,rfl,ci, -, -⟩:=R.out.E7.form;obtain⟨ab,cb,rfl,cj, -, -⟩:=R.out.bf.form;obtain⟨z0,z1,z2,z3,z4,hz⟩:=R.out.st;obtain⟨-, -, -, -, -,s5⟩:=JB hz;obtain⟨vr,Sw, -,m⟩:=R.out.E7.at hk;rw[hr] at m;obtain⟨ar,av,rfl,ck, -, -⟩:=m.form;have Fz:=hid m;have aT:=hid Sw;have c1:=(one_cell R.out.k).1;have c2:=(one_cell R.out.s).1;have HZ:=hid hz;have aU:=hid af;have Le:=hid aq;have bF:=hid aQ;have HJ:=hid hJ;have HY:=hid hY;have H0:=hid h0;have GN:=hid bw;have ag:=hid hPB;have aw:=hid Iz;have vU:=hid aS;have HK:=hid hk;have cl:=zN k
  have cm:=zL k S.length
  have vQ:=hid hbl;have e1:((k:Int)==(S.length:Int))=false:=tH aD;have aV:(gQ before).length=before.length:=by simp[gQ]
  have cn:=hid aV;clear aV hJ hY h0 hA af aq aQ hz Iz m hr hT aS hPB hbl hk2;refine(callsIn_wide (n:=5)).1 ?_;refine callsIn_of_wp_marks func68 rfl trivial ?_ rfl;simp only[ntmps68,List.size_toArray,zxg,List.length_nil,Nat.reduceAdd,Nat.reduceSub,Array.replicate_succ,Array.replicate_zero,List.push_toArray,List.append_toArray,List.nil_append,List.cons_append];rw[wpIn_wide];go_wp2;rw[<-aU.out];go_quiet (fail);generalize ax:w0.drewN nq=U at*;have bI:Hid (Below w0.heap.size w0 U):=hid (by rw[<-ax];exact aJ aG nq);have aa:Hid (U.heap=w0.heap):=hid (by rw[<-ax];rfl);clear ax c1 c2 s5 Sw;have ad:∀{a:Addr} {v:Value},w0.cell? a=some v->U.cell? a=some v:=fun {a v} h=>(al1 (by rw[aa.out])).trans h;have c1:=ad (one_cell R.out.k).1;have c2:=ad (one_cell R.out.s).1;have s5:=ad (JB HZ.out).2.2.2.2.2;have Sw:=ad aT.out;clear ad;go_wp2;have GR:Hid (∀V,BL U V->∀b,b<w0.heap.size->V.heap[b]?=w0.heap[b]?):=hid (fun V hV b d=>(hV.block b (by rw[aa.out];exact d)).trans (by rw[aa.out]));have O7:=eC U ⟨bS,0,none⟩ (.pointer (some ⟨p,0,none⟩)) fun xh=>(one_cell ((GR.out _ xh.2 _ (aI R.out.s)).trans R.out.s)).1;have O8:=eC U ⟨bk,0,none⟩ (.int .i64 (k:Int)) fun xh=>(one_cell ((GR.out _ xh.2 _ (aI R.out.k)).trans R.out.k)).1;have az:=eC U ⟨p,5,none⟩ (.slice au S.length cu) fun xh=>(JB ((GR.out _ xh.2 _ (aI HZ.out)).trans HZ.out)).2.2.2.2.2;refine bq 5 (.quiet 0 (.quiet 1 (.quiet 2 (.quiet 3 (.quiet 4 .done))))) (BL U) nK zK (aJ aG 1) ?_;have fH:=hid (aJ (Below.refl U.heap.size U) 1);have N:Hid ((U.drewN 1).heap=w0.heap):=hid aa.out;generalize U.drewN 1=w6 at*
  iterate 5 refine gF ?_
  refine bG ?_;try simp only[jW,jH]
  clear O7 O8 az c1 c2 s5 Sw;have bK:Hid (w6.cell? ⟨bM au,bT au+k,none⟩=some (.slice ar r.length av)):=hid ((al1 (by rw[N.out])).trans aT.out);have Sw:=bK.out;go_wp2_with fail;refine(PO _ _ _ _).mono ?_;rintro e w7 ⟨rfl,ah⟩;have aA:BL w6 w7:=by rw[ah];exact aG.alloc aL _
  have aW:w7.heap.size=w0.heap.size+1:=by rw[ah,World.size_alloc,N.out]
  have Cf:Hid (BL W w7):=hid (Le.out.trans ((bI.out.trans ((fH.out.mono (Nat.le_of_eq (by rw[aa.out]))).trans (aA.mono (Nat.le_of_eq (by rw[N.out]))))).mono Le.out.size));have KM:Hid (∀b,b<w0.heap.size->w7.heap[b]?=w0.heap[b]?):=hid (fun b d=>(aA.block b (by rw[N.out];exact d)).trans (by rw[N.out]));have aB:w7.heap[w6.heap.size]?=some (.cells #[.slice ar r.length av] 22 (0,0)):=by rw[ah];exact bD _ _ rfl
  have cp:=hid aB;have aC:=hid aW;have ai:Hid (w0.heap.size=W.heap.size+1):=hid (by rw[aU.out];simp);have aX:Hid (w6.heap.size=w0.heap.size):=hid (by rw[N.out]);have Pg:=hid (Mu r bz j w7.heap.size w6.heap.size (.slice ar r.length av) (fun b o=>(Q b o\/cD P b o)/\¬(W.heap.size<=b/\b<w7.heap.size)) w7 (zxb GN.out Cf.out.size) (Fz.out.keep (fun b d z=>KM.out b z)) aB (fun o h=>h.2 ⟨by rw[aX.out,ai.out];omega,by rw[aC.out,aX.out];omega⟩));have bL:Hid (J (fun b=>False\/(W.heap.size<=b/\b<w7.heap.size)) [] w7):=hid (HJ.out _ _ _ _ _ H0.out ⟨fun _ h=>h.elim,fun b h=>h.elim False.elim (fun h=>.inr h)⟩ (aY.bg Cf.out GN.out));clear ah aA aW aB Sw;go_wp2;rw[<-wpIn_wide (n:=5)];obtain⟨I,Bx⟩:∃I:(Nat->Prop)->List (Value×List Nat)->World->Prop,I=(fun F pre X=>∃(E:Nat->Prop) (xs:List (Value×List (List Nat))),xs.map (·.2)=(pre.flatMap fun o=>Cz.lK T (before++[o.2]))/\J (fun b=>F b\/E b) xs X/\(∀b,W.heap.size<=b->b<w7.heap.size->E b)/\(∀b,E b->W.heap.size<=b)/\(∀b,F b->w7.heap.size<=b)/\aY (fun b o=>Q b o\/cD P b o) j W X/\(∀b,W.heap.size<=b->b<w7.heap.size->X.heap[b]?=w7.heap[b]?)/\w7.heap.size<=X.heap.size):=⟨_,rfl⟩
  have Ns:Hid (∀F F' pre A B,I F pre A->jg F F' A B->aY (fun b _=>F b) j A B->I F' pre B):=hid (by
   intro F F' pre A B h hg ht
   rw[Bx] at h ⊢
   obtain⟨E,xs,i,Z,h3,h4,h5,h6,h7,h8⟩:=h
   have bN:∀b,F' b->w7.heap.size<=b:=fun b d=>(hg.2 b d).elim (h5 b) (fun h=>zxb h8 h.1)
   refine⟨E,xs,i,HJ.out _ _ _ _ _ Z ⟨fun b h=>h.imp (hg.1 b) id,fun b h=>h.elim (fun h=>(hg.2 b h).imp .inl id) (fun h=>.inl (.inr h))⟩ (ht.mono fun b o h=>.inl h),h3,h4,bN,?_,fun b M O=>?_,zxb h8 ht.1.size⟩
   ·refine⟨h6.1.trans ht.1,fun b o d ho=>ht.2 b o (h6.2 b o d ho) (fun hF=>?_)⟩
    have:=h5 b hF;have:=aI d;have:=Cf.out.size;omega
   ·have H:A.heap[b]?=some w7.heap[b]:=by rw[h7 b M O];exact zxi O
    rw[<-h7 b M O,H];exact ht.2 _ _ H (fun hF=>by have:=h5 b hF;omega))
  refine Bp (α:=Value×List Nat) (n0:=j) (gf:=121) rfl (cF func121 zK rfl) (fun _=>rfl) Pg.out (zxb GN.out Cf.out.size)
   I Ns.out (fun _ _ _ h _=>h) ?hstart ?jB ?hdone
  case hstart=>rw[Bx];exact⟨fun b=>W.heap.size<=b/\b<w7.heap.size,[],rfl,bL.out,fun b i Z=>⟨i,Z⟩,fun b h=>h.1,fun b h=>h.elim,aY.bg Cf.out GN.out,fun _ _ _=>rfl,aL⟩
  case jB=>
   rintro l1 F1 pre ⟨xv,o⟩ X a0 Uc bO hI hG;obtain⟨hx1,hpre⟩:=hG;simp only at hx1;obtain⟨ao,co,TQ,bP, -, -⟩:=hx1.form;have a1:(V4 o).length=o.length:=by simp[V4]
   rw[a1] at TQ bP;subst TQ
   have Jd:o.length<=1000:=by
    have hm:o∈Cz.orders r:=hpre.subset bH;have:=(Cz.sD.1 hm).1.length_eq;simp at this;omega
   simp only[List.zip_toArray,List.zip_cons_cons,List.zip_nil_left];have HI:=hid hI;have bQ:=hid hx1;have a2:=hid hpre;have yS:=hid a0;clear hI hx1 hpre a0 a1;gi_wp2;refine⟨aY.refl _ _ _,fun f K aE L=>?_⟩;have uX:=Ns.out _ _ _ _ _ HI.out (jg.refl _ _ _) (K.mono (fun b _ e=>by rw[e];exact bO));rw[Bx] at uX;obtain⟨E,xs,i,Z,h3,h4,h5,h6,h7,h8⟩:=uX
   have ET:Hid (bB dr f (.slice ao o.length co) (V4 o)):=hid (bQ.out.Bu (fun b c t fr _ d=>K.2 b _ d (fun e=>by
    obtain⟨rr,m⟩:=yS.out;rw[e,m] at d;cases d)))
   have a3:Eo S k before j bk bS bb p (.slice au S.length cu) (.slice ab (gQ before).length cb) PB f:=bE.out.keep (fun b d z=>by
    rcases d with d|d
    ·exact h6.1.block b d
    ·obtain⟨M,O⟩:=ag.out b d
     have H:w.heap[b]?=some w.heap[b]:=zxi M;have aj:=(aw.out.block b M).trans H;rw[aj];exact h6.2 b _ aj (O _ H))
   have a4:∀b,PB b->f.heap[b]?=w.heap[b]?:=fun b d=>by
    obtain⟨M,O⟩:=ag.out b d;have H:w.heap[b]?=some w.heap[b]:=zxi M;have aj:=(aw.out.block b M).trans H;rw[H];exact h6.2 b _ aj (O _ H)
   have bR:=hid a4;have sU:=hid a3;have bU:Hid (f.heap[W.heap.size]?=some (.cells #[.func (.yield l) #[] #[]] 134 (0,0))):=hid ((h7 _ aL (by rw[aC.out,ai.out];omega)).trans ((KM.out _ (by rw[ai.out];omega)).trans bF.out));have a5:=hid i;have bV:=hid Z;have ak:=hid h3;have bW:=hid h4;have bX:=hid h5;have bY:=hid h6;have a6:=hid h7;have bZ:=hid h8;have f9:=hid L;have al:=Cf.out.size;have am:Hid (j<=f.heap.size):=hid (zxb GN.out (zxb al h8));have b0:Hid (∀b,PB b->b<f.heap.size):=hid (fun b d=>oN (ag.out b d).1 (zxb aw.out.size (zxb al h8)));clear i Z h3 h4 h5 h6 h7 h8 K aE L a3 a4 al HI;gi_wp2;have O7:=eC f ⟨bS,0,none⟩ (.pointer (some ⟨p,0,none⟩)) fun xh=>(one_cell ((xh.2.block _ (aI sU.out.s)).trans sU.out.s)).1;have O8:=eC f ⟨bk,0,none⟩ (.int .i64 (k:Int)) fun xh=>(one_cell ((xh.2.block _ (aI sU.out.k)).trans sU.out.k)).1;have az:=eC f ⟨bb,0,none⟩ (.slice ab (gQ before).length cb) fun xh=>(one_cell ((xh.2.block _ (aI sU.out.b)).trans sU.out.b)).1;refine zh 9 (.quiet 0 (.quiet 1 (.quiet 2 (.quiet 3 (.quiet 5 (.one 4 (.one 6 (.one 7 (.one 8 .done))))))))) (BL f) zK zK zK (aJ aG 1) ?_;intro KK ba;have fH:=hid (aJ (Below.refl f.heap.size f) 1);have aF:Hid ((f.drewN 1).heap.size=f.heap.size):=hid rfl;generalize f.drewN 1=X6 at*
   iterate 5 refine gF ?_
   refine aZ rfl ?_;have bc:=hid (Eb (gQ before) (by have:=vQ.out;simp[gQ];omega) (.slice ab (gQ before).length cb) X6 (E:=fun b=>(b<j\/PB b)/\b<X6.heap.size) (fun _ h=>h.2) (cG.mono (sU.out.bf.keep (aH.below fH.out)) (fun b z d=>⟨d,z⟩)));go_wp2_with fail;refine bc.out.mono ?_;rintro e X7 ⟨v7,rfl,aK,mI⟩;have jb:=aR fH mI;have Gh:=hid aK;obtain⟨a7,c7,rfl⟩:=aK.form;have EZ:=hid (zU (V4 o) (by simp[V4];omega) _ _ X7 (ET.out.keep (aH.below jb.out)));clear aK mI bc;go_wp2_with fail;refine aN (BL f) (fun _ h=>h) jb.out ?_;refine aZ rfl ?_;go_wp2_with fail;refine EZ.out.mono ?_;rintro e X8 ⟨v8,rfl,FU,mz⟩;have ou:=aR jb mz;have Fo:=hid (jM.mono (E':=fun b=>(b<j\/PB b)\/f.heap.size<=b) (Gh.out.next mz) (fun b _ d=>.inl d.1));have zO:Hid (bB (fun b=>((b<j\/PB b)\/f.heap.size<=b)/\(Value.slice a7 (gQ before).length c7).ownBlock≠some b) X8 v8 (V4 o)):=hid (bB.mono (bp.sl FU) (fun b _ d=>⟨.inr (zxb jb.out.size d),fun e=>by have:=(Gh.out.lt b e).2;omega⟩));obtain⟨a8,n8,c8,rfl⟩:∃a n c,v8=.slice a n c:=abl
   clear FU mz EZ;go_wp2_with fail;refine aN (BL f) (fun _ h=>h) ou.out ?_;refine aZ rfl ?_;go_wp2_with fail;refine aN (BL f) (fun _ h=>h) (ou.out.alloc ou.out.size _) ?_;refine aZ rfl ?_;have vX:(gQ before).length+1<=1000000000:=by have:=vQ.out;simp[gQ];omega
   go_wp2_with (at_builtin;go_must (refine JE rfl _ _ rfl Tryz.mB rfl Fo.out rfl (V4 o) zO.out rfl vX (by rw[aF.out];exact ou.out.size) ?_));intro v9 X9 Sc sS;have pX:Hid (BL f X9):=hid (ou.out.trans (sS.below ou.out.size (fun b d=>by have:=(Fo.out.lt b d).1;rw[aF.out] at this;exact this)));have C5:=hid Sc;obtain⟨a9,c9,rfl⟩:=Sc.form;have Wf:(gQ before++[V4 o]).length=before.length+1:=by simp[gQ]
   clear Sc sS Fo zO Gh;refine aN (BL f) (fun _ h=>h) pX.out ?_;refine bG ?_;try simp only[jW,jH]
   clear O7 O8 az;rw[Wf];rw[Wf] at C5;clear Wf;go_wp2_with fail;refine(Bv _ _ _ _ _ _).mono ?_;rintro e C ⟨rfl,UX⟩;have nE:BL X9 C:=by rw[UX];exact((aG.alloc aL _).alloc bH _).alloc jo _
   have bd:C.heap.size=X9.heap.size+3:=by rw[UX];simp
   have aM:C.heap[X9.heap.size]?=some (.cells #[.pointer (some ⟨p,0,none⟩)] 74 (0,0)):=by rw[UX];exact cC _ (cC _ (bD _ _ rfl))
   have NU:C.heap[X9.heap.size+1]?=some (.cells #[.int .i64 ((k+1:Nat):Int)] 3 (0,0)):=by rw[UX];exact cC _ (bD _ _ bH)
   have aO:C.heap[X9.heap.size+1+1]?=some (.cells #[.slice a9 (before.length+1) c9] 42 (0,0)):=by rw[UX];exact bD _ _ bH
   have nF:=aR pX nE;have ce:=hid (And.intro aM (And.intro NU aO));have Al:=hid bd
   have be:Hid (Eo S (k+1) (before++[o]) j (X9.heap.size+1) X9.heap.size (X9.heap.size+1+1) p (.slice au S.length cu) (.slice a9 (before.length+1) c9) (fun b=>PB b\/(f.heap.size<=b/\b<C.heap.size)) C):=hid (by
    have aP:=sU.out.next nF.out
    have cq:=pX.out.size
    have bh:=jM.sl (C5.out.next nE)
    have b1:=fun b d=>(C5.out.next nE).lt b d
    refine⟨aP.st,aP.E7,aP.pb,NU,aM,aO,?_,.inr ⟨aD,aD⟩,.inr ⟨aD,aD⟩,.inr ⟨aD,aD⟩⟩
    rw[show gQ (before++[o])=gQ before++[V4 o] by simp[gQ]]
    refine eA.mono bh (fun b z d=>.inr (.inr ⟨by have:=(b1 b d).1;rw[aF.out] at this;exact this,z⟩)) (fun u y h=>bB.mono h (fun b z d=>?_))
    rcases d.1 with(g|g)|g
    ·exact .inl g
    ·exact .inr (.inl g)
    ·exact .inr (.inr ⟨g,z⟩))
   have bi:Hid (∀b,(PB b\/(f.heap.size<=b/\b<C.heap.size))->b<C.heap.size/\∀G,C.heap[b]?=some G->¬((Q b G\/cD P b G)/\¬(F1 b\/E b\/(f.heap.size<=b/\b<C.heap.size))\/cD C.heap.size b G)):=hid (by
    rintro b (d|d)
    ·have z:=b0.out b d
     refine⟨oN z nF.out.size,fun G H h=>?_⟩;rw[nF.out.block b z,bR.out b d] at H;rcases h with h|h
     ·exact(ag.out b d).2 G H h.1
     ·have:=h.1
      have:=nF.out.size;omega
    ·refine⟨d.2,fun G H h=>?_⟩
     rcases h with h|h
     ·exact h.2 (.inr (.inr d))
     ·have:=h.1
      omega)
   have b2:=hid (bx.out (before++[o]) j C.heap.size (X9.heap.size+1) X9.heap.size (X9.heap.size+1+1) p (.slice au S.length cu) (.slice a9 (before.length+1) c9) (fun b=>PB b\/(f.heap.size<=b/\b<C.heap.size)) (fun b o=>(Q b o\/cD P b o)/\¬(F1 b\/E b\/(f.heap.size<=b/\b<C.heap.size))) C vU.out HK.out (by have:=vQ.out;simp;omega) (zxb am.out nF.out.size) be.out bi.out)
   have JA:Hid (∃r,C.heap[l1]?=some (.loop r)):=hid (by
    obtain⟨rr,m⟩:=f9.out
    exact⟨rr,(nF.out.block _ (aI m)).trans m⟩)
   clear UX nE bd aM NU aO;go_wp2;refine ba _ _ ?_;clear ba;obtain⟨I2,Ep⟩:∃I2:(Nat->Prop)->List (Value×List (List Nat))->World->Prop,I2=(fun F2 Mv Y=>J (fun b=>F2 b\/(F1 b\/E b\/(f.heap.size<=b/\b<C.heap.size))) (xs++Mv) Y/\(∀b,F2 b->C.heap.size<=b)/\aY (fun b o=>(Q b o\/cD P b o)/\¬(F1 b\/E b)) j f Y/\C.heap.size<=Y.heap.size):=⟨_,rfl⟩
   have bj:Hid (∀F F' pre A B,I2 F pre A->jg F F' A B->aY (fun b _=>F b) j A B->I2 F' pre B):=hid (by
    intro F F' Mv A B h hg ht
    rw[Ep] at h ⊢
    obtain⟨i,Z,h3,h4⟩:=h
    refine⟨HJ.out _ _ _ _ _ i ⟨fun b h=>h.imp (hg.1 b) id,fun b h=>h.elim (fun h=>(hg.2 b h).imp .inl id) (fun h=>.inl (.inr h))⟩ (ht.mono fun b o h=>.inl h),fun b d=>(hg.2 b d).elim (Z b) (fun h=>zxb h4 h.1),?_,zxb h4 ht.1.size⟩
    refine⟨h3.1.trans ht.1,fun b G d ho=>ht.2 b G (h3.2 b G d ho) (fun hF=>?_)⟩
    have:=Z b hF
    have:=aI d
    have:=nF.out.size
    omega)
   gi_wp2
   refine Jg (α:=Value×List (List Nat)) (n0:=j) (l0:=l1) (gf:=68) JA.out rfl (cF func68 zK rfl) (fun _=>rfl) b2.out (zxb am.out nF.out.size)
    I2 bj.out (fun _ _ _ h _=>h) ?acV ?acW ?aho
   case acV=>
    rw[Ep];refine⟨?_,fun b h=>h.elim,aY.bg nF.out am.out,aL⟩;rw[zxp];exact HJ.out _ _ _ _ _ bV.out ⟨fun b h=>.inr (h.imp id .inl),fun b h=>h.elim False.elim (fun h=>h.elim (fun h=>.inl (.inl h)) (fun h=>h.elim (fun h=>.inl (.inr h)) (fun h=>.inr h)))⟩ (aY.bg nF.out am.out)
   case acW=>
    rintro l2 F2 Mv ⟨yv,a⟩ Y L cf b3 hI hG;obtain⟨an,bl⟩:=hG;simp only at an;obtain⟨ay,cy,b4,cg, -, -⟩:=an.form;subst b4;simp only[List.zip_toArray,List.zip_cons_cons,List.zip_nil_left];have bm:=hid hI;have b5:=hid an;have b6:=hid bl;have b7:=hid L;clear hI an bl L;gi_wp2;refine⟨aY.refl _ _ _,fun Y2 K aE L=>?_⟩;have Ca:=bj.out _ _ _ _ _ bm.out (jg.refl _ _ _) (K.mono (fun b _ e=>by rw[e];exact b3));rw[Ep] at Ca;obtain⟨M,O,g3,g4⟩:=Ca;have bn:Y2.heap[W.heap.size]?=some (.cells #[.func (.yield l) #[] #[]] 134 (0,0)):=g3.2 _ _ bU.out (fun h=>h.2 (.inr (ak.out _ aL (by rw[aC.out,ai.out];omega))))
    have ap:cG dr Y2 (.slice ay (gQ a).length cy) (gQ a):=b5.out.Bu (fun b c t fr _ d=>K.2 b _ d (fun e=>by
     obtain⟨rr,m⟩:=b7.out;rw[e,m] at d;cases d))
    obtain⟨fn,ch,assign,body,RA,hR⟩:=YieldAt.jD (m':=0) rfl (HY.out _ (xs++Mv) (.slice ay (gQ a).length cy,a) Y2 M ⟨ap,by
     rw[zxm,zxj,a5.out]
     exact acT a2.out b6.out⟩)
    have jm:=hid hR;have b8:=hid O;have vV:=hid g3;have DM:=hid g4;have b9:=(one_cell bn).1;clear M O g3 g4 bn ap K aE L hR bm;gi_wp2;refine⟨rfl,RoundIn.mono (F:=Fence.wide.inRound l2) jm.out ?_⟩;rintro e Y4 ⟨tT,rfl,bo⟩
    have HQ:Hid (aY (fun b G=>((Q b G\/cD P b G)/\¬(F1 b\/E b\/(f.heap.size<=b/\b<C.heap.size)))/\¬F2 b) j Y2 Y4/\I2 F2 (Mv++[(.slice ay (gQ a).length cy,a)]) Y4):=hid ⟨tT.mono (fun b G h=>⟨⟨h.1,fun q=>h.2 (.inr q)⟩,fun q=>h.2 (.inl q)⟩),by
     rw[Ep]
     exact⟨by rw[<-zxm];exact bo,b8.out,vV.out.trans (tT.mono (fun b G h=>⟨h.1,fun q=>h.2 (.inr (q.imp id .inl))⟩)),zxb DM.out tT.1.size⟩⟩
    clear tT bo jm RA b9;gi_wp2;exact HQ.out
   case aho=>
    rintro F2 ca Y Wk ae;rw[Ep] at ae;obtain⟨M,O,g3,g4⟩:=ae;have al:=Cf.out.size;have cc:=bZ.out;have br:=nF.out.size
    have HQ:Hid (aY (fun b G=>((Q b G\/cD P b G)/\¬(W.heap.size<=b/\b<w7.heap.size))/\¬F1 b) j f Y/\I F1 (pre++[(.slice ao o.length co,o)]) Y):=hid ⟨g3.mono (fun b G h=>⟨⟨h.1,fun q=>h.2 (.inr (ak.out b q.1 q.2))⟩,fun q=>h.2 (.inl q)⟩),by
     rw[Bx]
     refine⟨fun b=>E b\/(f.heap.size<=b/\b<C.heap.size)\/F2 b,xs++ca,?_,HJ.out _ _ _ _ _ M ⟨fun b h=>?_,fun b h=>.inl ?_⟩ (aY.refl _ _ _),fun b q1 q2=>.inl (ak.out b q1 q2),fun b h=>?_,bX.out,bY.out.trans (g3.mono fun b G h=>h.1),fun b q1 q2=>?_,zxb cc (zxb br g4)⟩
     ·rw[zxj,a5.out,Wk,List.flatMap_append];simp
     ·rcases h with h|h|h|h
      ·exact .inr (.inr (.inr h))
      ·exact .inl h
      ·exact .inr (.inl h)
      ·exact .inr (.inr (.inl h))
     ·rcases h with h|h|h|h
      ·exact .inr (.inl h)
      ·exact .inr (.inr (.inl h))
      ·exact .inr (.inr (.inr h))
      ·exact .inl h
     ·rcases h with h|h|h
      ·exact bW.out b h
      ·omega
      ·have:=O b h
       omega
     ·have H:f.heap[b]?=some w7.heap[b]:=by rw[a6.out b q1 q2];exact zxi q2
      rw[<-a6.out b q1 q2,H];exact g3.2 _ _ H (fun h=>h.2 (.inr (ak.out b q1 q2)))⟩
    clear M O g3 g4 Wk;gi_wp2;exact HQ.out
  case hdone=>
   rintro D F xs X hD cd Wk ae hk;rw[Bx] at ae;obtain⟨E,ys,i,Z,h3,h4,h5,h6,h7,h8⟩:=ae
   have hE:ys.map (·.2)=Cz.lK (r::T) before:=by
    rw[i,show Cz.lK (r::T) before=(Cz.orders r).flatMap (fun o=>Cz.lK T (before++[o])) from rfl,<-Wk,List.flatMap_map]
   have bs:=HJ.out _ _ _ _ _ Z (jg.refl _ _ _) (aY.putObj (.deferred none) hk (.inl cd) (zxb GN.out (zxb Cf.out.size hD)));have bt:=hid (And.intro hE bs);have sZ:=hid hk;clear Wk i Z h3 h4 h5 h6 h7 h8 hk hE bs;go_wp2;exact Bw (v:=.tuple #[]) sZ.out (by simp[results,results68,go_sem]) ⟨⟨_,rfl⟩,_,ys,bt.out.1,bt.out.2⟩
attribute [local go_sem] Oper.semAt_some
namespace Cz
theorem H9{a:List Row}(h:a.length<=1000):∀y∈tA a,0<=y/\y<=1000:=by
 intro y b;unfold tA at b;rw[List.mem_map] at b;obtain⟨l, -,rfl⟩:=b;unfold rk;have d:=agS (c:=di) (dU di a) l;have e:=q9 (c:=di) a;omega
theorem ame(h:p:=by
  rw[List.mem_map] at hr
  obtain⟨k, -,rfl⟩:=hr
  exact H9 (by simp;exact h5 k)):p:=h
theorem aaB(ks:iQ)(w:Wd)(h5:∀k,len w k<=1000):∀r∈S0 ks w,∀y∈r,0<=y/\y<=1000:=by
 intro r hr;unfold S0 at hr;exact ame
theorem Er(ks:iQ)(w:Wd)(S:List Row)(h5:∀k,len w k<=1000):∀r∈fF ks w S,∀y∈r,0<=y/\y<=1000:=by
 intro r hr;unfold fF at hr;exact ame
theorem Es(ks:iQ)(w:Wd)(a:∀k,len w k<=1000):∀(n:Nat) (S:List Row),(∀r∈S,∀y∈r,0<=y/\y<=1000)->∀r∈qv ks w n S,∀y∈r,0<=y/\y<=1000
 |0,S,h=>h
 |n+1,S,_=>by
  unfold qv;split
  ·exact Er ks w S a
  ·exact Es ks w a n _ (Er ks w S a)
theorem Mx(ks:iQ)(w:Wd)(a:∀k,len w k<=1000):∀r∈sorts ks w,∀y∈r,0<=y/\y<=1000:=Es ks w a _ _ (aaB ks w a)
end Cz
def aeY(n c:Nat)(F:Nat->Prop)(a:Value)(X:World):Option Cz.Wd->Prop
 |none=>a=.slice none 0 0
 |some v=>∃g,a=.slice (some ⟨g,0,none⟩) n n/\cM (fun b=>c<=b/\¬F b) X a v
theorem Bz{P:Program}{n:Nat}{b:Func}{a:Array Value}{w:World}{R:Ending->World->Prop}{v:Value}(h1:(results b a).run P w=.ok v w)(h2:R (.returned v) w):LeavesInM Fence.wide n P b a R [] .returning w:=⟨_,h1,h2⟩
def uK(ks:Cz.iQ)(W:Cz.Wd)(l:List (Value×List (List Nat))):Option Cz.Wd:=Cz.best (l.map fun y=>Cz.bN ks W y.2)
theorem PU(ks:Cz.iQ)(W:Cz.Wd)(l:List (Value×List (List Nat)))(v:Value)(a:List (List Nat)):uK ks W (l++[(v,a)])=some (match uK ks W l with
  |none=>Cz.bN ks W a
  |some b=>if Cz.sC (Cz.bN ks W a) b<0 then Cz.bN ks W a else b):=by
 unfold uK;rw[zxj,zxt,List.map_nil,Cz.Uw];rfl
theorem Ia(x:aC.cE)(aa:aC.okB x=true)(hu:aC.eT x)(aW:∀k∈x.ah,k.aF.length<=20)(au:x.ah.length<=10)(W:aC.dw)(bl:Bool)(IL:W.length<=10)(E:bl=true->Cz.nH (aM x) W)(h5:∀k,Cz.len W k<=1000)(hT:aC.total W<=512)
  (G H J aw:Option Addr)(K L M cw tb:Nat)(w:World)
  (a0:bl=false->∀X,BL w X->CB 104 #[(.agg (sBx x G H J K L M)),.slice aw W.length cw] X (.bool false))(ha:tu tb x W (.agg (sBx x G H J K L M)) (.slice aw W.length cw) w.heap.size w):
  CP 9 #[(.agg (sBx x G H J K L M)),.slice aw W.length cw] w (mM (if bl=true then 4 else 2) (if bl=true then Cz.canon (aM x) W else none) w):=by
 obtain⟨cc,u⟩:∃c:Int,c=if bl=true then 4 else 2:=⟨_,rfl⟩;obtain⟨rr,N⟩:∃r,r=if bl=true then Cz.canon (aM x) W else none:=⟨_,rfl⟩;obtain⟨zz,av⟩:∃c:Int,c=if bl=true then 0 else 2:=⟨_,rfl⟩;rw[<-u,<-N];obtain⟨w1,hw1⟩:=bJ (bSx w x G H J K L M);have bL:=yL hw1;have HX:Hid (∀X,BL w1 X->X.heap[w.heap.size]?=some (.cells (sBx x G H J K L M) 27 (0,0))):=hid (fun X hX=>(hX.block _ (by rw[hw1];simp[bSx,fJ])).trans Qs);delta bSx fJ at hw1;have bK:=hid hw1;have HA:=hid (fun X (hX:BL w X)=>ha.keep hX);have a1:=hid (xN x aa (.agg (sBx x G H J K L M)) (·<w.heap.size) tb w1 (HA.out w1 bL.out).xk (HA.out w1 bL.out).laid (HA.out w1 bL.out).tab);have bM:=hid E;have ay:=hid u;have Fz:=hid N;have a2:=hid av
 have a3:=hid (fun X (hX:BL w X) (t:Value) (U:Nat->Prop) (hs:nU U X t (nX W))=>(by
  rw[av]
  cases bl with
  |true=>exact(FH x W (nX W) (Uv aa hu (E rfl) hT) _ _ t _ tb w.heap.size X (ha.keep hX) hs).mono fun e w' h=>by obtain⟨g,rfl, -,d⟩:=h;exact⟨_,rfl,d⟩
  |false=>exact(FI x W aa _ _ t (nX W) _ tb w.heap.size X (ha.keep hX) hs (fun Y hY=>a0 rfl Y (bO hX hY))).mono fun e w' h=>by obtain⟨rfl,d⟩:=h;exact⟨_,rfl,d⟩:
  CP 26 #[(.agg (sBx x G H J K L M)),.slice aw W.length cw,t] X fun e w'=>∃gv,e=.returned (.tuple #[gv,.int .i64 zz])/\BL X w'))
 have HU:=hid hu;have H5:=hid h5;have Uz:=hid aW;have HT:=hid hT;clear ha E a0 hu h5 aW hT aa u N av;obtain⟨y0,y1,y2,y3⟩:=b4z (HX.out w1 aG);clear hw1;refine(callsIn_wide (n:=5)).1 ?_;refine callsIn_of_wp_marks func9 rfl trivial ?_ rfl;simp only[ntmps9,List.size_toArray,zxg,List.length_nil,Nat.reduceAdd,Nat.reduceSub,Array.replicate_succ,Array.replicate_zero,List.push_toArray,List.append_toArray,List.nil_append,List.cons_append];rw[wpIn_wide];go_upto_region 1 with fail;rw[<-bK.out];go_wp2_with fail;refine a1.out.mono ?_;rintro e w2 ⟨rfl,az⟩;have cH:=hid az;have a4:=aR bL az;clear y0 y1 y2 y3 az a1;go_wp2;have qo:=eC w2 ⟨w.heap.size,0,none⟩ (.int .i64 x.aQ) fun O=>(bF (HX.out O.1 (bO cH.out O.2))).1.1;have qp:=eC w2 ⟨w.heap.size,1,none⟩ (.slice G x.ah.length K) fun O=>(bF (HX.out O.1 (bO cH.out O.2))).1.2.1;have qt:=eC w2 ⟨w.heap.size,2,none⟩ (.slice H x.aV.length L) fun O=>(bF (HX.out O.1 (bO cH.out O.2))).1.2.2.1;have qu:=eC w2 ⟨w.heap.size,3,none⟩ (.slice J x.aX.length M) fun O=>(bF (HX.out O.1 (bO cH.out O.2))).1.2.2.2;refine alR w2 9 (.quiet 0 (.quiet 1 (.quiet 2 (.one 3 (.one 4 (.quiet 5 (.quiet 6 (.quiet 7 (.quiet 8 .done))))))))) nK zK fun w3 GF=>?_;have a5:=aR a4 GF.out
 have JU:=hid (Uf W aD (fun r S=>by
  obtain⟨j,hj,rfl⟩:=zxf S;have:=H5.out j;unfold Cz.len at this;rw[Cz.bh hj] at this;omega) (.slice aw W.length cw) (·<w.heap.size) w3 (HA.out w3 a5.out).ze)
 iterate 3 refine gF ?_
 refine aZ rfl ?_;go_wp2_with fail;refine JU.out.mono ?_;rintro e w4 ⟨g4,rfl,bP,z⟩;have GH:=aR GF z;have LX:=aR a5 z;have bQ:=hid (a3.out w4 LX.out (.slice (some ⟨g4,0,none⟩) W.length W.length) _ (pu.sl bP));go_wp2_with fail;refine aN (BL w2) (fun _ h=>h) GH.out ?_;refine aZ rfl ?_;go_wp2_with fail;refine bQ.out.mono ?_;rintro e w5 ⟨g5,rfl,jZ⟩;have I8:=aR GH jZ;have ab:=aR LX jZ;go_wp2_with fail;refine aN (BL w2) (fun _ h=>h) I8.out ?_
 iterate 4 refine gF ?_
 refine bG ?_;try simp only[jW,jH]
 clear qo qp qt qu a3;cases bl
 ·obtain rfl:zz=2:=a2.out
  have HP:Hid (mM cc rr w (.returned (.tuple #[.slice none 0 0,.int .i64 2])) w5):=hid (by rw[ay.out,Fz.out];exact⟨rfl,ab.out⟩);go_wp2;exact Bz (v:=.tuple #[.slice none 0 0,.int .i64 2]) (by simp[results,results9,go_sem]) HP.out
 obtain rfl:zz=0:=a2.out;have pW:=hid (bM.out rfl);obtain⟨y0,y1,y2,y3⟩:=b4z (HX.out w5 (bO cH.out I8.out));have a6:=hid (HA.out w5 ab.out);have a7:=hid (PG x W pW.out H5.out Uz.out au G H J aw K L M cw w5 (a6.out.xk.mono (fun b d _=>d)) (a6.out.ze.mono (fun b d _=>d)));go_wp2_with fail;refine a7.out.mono ?_;rintro e w6 ⟨rfl,ad,oH⟩;obtain⟨p,hp⟩:=bJ (w5.heap.size+1);rw[<-hp] at ad;rw[<-hp];have aA:Hid (w.heap.size<=p):=hid (by rw[hp];have:=ab.out.size;omega);have a8:=aR ab oH;obtain⟨w7,ae⟩:=bJ (w6.alloc (.cells #[.pointer (some ⟨p,0,none⟩)] 74));have mI:BL w6 w7:=by rw[ae];exact aG.alloc aL _
 have aB:w7.heap[w6.heap.size]?=some (.cells #[.pointer (some ⟨p,0,none⟩)] 74 (0,0)):=by rw[ae];exact bD _ _ rfl
 have pJ:=hid aB;have Cf:=aR a8 mI;have a9:=hid (HA.out w7 Cf.out);have DE:=hid (PL x HU.out Uz.out au W pW.out H5.out (by have:=HT.out;unfold aC.total at this;unfold Cz.total;omega) G H J aw K L M cw p w.heap.size aA.out w7 a9.out.xk a9.out.ze (ad.next mI));have bR:=hid ae;have ba:p<w6.heap.size:=by obtain⟨v,h1, -⟩:=ad.cell;exact aI h1
 have bS:=hid ba;have c7:=(one_cell aB).1;clear hp ad oH ae mI aB y0 y1 y2 y3 a7 ba;go_upto_region 7 with fail;rw[<-bR.out];go_wp2_with fail;refine DE.out.mono ?_;rintro e w8 ⟨rfl,bT,mw⟩;have bb:w8.heap[w6.heap.size]?=some (.cells #[.pointer (some ⟨p,0,none⟩)] 74 (0,0)):=(mw.block _ (fun e=>by have:=bS.out;omega) (aI pJ.out)).trans pJ.out;have wR:=hid bb;have bc:Hid (BL w w8):=hid (Cf.out.trans (mw.below Cf.out.size (fun b d=>by rw[d];exact aA.out)));have bd:=hid (HA.out w8 bc.out);obtain⟨uv,be⟩:=bT.akp bd.out.xk bd.out.ze aA.out;have nM:=hid be;have UM:=Cz.DY (aM x) W;have zy:=hid UM
 have bf:=hid (Au x W (Cz.sorts (aM x) W) (fun r S y hy=>by
   have:=Cz.Mx (aM x) W H5.out r S y hy
   exact⟨aD,aD⟩) (fun r S=>by
   obtain⟨j,hj,rfl⟩:=zxf S
   have:=UM.2 j (by rw[<-UM.1];exact hj)
   rw[Cz.bh hj] at this
   rw[this];exact H5.out j) (by rw[UM.1];omega) _ _ uv p w8.heap.size w8 be aL)
 have c7:=(one_cell bb).1;go_wp2_with fail;refine bf.out.mono ?_;rintro e f ⟨r,rfl,S,b8,CW⟩;have af:=aR bc CW;have pX:=hid CW;have HR:=hid S;clear CW S bf c7;by_cases aE:720<r
 ·have bU:(720:Int)<(r:Int):=by omega
  have HP:Hid (mM cc rr w (.returned (.tuple #[.slice none 0 0,.int .i64 4])) f):=hid (by
   rw[ay.out,Fz.out]
   show mM 4 (Cz.canon (aM x) W) _ _ _
   have e:Cz.canon (aM x) W=none:=by unfold Cz.canon;rw[if_pos (HR.out.1 aE)]
   rw[e]
   exact⟨rfl,af.out⟩)
  go_wp2;exact Bz (v:=.tuple #[.slice none 0 0,.int .i64 4]) (by simp[results,results9,go_sem]) HP.out
 ·have bU:¬(720:Int)<(r:Int):=by omega
  have Wn:Hid (Cz.canon (aM x) W=Cz.best ((Cz.lK (Cz.sorts (aM x) W) []).map (Cz.bN (aM x) W))):=hid (by unfold Cz.canon;rw[if_neg (fun h=>aE (HR.out.2 h))]);have ag:f.heap[w6.heap.size]?=some (.cells #[.pointer (some ⟨p,0,none⟩)] 74 (0,0)):=(pX.out.block _ (aI wR.out)).trans wR.out;have Fx:=hid ag;have ai:=hid (nM.out.keep pX.out);have bi:=pX.out.size;obtain⟨s,aj⟩:=bJ (f.alloc (.cells #[.slice none 0 0] 33));have nE:BL f s:=by rw[aj];exact aG.alloc aL _
  have tr:s.heap[f.heap.size]?=some (.cells #[.slice none 0 0] 33 (0,0)):=by rw[aj];exact bD _ _ rfl
  have c9:=(one_cell ((nE.block _ (aI ag)).trans ag)).1;have bj:=hid aj;have bk:=hid tr;have nF:=hid nE;clear aE aj nE tr ag bi;go_upto_region 11 with fail;rw[<-bj.out];go_wp2_with fail;refine(Bv _ _ _ _ _ _).mono ?_;rintro e i ⟨rfl,UY⟩;have I3:BL s i:=by rw[UY];exact((aG.alloc aL _).alloc bH _).alloc jo _
  have bm:i.heap.size=s.heap.size+3:=by rw[UY];simp
  have bn:i.heap[s.heap.size]?=some (.cells #[.pointer (some ⟨p,0,none⟩)] 74 (0,0)):=by rw[UY];exact cC _ (cC _ (bD _ _ rfl))
  have bo:i.heap[s.heap.size+1]?=some (.cells #[.int .i64 ((0:Nat):Int)] 3 (0,0)):=by rw[UY];exact cC _ (bD _ _ bH)
  have bp:i.heap[s.heap.size+1+1]?=some (.cells #[.slice none 0 0] 42 (0,0)):=by rw[UY];exact bD _ _ bH
  have RT:=bO nF.out I3;have I4:=hid RT;have bq:=hid bm;have br:=hid ((I3.block _ (aI bk.out)).trans bk.out);have Al:Hid (s.heap.size=f.heap.size+1):=hid (by rw[bj.out];simp);have hsz:=pX.out.size
  have bs:Eo (Cz.sorts (aM x) W) 0 [] f.heap.size (s.heap.size+1) s.heap.size (s.heap.size+1+1) p uv (.slice none 0 0) (fun b=>f.heap.size<b/\b<i.heap.size) i:=by
   have b9:=Al.out;obtain⟨WC,WD,ca,cb,WE,WG, -,P⟩:=ai.out.cell;exact⟨⟨_,_,_,_,_,(RT.block _ (aI P)).trans P⟩,cG.mono (ai.out.E7.keep (aH.below RT)) (fun b _ d=>oN d hsz),oN ai.out.pb hsz,bo,bn,bp,eA.nil _ _ _,⟨aD,aD⟩,⟨aD,aD⟩,⟨aD,aD⟩⟩
  have Pg:=hid (Mw (Cz.sorts (aM x) W) (fun r S=>by
    obtain⟨j,hj,rfl⟩:=zxf S
    have:=zy.out.2 j (by rw[<-zy.out.1];exact hj)
    rw[Cz.bh hj] at this
    rw[this];exact H5.out j) (by rw[zy.out.1];omega) (Cz.sorts (aM x) W) 0 [] f.heap.size i.heap.size (s.heap.size+1) s.heap.size (s.heap.size+1+1) p uv (.slice none 0 0) (fun b=>f.heap.size<b/\b<i.heap.size) (fun b _=>b=f.heap.size) i (jH (l:=Cz.sorts (aM x) W)).symm (zxa _) aL I4.out.size bs (fun b d=>⟨d.2,fun o _ h=>by
     rcases h with h|h
     ·have:=d.1
      omega
     ·have:=h.1
      have:=d.2;omega⟩))
  obtain⟨I,Bx⟩:∃I:(Nat->Prop)->List (Value×List (List Nat))->World->Prop,I=fun F pre X=>∃bv,X.heap[f.heap.size]?=some (.cells #[bv] 33 (0,0))/\aeY W.length i.heap.size F bv X (uK (aM x) W pre)/\(∀b,F b->i.heap.size<=b/\b<X.heap.size)/\BL f X/\i.heap.size<=X.heap.size:=⟨_,rfl⟩;have Q:=hid Bx;clear Bx
  have Ns:Hid (∀F F' pre A B,I F pre A->jg F F' A B->aY (fun b _=>F b) f.heap.size A B->I F' pre B):=hid (by
   intro F F' pre A B h hg ht
   rw[Q.out] at h ⊢
   obtain⟨bv,h1,T,h3,h4,h5⟩:=h
   refine⟨bv,ht.2 _ _ h1 (fun hF=>by have:=(h3 _ hF).1;have:=bq.out;have:=Al.out;omega),?_,fun b d=>?_,h4.trans ht.1,zxb h5 ht.1.size⟩
   ·cases My:uK (aM x) W pre with
    |none=>rw[My] at T;exact T
    |some v=>
     rw[My] at T
     obtain⟨g,e,hw⟩:=T
     refine⟨g,e,bZ.keep (bZ.mono hw (S':=fun b=>i.heap.size<=b/\¬F' b) (fun b C d=>⟨d.1,fun h'=>(hg.2 b h').elim d.2 (fun q=>by omega)⟩)) (fun b d C=>?_)⟩
     have wV:A.heap[b]?=some A.heap[b]:=zxi C
     rw[wV]
     exact ht.2 _ _ wV (fun hF=>d.2 (hg.1 b hF))
   ·rcases hg.2 b d with h|h
    ·exact⟨(h3 b h).1,oN (h3 b h).2 ht.1.size⟩
    ·exact⟨zxb h5 h.1,h.2⟩)
  clear UY I3 bm bn bo bp RT hsz bs c9;go_wp2;rw[<-wpIn_wide (n:=5)]
  refine Bp (α:=Value×List (List Nat)) (n0:=f.heap.size) (gf:=68) rfl (cF func68 zK rfl) (fun _=>rfl) Pg.out I4.out.size
   I Ns.out (fun _ _ _ h _=>h) ?hstart ?jB ?hdone
  case hstart=>rw[Q.out];exact⟨_,br.out,rfl,fun b h=>h.elim,I4.out,aL⟩
  case jB=>
   rintro l1 F1 pre ⟨xv,a⟩ X bt Uc bV hI ⟨hx1,hpre⟩;simp only at hx1;obtain⟨ax,cx,TQ,b7, -, -⟩:=hx1.form;subst TQ;simp only[List.zip_toArray,List.zip_cons_cons,List.zip_nil_left];have ap:=Cz.vJ.1 (hpre.subset (List.mem_map.2 ⟨_,List.mem_append_right _ (nL.2 rfl),rfl⟩));have HM:=hid ap;have HI:=hid hI;have bW:=hid hx1;have yS:=hid bt;clear hI hx1 hpre bt ap;gi_wp2;refine⟨aY.refl _ _ _,fun X2 aJ bX bY b1=>?_⟩;have uX:=Ns.out _ _ _ _ _ HI.out (jg.refl _ _ _) (aJ.mono (fun b _ e=>by rw[e];exact bV));rw[Q.out] at uX;obtain⟨bv,h1,T,h3,h4,h5⟩:=uX
   have aq:cG dr X2 (.slice ax (gQ a).length cx) (gQ a):=bW.out.Bu (fun b c t fr _ d=>aJ.2 b _ d (fun e=>by
    obtain⟨rr,N⟩:=yS.out;rw[e,N] at d;cases d))
   have bu:=hid (JD x HU.out Uz.out au W (Cz.sorts (aM x) W) G H J K L M _ uv p w8.heap.size X2 (ai.out.keep (h4.mono pX.out.size)) (zxb pX.out.size h4.size) pW.out H5.out a (by rw[HM.out.1,zy.out.1]) (fun k hk=>by
    have:=(HM.out.2 k (by rw[zy.out.1];exact hk)).1;rwa [zy.out.2 k hk] at this) (.slice ax (gQ a).length cx) dr aq)
   have c9:=(one_cell ((h4.block _ (aI Fx.out)).trans Fx.out)).1;have zP:=hid h1;have RU:=hid T;have Cn:=hid h3;have gX:=hid h4;have BP:=hid h5;have bw:f.heap.size<i.heap.size:=by have:=bq.out;have:=Al.out;omega
   have aK:=hid bw;clear h1 T h3 h4 h5 aJ bX b1 bY aq bw;gi_wp2_with fail;refine⟨trivial,rfl,jF.2 (bu.out.mono ?_)⟩;rintro e X3 ⟨g3,rfl,bx,am⟩;have cN:=hid am;have aO:=hid bx;have UZ:=hid ((am.block _ (aI zP.out)).trans zP.out);have Wr:=hid (PU (aM x) W pre (.slice ax (gQ a).length cx) a);have UO:Hid (Turns (fun b=>b=f.heap.size) X2 (X3.setCell ⟨f.heap.size,0,none⟩ (.slice (some ⟨g3,0,none⟩) W.length W.length))):=hid ((Turns.bg am).setCell ⟨f.heap.size,0,none⟩ _ rfl);have aP:Hid (∀Z,Turns (fun b=>b=f.heap.size) X2 Z->aY (fun b o=>b=f.heap.size/\¬F1 b) f.heap.size X2 Z):=hid (fun Z hZ=>aY.eX hZ gX.out.size (fun b d=>Nat.le_of_eq d.symm) (fun b o d _=>⟨d,fun hF=>by have:=(Cn.out b hF).1;have:=aK.out;omega⟩))
   have aS:Hid (∀Z an,Turns (fun b=>b=f.heap.size) X2 Z->Z.heap[f.heap.size]?=some (.cells #[an] 33 (0,0))->aeY W.length i.heap.size F1 an Z (uK (aM x) W (pre++[(.slice ax (gQ a).length cx,a)]))->I F1 (pre++[(.slice ax (gQ a).length cx,a)]) Z):=hid (fun Z an hZ hz d=>by
    rw[Q.out];exact⟨an,hz,d,fun b hF=>⟨(Cn.out b hF).1,oN (Cn.out b hF).2 hZ.size⟩,gX.out.trans (hZ.below gX.out.size (fun b d=>Nat.le_of_eq d.symm)),zxb BP.out hZ.size⟩)
   have bz:Hid (∀b,X2.heap.size<=b->i.heap.size<=b/\¬F1 b):=hid (fun b d=>⟨zxb BP.out d,fun hF=>by have:=(Cn.out b hF).2;omega⟩)
   have b2:Hid (uK (aM x) W (pre++[(.slice ax (gQ a).length cx,a)])=some (Cz.bN (aM x) W a)->aY (fun b o=>b=f.heap.size/\¬F1 b) f.heap.size X2 (X3.setCell ⟨f.heap.size,0,none⟩ (.slice (some ⟨g3,0,none⟩) W.length W.length))/\I F1 (pre++[(.slice ax (gQ a).length cx,a)]) (X3.setCell ⟨f.heap.size,0,none⟩ (.slice (some ⟨g3,0,none⟩) W.length W.length))):=hid (fun ao=>⟨aP.out _ UO.out,aS.out _ _ UO.out (one_set _ UZ.out) (by
    rw[ao]
    refine⟨g3,rfl,bZ.keep (bZ.mono aO.out (fun b _ d=>bz.out b d)) (fun b d C=>mO _ ⟨f.heap.size,0,none⟩ _ _ (fun e=>?_))⟩
    have e1:b=f.heap.size:=e
    have:=d.1
    have:=aK.out
    omega)⟩)
   clear bx am c9 bu;cases My:uK (aM x) W pre with
   |none=>
    rw[My] at RU Wr
    obtain rfl:=RU.out
    have ao:=b2.out Wr.out
    have HQ:=hid ao
    have hq:∀V,(binOp .eql 33 (.slice none 0 0) (.slice none 0 0)).run prog V=.ok (.bool true) V:=fun V=>Lib.run_eql_slice_nil V 33 42 none 0 0 0 0 zK
    have c1:=(one_cell UZ.out).1
    have b3:=(one_cell UZ.out).2
    clear ao
    gi_wp2
    refine⟨trivial,?_⟩
    gi_wp2
    exact HQ.out
   |some b0=>
    rw[My] at RU Wr
    obtain⟨g0,b4,aT⟩:=RU.out
    subst b4
    have Le:=hid aT
    have hq:∀V,(binOp .eql 33 (.slice (some ⟨g0,0,none⟩) W.length W.length) (.slice none 0 0)).run prog V=.ok (.bool false) V:=fun V=>Lib.run_eql_slice_nil V 33 42 (some ⟨g0,0,none⟩) W.length W.length 0 0 zK
    have c1:=(one_cell UZ.out).1
    have b5:Hid (b0.length=W.length):=hid (by
     obtain⟨a',c',e, -⟩:=(cM.sl aT).form
     have:=congrArg (fun v=>match v with| .slice _ n _=>n|_=>0) e
     exact this.symm)
    have bA:=hid (Jp (Cz.bN (aM x) W a) b0 (by rw[b5.out];simp[Cz.bN]) (.slice (some ⟨g3,0,none⟩) W.length W.length) (.slice (some ⟨g0,0,none⟩) W.length W.length) _ _ X3 (cM.sl aO.out) (cM.sl (bZ.keep aT (aH.below cN.out))))
    obtain⟨cc,u⟩:=bJ (Cz.sC (Cz.bN (aM x) W a) b0)
    have bB:Hid (uK (aM x) W (pre++[(.slice ax (gQ a).length cx,a)])=some (if cc<0 then Cz.bN (aM x) W a else b0)):=hid (by rw[Wr.out,u])
    rw[<-u] at bA
    gi_wp2_with fail
    refine⟨trivial,rfl,jF.2 (bA.out.mono ?_)⟩
    rintro e X4 ⟨rfl,z⟩
    have aU:=aR cN z
    have Fy:=hid (bZ.keep aO.out (aH.below z))
    have PV:=(z.block _ (aI UZ.out)).trans UZ.out
    have c1:=(one_cell PV).1
    have b3:=(one_cell PV).2
    by_cases hc:cc<0
    ·have R:Turns (fun b=>b=f.heap.size) X2 (X4.setCell ⟨f.heap.size,0,none⟩ (.slice (some ⟨g3,0,none⟩) W.length W.length)):=(Turns.bg aU.out).setCell ⟨f.heap.size,0,none⟩ _ rfl
     have HQ:=hid (And.intro (aP.out _ R) (aS.out _ _ R (one_set _ PV) (by
      rw[bB.out,if_pos hc]
      refine⟨g3,rfl,bZ.keep (bZ.mono Fy.out (fun b _ d=>bz.out b d)) (fun b d C=>mO _ ⟨f.heap.size,0,none⟩ _ _ (fun e=>?_))⟩
      have e1:b=f.heap.size:=e
      have:=d.1
      have:=aK.out
      omega)))
     gi_wp2;exact HQ.out
    ·have R:Turns (fun b=>b=f.heap.size) X2 X4:=Turns.bg aU.out
     have HQ:=hid (And.intro (aP.out _ R) (aS.out _ _ R PV (by
      rw[bB.out,if_neg hc]
      exact⟨g0,rfl,bZ.keep Le.out (aH.below aU.out)⟩)))
     gi_wp2;exact HQ.out
  case hdone=>
   rintro D F xs X hD b6 Wk bE hk;rw[Q.out] at bE;obtain⟨bv,h1,T,h3,h4,h5⟩:=bE
   have he:uK (aM x) W xs=Cz.canon (aM x) W:=by
    rw[Wn.out,<-Wk];unfold uK;rw[alV];rfl
   obtain⟨v,hv⟩:∃v,Cz.canon (aM x) W=some v:=by
    rw[Wn.out];obtain⟨m,hm, -⟩:=Cz.Ap (l:=(Cz.lK (Cz.sorts (aM x) W) []).map (Cz.bN (aM x) W)) (by simp[Cz.all_some]);exact⟨m,hm⟩
   rw[he,hv] at T;obtain⟨g,rfl,hw⟩:=T;have bI:aY (fun b _=>b=D) f.heap.size X (X.putObj D (.deferred none)):=aY.putObj _ hk rfl (zxb I4.out.size hD)
   have HP:Hid (mM cc rr w (.returned (.tuple #[.slice (some ⟨g,0,none⟩) W.length W.length,.int .i64 0])) (X.putObj D (.deferred none))):=hid (by
    rw[ay.out,Fz.out]
    show mM 4 (Cz.canon (aM x) W) _ _ _
    rw[hv]
    refine⟨⟨_,_,_,rfl,bZ.mono (bZ.keep hw (fun b d C=>?_)) (fun b _ d=>zxb (zxb af.out.size I4.out.size) d.1)⟩,(bO af.out h4).trans (bI.1.mono af.out.size)⟩
    have wV:X.heap[b]?=some X.heap[b]:=zxi C
    rw[wV]
    exact bI.2 _ _ wV (fun e=>d.2 (by rw[e];exact b6)))
   have c1:=(one_cell h1).1;have sZ:=hid hk;go_wp2;exact Bw (v:=.tuple #[.slice (some ⟨g,0,none⟩) W.length W.length,.int .i64 0]) sZ.out (by simp[results,results9,go_sem]) HP.out
theorem U0(x:aC.cE)(c:aC.okB x=true)(o:aC.eT x)(d:∀k∈x.ah,k.aF.length<=20)(b:x.ah.length<=10)(W:aC.dw)(a:Cz.nH (aM x) W)(p:∀k,Cz.len W k<=1000)(q:aC.total W<=512)
  (f g h i:Option Addr)(j l m n tb:Nat)(w:World)(r:tu tb x W (.agg (sBx x f g h j l m)) (.slice i W.length n) w.heap.size w):
  CP 9 #[(.agg (sBx x f g h j l m)),.slice i W.length n] w (aaj (Cz.canon (aM x) W) w):=
 Ia x c o d b W true (by rw[a.lk,jc];exact b) (fun _=>a) p q f g h i j l m n tb w (fun e=>by cases e) r
def tQ:aC.dA:=⟨⟨#[105,100]⟩,aC.nil,aC.nil,0,0,0,[],[]⟩
def ahr:aC.dA:=⟨⟨#[97,103,101]⟩,aC.nil,aC.nil,2,0,9,[],[]⟩
def AY:aC.dA:=⟨⟨#[111,102]⟩,⟨#[112,101,114,115,111,110]⟩,aC.nil,1,0,9,[],[]⟩
def kPe:aC.fT:=⟨⟨#[112,101,114,115,111,110]⟩,0,9,[tQ,ahr]⟩
def kOr:aC.fT:=⟨⟨#[111,114,100,101,114]⟩,0,9,[tQ,AY]⟩
def xE:aC.cE:=⟨0,[kPe,kOr],[],[]⟩
theorem okE:aC.okB xE=true:=by kernel_rfl
theorem akW:aM xE=Cz.exK:=by kernel_rfl
theorem upE:aC.eT xE:=by
 intro k j b a c;have b:k<2:=b;have h:k=0\/k=1:=aD
 rcases h with rfl|rfl
 ·have a:j<2:=a
  have h:j=0\/j=1:=aD
  rcases h with rfl|rfl<;>exact absurd c iG
 ·have a:j<2:=a
  have h:j=0\/j=1:=aD
  rcases h with rfl|rfl
  ·exact absurd c iG
  ·exact of_decide_eq_true zK
def Mz(f:aC.dA):List Value:=[.string f.name,.string f.of,.string f.up,.int .i64 f.kind,.int .i64 f.lo,.int .i64 f.hi,.slice none 0 0,.slice none 0 0]
theorem aeZ{S:Nat->Prop}{w:World}{g:Nat}(f a:aC.dA)(b:f.cV=[])(c:f.bY=[])(d:a.cV=[])(e:a.bY=[])(h:w.heap[g]?=some (.cells (Mz f++Mz a).toArray 85 (0,0)))(i:S g):
  dx S w (.slice (some ⟨g,0,none⟩) 2 2) [f,a]:=
 FY (α:=aC.dA) (R:=lI S) (n:=8) [Mz f,Mz a] h rfl rfl (fun k h=>by simp at h;rcases h with rfl|rfl<;>rfl) bH i (fun j a1 l=>by
  match j,a1 with
  |0,_=>exact⟨_,_,rfl,by rw[show [f,a][0]=f from rfl,b];exact eA.nil _ _ _,by rw[show [f,a][0]=f from rfl,c];exact eA.nil _ _ _⟩
  |1,_=>exact⟨_,_,rfl,by rw[show [f,a][1]=a from rfl,d];exact eA.nil _ _ _,by rw[show [f,a][1]=a from rfl,e];exact eA.nil _ _ _⟩)
theorem schE{S:Nat->Prop}{w:World}{g g' h:Nat}(h1:w.heap[g]?=some (.cells (Mz tQ++Mz ahr).toArray 85 (0,0)))(h2:w.heap[g']?=some (.cells (Mz tQ++Mz AY).toArray 85 (0,0)))
  (a:w.heap[h]?=some (.cells #[.string ⟨#[112,101,114,115,111,110]⟩,.int .i64 0,.int .i64 9,.slice (some ⟨g,0,none⟩) 2 2,.string ⟨#[111,114,100,101,114]⟩,.int .i64 0,.int .i64 9,.slice (some ⟨g',0,none⟩) 2 2] 53 (0,0)))(b:S g)(c:S g')(d:S h):
  dO S w (.agg #[.int .i64 0,.slice (some ⟨h,0,none⟩) 2 2,.slice none 0 0,.slice none 0 0]) xE:=by
 have f1:=aeZ tQ ahr rfl rfl rfl rfl h1 b;have f2:=aeZ tQ AY rfl rfl rfl rfl h2 c
 have e:iC S w (.slice (some ⟨h,0,none⟩) 2 2) [kPe,kOr]:=
  FY (α:=aC.fT) (R:=Fj S) (n:=4) [[.string ⟨#[112,101,114,115,111,110]⟩,.int .i64 0,.int .i64 9,.slice (some ⟨g,0,none⟩) 2 2],[.string ⟨#[111,114,100,101,114]⟩,.int .i64 0,.int .i64 9,.slice (some ⟨g',0,none⟩) 2 2]] a rfl rfl (fun f h=>by simp at h;rcases h with rfl|rfl<;>rfl) bH d (fun j a1 i=>by
   match j,a1 with
   |0,_=>exact⟨_,rfl,f1⟩
   |1,_=>exact⟨_,rfl,f2⟩)
 exact⟨_,_,_,rfl,e,fC.nil _ _ _ _,fC.nil _ _ _ _⟩
theorem ahs{S:Nat->Prop}{w:World}{g0 g1 g2 g3 g4 g5 g6:Nat}(a b c d e f g h:Int)(h0:w.heap[g0]?=some (.cells #[.int .i64 a,.int .i64 b] 3 (0,0)))(h1:w.heap[g1]?=some (.cells #[.int .i64 c,.int .i64 d] 3 (0,0)))
  (h2:w.heap[g2]?=some (.cells #[.slice (some ⟨g0,0,none⟩) 2 2,.slice (some ⟨g1,0,none⟩) 2 2] 22 (0,0)))
  (s:w.heap[g3]?=some (.cells #[.int .i64 e,.int .i64 f] 3 (0,0)))(t:w.heap[g4]?=some (.cells #[.int .i64 g,.int .i64 h] 3 (0,0)))
  (u:w.heap[g5]?=some (.cells #[.slice (some ⟨g3,0,none⟩) 2 2,.slice (some ⟨g4,0,none⟩) 2 2] 22 (0,0)))
  (v:w.heap[g6]?=some (.cells #[.slice (some ⟨g2,0,none⟩) 2 2,.slice (some ⟨g5,0,none⟩) 2 2] 42 (0,0)))
  (s0:S g0)(x:S g1)(y:S g2)(z:S g3)(A:S g4)(B:S g5)(C:S g6):bK S w (.slice (some ⟨g6,0,none⟩) 2 2) [[[a,b],[c,d]],[[e,f],[g,h]]]:=by
 have one:∀(q:Nat) (n m:Int),w.heap[q]?=some (.cells #[.int .i64 n,.int .i64 m] 3 (0,0))->S q->bB S w (.slice (some ⟨q,0,none⟩) 2 2) [n,m]:=fun q n m h p=>
  zV (vs:=[.int .i64 n,.int .i64 m]) (xs:=[n,m]) h rfl rfl bH p (fun j a1 r=>by
   match j,a1 with
   |0,_=>rfl
   |1,_=>rfl)
 have two:∀(q i k:Nat) (l o:List Int),w.heap[q]?=some (.cells #[.slice (some ⟨i,0,none⟩) 2 2,.slice (some ⟨k,0,none⟩) 2 2] 22 (0,0))->S q->bB S w (.slice (some ⟨i,0,none⟩) 2 2) l->bB S w (.slice (some ⟨k,0,none⟩) 2 2) o->cG S w (.slice (some ⟨q,0,none⟩) 2 2) [l,o]:=fun q i k l o h p D i2=>
  zV (vs:=[.slice (some ⟨i,0,none⟩) 2 2,.slice (some ⟨k,0,none⟩) 2 2]) (xs:=[l,o]) h rfl rfl bH p (fun j a1 r=>by
   match j,a1 with
   |0,_=>exact D
   |1,_=>exact i2)
 refine zV (vs:=[.slice (some ⟨g2,0,none⟩) 2 2,.slice (some ⟨g5,0,none⟩) 2 2]) (xs:=[[[a,b],[c,d]],[[e,f],[g,h]]]) v rfl rfl bH C (fun j a1 r=>?_);match j,a1 with
 |0,_=>exact two _ _ _ _ _ h2 y (one _ _ _ h0 s0) (one _ _ _ h1 x)
 |1,_=>exact two _ _ _ _ _ u B (one _ _ _ s z) (one _ _ _ t A)
theorem ac0{w:World}{p:Nat}{x y z u v:Value}{a:Array Value}(h:w.heap[p]?=some (.cells #[x,y,z,u] 27 (0,0)))(b:a[0]?.getD undef=.pointer (some ⟨p,0,none⟩))(c:a[1]?.getD undef=v):
  (results Tryz.f34 a).run prog w=.ok (.tuple #[.agg #[x,y,z,u],v]) w:=by
 obtain⟨d,e,f,g⟩:=b4z h;simp[results,results34,go_sem,b,c,d,e,f,g]
def ExP(w:World)(e:Ending)(w':World):Prop:=∃h g,e=.returned (.tuple #[.agg #[.int .i64 0,.slice (some ⟨h,0,none⟩) 2 2,.slice none 0 0,.slice none 0 0],.slice (some ⟨g,0,none⟩) 2 2])/\
 dO (·<w'.heap.size) w' (.agg #[.int .i64 0,.slice (some ⟨h,0,none⟩) 2 2,.slice none 0 0,.slice none 0 0]) xE/\bK (·<w'.heap.size) w' (.slice (some ⟨g,0,none⟩) 2 2) Cz.exW/\BL w w'
theorem MB(w:World):CP 34 #[] w (ExP w):=by
 go_enter func34,ntmps34;go_wp2;refine bodyPost_ret (ac0 (p:=w.heap.size) WW rfl rfl) rfl ?_
 refine⟨_,_,rfl,schE (g:=w.heap.size+1) (g':=w.heap.size+1+1+1) WW WW WW bH bH bH,
  ahs 7 5 8 3 2 0 1 0 (g5:=w.heap.size+1+1+1+1+1+1+1+1+1+1+1) (g6:=w.heap.size+1+1+1+1+1+1+1+1+1+1+1+1) (g2:=w.heap.size+1+1+1+1+1+1+1+1) (g0:=w.heap.size+1+1+1+1+1+1) (g1:=w.heap.size+1+1+1+1+1+1+1) WW WW WW (g3:=w.heap.size+1+1+1+1+1+1+1+1+1) (g4:=w.heap.size+1+1+1+1+1+1+1+1+1+1) WW WW WW WW bH bH bH bH bH bH bH,
  by repeat (first|exact aG|refine Below.alloc ?_ J5 _)⟩
theorem tu.top{tb:Nat}{x:aC.cE}{W:aC.dw}{v u:Value}{B:Nat}{w:World}(h:tu tb x W v u B w):tu tb x W v u w.heap.size w where
 xk:=h.xk.mono (fun _ a _=>a)
 ze:=h.ze.mono (fun _ a _=>a)
 laid:=h.laid
 tab:=h.tab
 tbB:=oN h.tbB h.le
 size:=zxb h.size h.le
 le:=aL
theorem ac1:Cz.nH Cz.exK Cz.exU where
 lk:=rfl
 r k i a b:=by
  have a:k<2:=a;have h:k=0\/k=1:=aD
  rcases h with rfl|rfl<;>(have b:i<2:=b;have h:i=0\/i=1:=by omega)<;>rcases h with rfl|rfl<;>rfl
 ref k i f a b c hr:=by
  have a:k<2:=a;have h:k=0\/k=1:=aD
  rcases h with rfl|rfl
  ·have c:f<2:=c
   have h:f=0\/f=1:=aD
   rcases h with rfl|rfl<;>exact absurd hr iG
  ·have c:f<2:=c
   have h:f=0\/f=1:=aD
   rcases h with rfl|rfl
   ·exact absurd hr iG
   ·have b:i<2:=b
    have h:i=0\/i=1:=aD
    rcases h with rfl|rfl<;>exact⟨iG,iG,iG⟩
 code:=Cz.RN.code
theorem Et(W:Cz.Wd)(b:W.length=2)(a:Cz.nH Cz.exK W)(c:∀k,Cz.len W k<=1000)(d:aC.total W<=512)(h g:Nat)(tb:Nat)(w:World)
  (e:tu tb xE W (.agg #[.int .i64 0,.slice (some ⟨h,0,none⟩) 2 2,.slice none 0 0,.slice none 0 0]) (.slice (some ⟨g,0,none⟩) 2 2) w.heap.size w):
  CP 9 #[.agg #[.int .i64 0,.slice (some ⟨h,0,none⟩) 2 2,.slice none 0 0,.slice none 0 0],.slice (some ⟨g,0,none⟩) 2 2] w (aaj (Cz.canon Cz.exK W) w):=by
 have:=U0 xE okE upE iG iG W (by rw[akW];exact a) c d (some ⟨h,0,none⟩) none none (some ⟨g,0,none⟩) 2 0 0 2 tb w (by rw[b];exact e);rw[akW,b] at this;exact this
theorem akX(a b:List (List Int))(h0:a.length<=2)(h1:b.length<=2):∀k,Cz.len [a,b] k<=1000:=by
 intro k;unfold Cz.len;match k with
 |0=>show a.length<=1000;omega
 |1=>show b.length<=1000;omega
 |k+2=>simp
theorem PW(tb:Nat)(w:World)(a:LaidW w)(c:TabC tb w):
  CB 11 #[] w (.bool true):=by
 have v:=hid a;have x:=hid c;clear a c;go_enter func11,ntmps11;go_wp2_with fail;refine(MB w).mono ?_;rintro e w1 ⟨h,g,rfl,L,M,n⟩;obtain⟨w2,hw2⟩:=bJ (w1.alloc (.cells #[.int .i64 0,.slice (some ⟨h,0,none⟩) 2 2,.slice none 0 0,.slice none 0 0] 27));have b:BL w1 w2:=Ii
 have d:w2.heap[w1.heap.size]?=some (.cells #[.int .i64 0,.slice (some ⟨h,0,none⟩) 2 2,.slice none 0 0,.slice none 0 0] 27 (0,0)):=WH
 have k:BL w w2:=bO n b
 have l:Hid (tu tb xE Cz.exW (.agg #[.int .i64 0,.slice (some ⟨h,0,none⟩) 2 2,.slice none 0 0,.slice none 0 0]) (.slice (some ⟨g,0,none⟩) 2 2) w2.heap.size w2):=hid
  {xk:=(L.keep (aH.below b)).mono (fun _ y _=>y)
   ze:=(M.keep (aH.below b)).mono (fun _ y _=>y)
   laid:=v.out.next k
   tab:=x.out.below k x.out.lt (by have:=v.out.size;omega)
   tbB:=oN x.out.lt k.size
   size:=zxb v.out.size k.size
   le:=aL}
 have N:=hid (fun X (f:BL w2 X)=>Et Cz.exW rfl Cz.RN (akX _ _ iG iG) iG h g tb X (l.out.next f).top);have O:=hid d;have V:=hid k;have z:=hid hw2;obtain⟨A,B,C,D⟩:=b4z d;clear L M n hw2 b d k;go_upto_region 2 with fail;rw[<-z.out];go_wp2_with fail;refine(N.out w2 aG).mono ?_;rintro e w3 ⟨P,o⟩;rw[Cz.ajZ] at P;obtain⟨W,Y,Z,rfl,Q⟩:=P;have m:=hid o;have HV:=hid (cM.sl Q);clear o Q A B C D;obtain⟨w4,u⟩:=bJ (((((((w3.alloc (.cells #[.int .i64 1,.int .i64 3] 3)).alloc (.cells #[.int .i64 2,.int .i64 5] 3)).alloc (.cells #[.slice (some ⟨w3.heap.size,0,none⟩) 2 2,.slice (some ⟨w3.heap.size+1,0,none⟩) 2 2] 22)).alloc (.cells #[.int .i64 9,.int .i64 1] 3)).alloc (.cells #[.int .i64 8,.int .i64 1] 3)).alloc (.cells #[.slice (some ⟨w3.heap.size+1+1+1,0,none⟩) 2 2,.slice (some ⟨w3.heap.size+1+1+1+1,0,none⟩) 2 2] 22)).alloc (.cells #[.slice (some ⟨w3.heap.size+1+1,0,none⟩) 2 2,.slice (some ⟨w3.heap.size+1+1+1+1+1,0,none⟩) 2 2] 42));have p:BL w3 w4:=by rw[u];repeat (first|exact aG|refine Below.alloc ?_ J5 _)
 have q:bK (·<w4.heap.size) w4 (.slice (some ⟨w3.heap.size+1+1+1+1+1+1,0,none⟩) 2 2) Cz.exU:=by
  rw[u];exact ahs 1 3 2 5 9 1 8 1 (g5:=w3.heap.size+1+1+1+1+1) (g6:=w3.heap.size+1+1+1+1+1+1) (g2:=w3.heap.size+1+1) (g0:=w3.heap.size) (g1:=w3.heap.size+1) Qp Qp Qp (g3:=w3.heap.size+1+1+1) (g4:=w3.heap.size+1+1+1+1) Qp Qp Qp Qp J5 J5 J5 J5 J5 J5 J5
 have E:=hid u;have F:=hid q;have i:=hid p;clear u q p
 have G:=hid (fun X (f:BL w4 X)=>Et Cz.exU rfl ac1 (akX _ _ iG iG) iG h (w3.heap.size+1+1+1+1+1+1) tb X (tu.next (w:=w4)
  {xk:=(l.out.next (bO m.out i.out)).top.xk
   ze:=F.out
   laid:=(l.out.next (bO m.out i.out)).laid
   tab:=(l.out.next (bO m.out i.out)).tab
   tbB:=(l.out.next (bO m.out i.out)).top.tbB
   size:=(l.out.next (bO m.out i.out)).top.size
   le:=aL} f).top)
 go_upto_region 4 with fail;rw[<-E.out];obtain⟨w5,RW⟩:=bJ (((((((w4.alloc (.cells #[.int .i64 0,.int .i64 3] 3)).alloc (.cells #[.int .i64 0,.int .i64 5] 3)).alloc (.cells #[.slice (some ⟨w4.heap.size,0,none⟩) 2 2,.slice (some ⟨w4.heap.size+1,0,none⟩) 2 2] 22)).alloc (.cells #[.int .i64 0,.int .i64 1] 3)).alloc (.cells #[.int .i64 0,.int .i64 1] 3)).alloc (.cells #[.slice (some ⟨w4.heap.size+1+1+1,0,none⟩) 2 2,.slice (some ⟨w4.heap.size+1+1+1+1,0,none⟩) 2 2] 22)).alloc (.cells #[.slice (some ⟨w4.heap.size+1+1,0,none⟩) 2 2,.slice (some ⟨w4.heap.size+1+1+1+1+1,0,none⟩) 2 2] 42));have r:BL w4 w5:=by rw[RW];repeat (first|exact aG|refine Below.alloc ?_ J5 _)
 have s:bK (·<w5.heap.size) w5 (.slice (some ⟨w4.heap.size+1+1+1+1+1+1,0,none⟩) 2 2) Cz.exV:=by
  rw[RW];exact ahs 0 3 0 5 0 1 0 1 (g5:=w4.heap.size+1+1+1+1+1) (g6:=w4.heap.size+1+1+1+1+1+1) (g2:=w4.heap.size+1+1) (g0:=w4.heap.size) (g1:=w4.heap.size+1) Qp Qp Qp (g3:=w4.heap.size+1+1+1) (g4:=w4.heap.size+1+1+1+1) Qp Qp Qp Qp J5 J5 J5 J5 J5 J5 J5
 have H:=hid RW;have I:=hid s;have t:=hid r;clear RW s r;have iH:=aR i t.out;have R:=hid (FO Cz.exV (.slice W Y Z) (.slice (some ⟨w4.heap.size+1+1+1+1+1+1,0,none⟩) 2 2) _ _ w5 (HV.out.keep (aH.below iH.out)) I.out);go_wp2_with fail;rw[<-H.out];refine R.out.mono ?_;rintro e w6 ⟨rfl,S⟩;have T:=aR t S;have j:=hid (bO m.out (bO i.out T.out))
 have J4:=hid (Ef (some Cz.exV) (some Cz.exV) 0 (some ⟨h,0,none⟩) none none (some ⟨g,0,none⟩) (some ⟨w3.heap.size+1+1+1+1+1+1,0,none⟩) 2 2 0 0 0 0 2 2 2 2 w6
  (fun X f=>by
   have:=N.out X (bO j.out f);rwa [Cz.ajZ] at this)
  (fun X f=>by
   have:=G.out X (bO T.out f);rwa [Cz.ex_u] at this) iG iG)
 obtain⟨A,B,C,D⟩:=b4z ((j.out.block _ (aI O.out)).trans O.out);have I5:=aR V j.out;clear S R;go_wp2_with fail;refine J4.out.mono ?_;rintro e w7 ⟨rfl,U⟩;have J:=aR I5 U;have K:Hl (some Cz.exV) (some Cz.exV)=true:=iG
 clear U A B C D;rw[K];go_wp2;go_ret;exact⟨rfl,J.out⟩
theorem PX{w v:Cz.Wd}(h1:v.length=w.length)(h2:∀k,k<w.length->Cz.len v k=Cz.len w k):Cz.total v=Cz.total w:=by
 unfold Cz.total;rw[Cz.kO v [],Cz.kO w [],h1,alV,alV];congr 1;refine zxq fun k hk=>?_;exact h2 k abo
theorem PY{W:Cz.Wd}(k i f:Nat)(y:Int):Cz.total (Cz.lM W k i f y)=Cz.total W:=
 PX (by unfold Cz.lM;simp) (fun j _=>Cz.mh W k i f y j)
theorem RX{W:aC.dw}{k i:Nat}(a:k<W.length)(b:i<W[k].length)(f:Nat)(y:Int):Cz.lM W k i f y=W.set k (W[k].set i (W[k][i].set f y)):=by
 unfold Cz.lM Cz.row;rw[Cz.bh a,Cz.bh b]
theorem xY{S:Nat->Prop}{X:World}{v:Value}{W:aC.dw}(h:cM S X v W){k i:Nat}(w:k<W.length)(x:i<W[k].length)(D:0<W[k][i].length):
  ∃go o gk p a q,v=.slice (some ⟨go,0,none⟩) W.length o/\(X.cell? ⟨go,k,none⟩=some (.slice (some ⟨gk,0,none⟩) W[k].length p)/\X.cell? ⟨gk,i,none⟩=some (.slice (some ⟨a,0,none⟩) W[k][i].length q)/\
   (∀j (hj:j<W[k][i].length),X.cell? ⟨a,j,none⟩=some (.int .i64 W[k][i][j])/\X.frozen? ⟨a,j,none⟩=false))/\
   (∀g,aH S X g->∀j,j<W[k][i].length->∀y,cM S (g.setCell ⟨a,j,none⟩ (.int .i64 y)) v (Cz.lM W k i j y))/\S a/\S go/\S gk/\go<X.heap.size/\gk<X.heap.size/\a<X.heap.size:=by
 obtain⟨u,P,go,o,E,z,F,l,Q,G,H⟩:=jv.inner cW h w;obtain⟨u2,A,gk,p,I,B,m,r,R,J,K⟩:=jv.inner aW F x;obtain⟨a,q,n,p1,p2,p3,p4⟩:=gU m.1 D;have d:A a:=m.2 a (by rw[n];rfl);refine⟨go,o,gk,p,a,q,E,⟨by rw[z,I],by rw[B,n],fun j hj=>?_⟩,fun g s j hj y=>?_,l _ (r _ d),G,l _ J,kK X ⟨go,k,none⟩ z,kK X ⟨gk,i,none⟩ B,(m.1.lt a (by rw[n];rfl)).2⟩
 ·obtain⟨a1,L⟩:=p4 j BI
  exact⟨by rw[a1];simp,L⟩
 ·have M:bp A (g.setCell ⟨a,j,none⟩ (.int .i64 y)) u2 (W[k][i].set j y):=by
   have C:=aW.keep m (fun b f c=>s b (l _ (r _ f)) c)
   rw[n] at C ⊢
   exact bp.set C rfl j y
  have N:=K _ _ M (fun b f c=>(mO _ _ _ _ (fun e=>f.2 (by have t:b=a:=e;rw[t];exact d))).trans (s b (l _ f.1) c));have O:=H _ _ N (fun b f c=>(mO _ _ _ _ (fun e=>f.2 (by have t:b=a:=e;rw[t];exact r _ d))).trans (s b f.1 c));rw[RX w x];exact O
end Go.Proofs.YtohddpbgflgiaaaGreatDoor
namespace Go.Proofs.YtohddpbgflgiaaaGreatDoor.Cz
theorem MC(x:Int):∀(l:Row) (c:Int->Nat),eO c (l++[x])=eO c l*(c x+l.count x+1):=by
 intro l;induction l with
 |nil=>intro c;simp[eO]
 |cons y t ih=>
  intro c
  simp only[List.cons_append,eO]
  rw[ih,Nat.mul_assoc]
  congr 2
  by_cases e:x=y
  ·subst e
   rw[if_pos rfl,List.count_cons_self];omega
  ·rw[if_neg e,List.count_cons_of_ne (Ne.symm e)]
theorem PZ(x:Int)(l:Row):eO (fun _=>0) (x::l)=(l.count x+1)*eO (fun _=>0) l:=by
 have h:(x::l).Perm (l++[x]):=(List.perm_append_comm (l₁:=[x]) (l₂:=l));rw[xS h,MC,Nat.mul_comm];simp
theorem U2{α:Type}(n:Nat):∀l:List α,(l.map fun _=>n).sum=l.length*n:=by
 intro l;induction l with
 |nil=>simp
 |cons a l ih=>simp only[zxt,List.sum_cons,ih,zxg];rw[Nat.add_mul,Nat.one_mul];omega
theorem count_filter(l:Row)(v:Int):l.count v=((List.range l.length).filter fun i=>decide (l.getD i 0=v)).length:=by
 conv=>lhs;rw[<-eY l 0]
 rw[List.count_eq_countP,List.countP_map,List.countP_eq_length_filter];congr 2
theorem ac2{l c:Row}(k:c.Perm l)(p:List Nat)(g:p.length<c.length)(m:p.Nodup)(n:∀i∈p,i<l.length)(o:∀j,j<p.length->l.getD (p.getD j 0) 0=c.getD j 0):
  ((List.range l.length).filter (fun i=>decide (i∉p/\l.getD i 0=c.getD p.length 0))).length=(c.drop (p.length+1)).count c[p.length]+1:=by
 have q:c.getD p.length 0=c[p.length]:=bh g
 have r:((List.range l.length).filter fun i=>decide (l.getD i 0=c[p.length])).Perm
   ((List.range l.length).filter (fun i=>decide (i∉p/\l.getD i 0=c.getD p.length 0))++p.filter fun i=>decide (l.getD i 0=c[p.length])):=by
  rw[List.perm_ext_iff_of_nodup (List.nodup_range.filter _) (by
   rw[List.nodup_append]
   refine⟨List.nodup_range.filter _,m.filter _,fun a s b t e=>?_⟩
   subst e
   have f:=(List.mem_filter.1 s).2
   simp only[oW] at f
   exact f.1 (List.mem_filter.1 t).1)]
  intro i;rw[zxx,List.mem_filter,List.mem_filter,List.mem_filter,List.mem_range,q];simp only[oW];constructor
  ·rintro ⟨f,d⟩
   by_cases h:i∈p
   ·exact .inr ⟨h,d⟩
   ·exact .inl ⟨f,h,d⟩
  ·rintro (⟨f, -,d⟩|⟨f,d⟩)
   ·exact⟨f,d⟩
   ·exact⟨n i f,d⟩
 have u:=r.length_eq;rw[rK,<-count_filter,<-k.count_eq] at u
 have w:(p.filter fun i=>decide (l.getD i 0=c[p.length])).length=(c.take p.length).count c[p.length]:=by
  have e:c.take p.length=p.map fun i=>l.getD i 0:=by
   apply alW jo;intro j f d;rw[sM] at d;have:=o j d;rw[bh d,bh (show j<c.length by omega)] at this;simp only[List.getElem_take,zxo];exact this.symm
  rw[e,List.count_eq_countP,List.countP_map,List.countP_eq_length_filter];congr 2
 have v:c.count c[p.length]=(c.take p.length).count c[p.length]+(c.drop p.length).count c[p.length]:=by
  rw[<-List.count_append,List.take_append_drop]
 rw[zxe g,List.count_cons_self] at v;omega
theorem ME{l c:Row}(r:c.Perm l):∀(n:Nat) (p:List Nat),p.length+n=c.length->p.Nodup->(∀i∈p,i<l.length)->(∀j,j<p.length->l.getD (p.getD j 0) 0=c.getD j 0)->
  (l9 l c n p).length=eO (fun _=>0) (c.drop p.length):=by
 intro n;induction n with
 |zero=>
  intro p s _ _ _
  rw[List.drop_eq_nil_of_le aD]
  rfl
 |succ n ih=>
  intro p s k m o
  have f:p.length<c.length:=aD
  have x:c.getD p.length 0=c[p.length]:=bh f
  simp only[l9,List.length_flatMap]
  have t:∀i∈(List.range l.length).filter (fun i=>decide (i∉p/\l.getD i 0=c.getD p.length 0)),(l9 l c n (p++[i])).length=eO (fun _=>0) (c.drop (p.length+1)):=by
   intro i u;obtain⟨v,g⟩:=List.mem_filter.1 u;simp only[oW] at g
   have:=ih (p++[i]) jo (by
    rw[List.nodup_append]
    exact⟨k,bH,fun a w b q=>by rw[nL] at q;subst q;exact fun e=>g.1 (e▸w)⟩) (fun j d=>by
    rcases zxx.1 d with d|d
    ·exact m j d
    ·rw[nL] at d;subst d;simpa using v) (fun j d=>by
    rw[rK,List.length_singleton] at d;by_cases h:j<p.length
    ·have:=o j h
     have e:(p++[i]).getD j 0=p.getD j 0:=by simp[iY,List.getElem?_append_left h]
     rw[e];exact this
    ·obtain rfl:j=p.length:=by omega
     have:(p++[i]).getD p.length 0=i:=by simp[iY]
     rw[this];exact g.2)
   rw[this];simp
  rw[zxq t,U2,zxe f,PZ]
  congr 1
  exact ac2 r p f k m o
theorem sH(l:Row):(orders l).length=eO (fun _=>0) l:=by
 unfold orders;have a:(eU dB l).Perm l:=fZ;rw[ME a l.length [] (by simpa using a.length_eq.symm) bH bH bH,List.length_nil,jH,xS a]
end Go.Proofs.YtohddpbgflgiaaaGreatDoor.Cz
namespace Go.Proofs.YtohddpbgflgiaaaGreatDoor.Cz
def uL{α:Type}[DecidableEq α](a:List α)(d:α)(k:Nat):Bool:=(List.range k).all fun j=> !decide (a.getD j d=a.getD k d)
theorem MF{α:Type}[DecidableEq α]{a:List α}{d:α}{k:Nat}:uL a d k=true↔∀j,j<k->a.getD j d≠a.getD k d:=by
 simp[uL]
theorem Ev{α:Type}[DecidableEq α]{c:α->α->Int}(m:Cb c)(e:List α)(d:α):
  (((List.range e.length).filter (uL e d)).map fun k=>e.getD k d).Perm (dU c e):=by
 rw[List.perm_ext_iff_of_nodup ?_ (r9 m e)]
 ·intro x
  rw[amM m,List.mem_map];constructor
  ·rintro ⟨k,o,rfl⟩
   have f:=(List.mem_filter.1 o).1;rw[List.mem_range] at f;rw[bh f];exact eV f
  ·intro hx
   obtain⟨j,hj,rfl⟩:=zxf hx
   have key:∀n j,j<=n->(hj:j<e.length)->∃k,k∈(List.range e.length).filter (uL e d)/\e.getD k d=e[j]:=by
    intro n;induction n with
    |zero=>
     intro j p hj
     obtain rfl:j=0:=aD
     exact⟨0,List.mem_filter.2 ⟨BI,by simp[uL]⟩,bh hj⟩
    |succ n ih=>
     intro j p hj
     by_cases h:uL e d j=true
     ·exact⟨j,List.mem_filter.2 ⟨BI,h⟩,bh hj⟩
     ·rw[MF] at h
      obtain⟨i,q⟩:=Classical.not_forall.1 h;obtain⟨r,g⟩:=Classical.not_imp.1 q;have g:=Classical.not_not.1 g;obtain⟨k,f,s⟩:=ih i aD aD;rw[bh hj,bh (show i<e.length by omega)] at g;exact⟨k,f,s.trans g⟩
   exact key j j aL hj
 ·rw[List.nodup_iff_pairwise_ne,List.pairwise_map]
  have t:((List.range e.length).filter (uL e d)).Pairwise (·<·):=List.pairwise_lt_range.filter _;refine List.Pairwise.imp_of_mem (fun {a b} v u l=>?_) t;exact MF.1 (List.mem_filter.1 u).2 a l
theorem U3{α:Type}[DecidableEq α]{c:α->α->Int}(b:Cb c)(a:List α)(d:α):((List.range a.length).filter (uL a d)).length=(dU c a).length:=by
 rw[<-(Ev b a d).length_eq,sM]
theorem Av{α:Type}{c:α->α->Int}(d:Cb c)(x:α):∀s:List α,s.Pairwise (c · ·<0)->s.takeWhile (fun y=>decide (c y x<0))=s.filter (fun y=>decide (c y x<0)):=by
 intro s;induction s with
 |nil=>intro _;rfl
 |cons y s ih=>
  intro h
  obtain⟨e,f⟩:=List.pairwise_cons.1 h
  by_cases a:c y x<0
  ·rw[List.takeWhile_cons_of_pos (by simpa using a),List.filter_cons_of_pos (by simpa using a),ih f]
  ·rw[List.takeWhile_cons_of_neg (by simpa using a),List.filter_cons_of_neg (by simpa using a)]
   symm;rw[List.filter_eq_nil_iff];intro z g b;simp only[oW] at b;exact a (d.trans _ _ _ (e z g) b)
def uM(a:List Row)(l:Row)(m:Nat):Nat:=((List.range m).filter fun k=>decide (di (a.getD k []) l<0)&&uL a [] k).length
theorem MG(a:List Row)(l:Row)(m:Nat):uM a l (m+1)=uM a l m+if (decide (di (a.getD m []) l<0)&&uL a [] m)=true then 1 else 0:=by
 unfold uM;rw[zxs,alX,rK];congr 1;by_cases h:(decide (di (a.getD m []) l<0)&&uL a [] m)=true
 ·rw[if_pos h,List.filter_cons,List.filter_nil];simp only[h];rfl
 ·rw[if_neg h,List.filter_cons,List.filter_nil];simp only[h];rfl
theorem P4(a:List Row)(l:Row):(uM a l a.length:Int)=rk a l:=by
 unfold rk pos uM;rw[Av dQ l _ (iP dQ)];have h:=((Ev dQ a []).filter (fun y=>decide (di y l<0))).length_eq;rw[<-h,List.filter_map,sM,List.filter_filter];rfl
end Go.Proofs.YtohddpbgflgiaaaGreatDoor.Cz
namespace Go.Proofs.YtohddpbgflgiaaaGreatDoor
theorem pN{α b c:Type}(l:List α)(f:α->List b)(p:b->Bool)(g:b->c):((l.flatMap f).filter p).map g=l.flatMap fun a=>((f a).filter p).map g:=by
 induction l with
 |nil=>rfl
 |cons a l ih=>rw[alZ,alZ,alX,zxj,ih]
theorem JF{c:Type}(h:Nat->List c)(k:Nat):∀n,k<n->(∀j,j<n->j≠k->h j=[])->(List.range n).flatMap h=h k:=by
 intro n;induction n with
 |zero=>intro d;omega
 |succ n ih=>
  intro d a
  rw[zxs,List.flatMap_append,alZ,List.flatMap_nil,zxp]
  by_cases e:k=n
  ·subst e
   have:(List.range k).flatMap h=[]:=by
    rw[List.flatMap_eq_nil_iff];intro j b;rw[List.mem_range] at b;exact a j aD aD
   rw[this,List.nil_append]
  ·rw[ih aD (fun j b=>a j aD),a n aD (fun h=>e h.symm),zxp]
theorem Ib{x:aC.cE}(d:aC.eT x):bU.fS x=(List.range x.ah.length).flatMap fun(k:Nat)=>
  ((List.range (aC.kd x k).aF.length).filter (fun f=>decide (0<=Cz.fk (aM x) k f))).map fun f=>(⟨k,f,Cz.fk (aM x) k f,(aC.fd x k f).lo⟩:bU.Ref):=by
 unfold bU.fS bU.oh;refine Cz.kN fun k c=>?_;rw[List.mem_range] at c;unfold bU.kA
 have key:∀n,n<=(aC.kd x k).aF.length->(List.range n).flatMap (bU.yO x k)=((List.range n).filter (fun f=>decide (0<=Cz.fk (aM x) k f))).map fun f=>(⟨k,f,Cz.fk (aM x) k f,(aC.fd x k f).lo⟩:bU.Ref):=by
  intro n;induction n with
  |zero=>intro _;rfl
  |succ n ih=>
   intro h
   rw[zxs,List.flatMap_append,ih aD,alX,zxj,alZ,List.flatMap_nil,zxp]
   congr 1
   have e:=mg x c (show n<(aC.kd x k).aF.length by omega)
   unfold bU.yO
   by_cases a:(aC.fd x k n).kind=1
   ·have b:Cz.fk (aM x) k n=aC.eD x k n:=by rw[e];unfold iE;rw[if_neg aD,if_pos a]
    have g:0<=aC.eD x k n:=d k n c aD a;rw[if_pos a,List.filter_cons,List.filter_nil];rw[if_pos (by rw[b];exact decide_eq_true g),zxt,List.map_nil,b]
   ·have b:¬0<=Cz.fk (aM x) k n:=by
     rw[e];unfold iE
     split
     ·omega
     ·first|omega|(rw[if_neg a];omega)
    rw[if_neg a,List.filter_cons,List.filter_nil,if_neg (by simpa using b)];rfl
 exact key _ aL
theorem aaC{x:aC.cE}(b:aC.eT x){k:Nat}(a:k<x.ah.length){c:Type}(g:Nat->Int->c):
  ((bU.fS x).filter (fun r=>decide (r.kind=k))).map (fun r=>g r.field r.up)=((List.range ((aM x).getD k []).length).filter (fun f=>decide (0<=Cz.fk (aM x) k f))).map fun f=>g f (Cz.fk (aM x) k f):=by
 rw[Ib b,pN,JF _ k _ a,dJ x a]
 ·rw[List.filter_map,alV]
  have:(fun r:bU.Ref=>decide (r.kind=k)) ∘ (fun f=>(⟨k,f,Cz.fk (aM x) k f,(aC.fd x k f).lo⟩:bU.Ref))=fun _=>true:=by funext f;simp
  rw[this,List.filter_eq_self.2 (fun _ _=>rfl)];rfl
 ·intro j _ d
  rw[List.filter_map];have:(fun r:bU.Ref=>decide (r.kind=k)) ∘ (fun f=>(⟨j,f,Cz.fk (aM x) j f,(aC.fd x j f).lo⟩:bU.Ref))=fun _=>false:=by funext f;simp[d]
  rw[this,List.filter_eq_nil_iff.2 (fun _ _=>by simp)];rfl
theorem U4{x:aC.cE}(b:aC.eT x)(k:Nat){c:Type}(g:Nat->Nat->c):
  ((bU.fS x).filter (fun r=>decide (r.up=(k:Int)))).map (fun r=>g r.kind r.field)=(Cz.jh (aM x) k).map fun p=>g p.1 p.2:=by
 rw[Ib b,pN];unfold Cz.jh;rw[List.map_flatMap,jc];refine Cz.kN fun j a=>?_;rw[List.mem_range] at a;rw[List.filter_map,alV,alV,List.filter_filter,dJ x a]
 have:(fun f=>(((fun r:bU.Ref=>decide (r.up=(k:Int))) ∘ fun f=>(⟨j,f,Cz.fk (aM x) j f,(aC.fd x j f).lo⟩:bU.Ref)) f&&decide (0<=Cz.fk (aM x) j f)))=fun f=>decide (Cz.fk (aM x) j f=(k:Int)):=by
  funext f;simp only[Function.comp];by_cases h:Cz.fk (aM x) j f=(k:Int)
  ·have d:0<=Cz.fk (aM x) j f:=by omega
   simp[h]
  ·simp[h]
 rw[this];rfl
end Go.Proofs.YtohddpbgflgiaaaGreatDoor
namespace Go.Proofs.YtohddpbgflgiaaaGreatDoor.Cz
def ext(l:Row)(v:Int)(o:List Nat):List (List Nat):=((List.range l.length).filter (fun i=>decide (i∉o/\l.getD i 0=v))).map fun i=>o++[i]
def ji(l:Row)(v:Int):List (List Nat)->List (List Nat)->List (List Nat)
 |[],nx=>nx
 |o::out,nx=>if nx.length<=5000 then ji l v out (nx++ext l v o) else nx
def V8(l:Row):List Int->List (List Nat)->List (List Nat)
 |[],out=>out
 |v::w,out=>V8 l w (ji l v out [])
def kE(l:Row):List (List Nat):=V8 l (eU dB l) [[]]
theorem aaD(l:Row)(v:Int):∀(out nx:List (List Nat)),(nx++out.flatMap (ext l v)).length<=5000->ji l v out nx=nx++out.flatMap (ext l v):=by
 intro out;induction out with
 |nil=>intro nx _;simp[ji]
 |cons o out ih=>
  intro nx h
  rw[alZ,<-zxm] at h ⊢
  unfold ji
  rw[if_pos (by rw[rK,rK] at h;omega)]
  exact ih _ h
theorem U5(l:Row)(v:Int):∀(out nx:List (List Nat)),5000<(nx++out.flatMap (ext l v)).length->5000<(ji l v out nx).length:=by
 intro out;induction out with
 |nil=>intro nx h;simpa [ji] using h
 |cons o out ih=>
  intro nx h
  rw[alZ,<-zxm] at h
  unfold ji
  split
  ·exact ih _ h
  ·omega
theorem U6(l:Row)(v:Int){a:List Nat}:∀(out nx:List (List Nat)),a∈ji l v out nx->a∈nx\/∃o∈out,a∈ext l v o:=by
 intro out;induction out with
 |nil=>intro nx h;exact .inl h
 |cons o out ih=>
  intro nx h
  unfold ji at h
  split at h
  ·rcases ih _ h with h|⟨q,b,c⟩
   ·rcases zxx.1 h with h|h
    ·exact .inl h
    ·exact .inr ⟨o,bH,h⟩
   ·exact .inr ⟨q,by simp[b],c⟩
  ·exact .inl h
structure Beg(l want:Row)(m:Nat)(o:List Nat):Prop where
 len:o.length=m
 nodup:o.Nodup
 lt:∀i∈o,i<l.length
 val:∀j,j<m->l.getD (o.getD j 0) 0=want.getD j 0
theorem Beg.ext{l c:Row}{m:Nat}{o g:List Nat}(h:Beg l c m o)(hx:g∈ext l (c.getD m 0) o):Beg l c (m+1) g:=by
 obtain⟨i,p,rfl⟩:=List.mem_map.1 hx;obtain⟨q,f⟩:=List.mem_filter.1 p;simp only[oW] at f;refine⟨by simp[h.len],?_,fun j d=>?_,fun j d=>?_⟩
 ·rw[List.nodup_append]
  exact⟨h.nodup,bH,fun a r b k=>by rw[nL] at k;subst k;exact fun e=>f.1 (e▸r)⟩
 ·rcases zxx.1 d with d|d
  ·exact h.lt j d
  ·rw[nL] at d;subst d;simpa using q
 ·by_cases n:j<m
  ·have e:(o++[i]).getD j 0=o.getD j 0:=by simp[iY,List.getElem?_append_left (show j<o.length by rw[h.len];exact n)]
   rw[e];exact h.val j n
  ·obtain rfl:j=m:=by omega
   have:(o++[i]).getD j 0=i:=by rw[<-h.len];simp[iY]
   rw[this];exact f.2
theorem sI:∀(l:Row) (c:Int->Nat),0<eO c l:=by
 intro l;induction l with
 |nil=>intro c;simp[eO]
 |cons x t ih=>intro c;exact Nat.mul_pos aD (ih _)
theorem Ew{α c:Type}{f:α->List c}:∀{l:List α},(∀a∈l,0<(f a).length)->l.length<=(l.flatMap f).length:=by
 intro l;induction l with
 |nil=>intro _;simp
 |cons a l ih=>
  intro h
  have e:=h a bH
  have g:=ih fun b d=>h b (by simp[d])
  rw[alZ,rK,zxg]
  omega
theorem aaE(l a:Row)(n:Nat)(o:List Nat):l9 l a (n+1) o=(ext l (a.getD o.length 0) o).flatMap (l9 l a n):=by
 unfold ext;rw[List.flatMap_map];rfl
theorem anc(h:p:=by
  intro l
  induction l with
  |nil=>rfl
  |cons o l ih=>rw[alZ,ih];rfl):p:=h
theorem ac3{l a:Row}(s:a.Perm l):∀(w:List Int) (m:Nat) (out:List (List Nat)),a.drop m=w->m+w.length=a.length->(∀o∈out,Beg l a m o)->
  ((out.flatMap (l9 l a w.length)).length<=5000->V8 l w out=out.flatMap (l9 l a w.length))/\(5000<(out.flatMap (l9 l a w.length)).length->5000<(V8 l w out).length):=by
 intro w;induction w with
 |nil=>
  intro m out _ _ _
  have e:out.flatMap (l9 l a ([]:List Int).length)=out:=by
   show out.flatMap (fun o=>[o])=out
   have key:∀l:List (List Nat),l.flatMap (fun o=>[o])=l:=by
    exact anc
   exact key out
  rw[e]
  exact⟨fun _=>rfl,fun h=>h⟩
 |cons v w ih=>
  intro m out hd t g
  rw[zxg] at t
  have p:m<a.length:=aD
  rw[zxe p] at hd
  injection hd with d hd
  have d:a.getD m 0=v:=by rw[bh p];exact d
  have c:∀o,Beg l a (m+1) o->0<(l9 l a w.length o).length:=by
   intro o b;rw[ME s w.length o (by rw[b.len];omega) b.nodup b.lt (fun j u=>b.val j (by rw[<-b.len];exact u))];exact sI _ _
  have e:out.flatMap (l9 l a (v::w).length)=(out.flatMap (ext l v)).flatMap (l9 l a w.length):=by
   rw[List.flatMap_assoc];refine kN fun o b=>?_;rw[zxg,aaE,(g o b).len,d]
  rw[e]
  have r:∀o∈ji l v out [],Beg l a (m+1) o:=by
   intro o b;rcases U6 l v out [] b with h|⟨q,i,f⟩
   ·simp at h
   ·exact(g q i).ext (by rw[d];exact f)
  have k:=ih (m+1) (ji l v out []) hd aD r
  unfold V8
  by_cases x:(out.flatMap (ext l v)).length<=5000
  ·have h:=aaD l v out [] (by simpa using x)
   rw[List.nil_append] at h;rw[h] at k ⊢;exact k
  ·have n:5000<(out.flatMap (ext l v)).length:=by omega
   have h:=U5 l v out [] (by simpa using n)
   have f:(out.flatMap (ext l v)).length<=((out.flatMap (ext l v)).flatMap (l9 l a w.length)).length:=Ew fun o b=>by
    obtain⟨q,i,f⟩:=List.mem_flatMap.1 b;exact c o ((g q i).ext (by rw[d];exact f))
   have y:(ji l v out []).length<=((ji l v out []).flatMap (l9 l a w.length)).length:=Ew fun o b=>c o (r o b);exact⟨fun h=>by omega,fun _=>k.2 aD⟩
theorem RY(l:Row):(eO (fun _=>0) l<=5000->kE l=orders l)/\(5000<eO (fun _=>0) l->5000<(kE l).length):=by
 have a:(eU dB l).Perm l:=fZ;have h:=ac3 a (eU dB l) 0 [[]] rfl bH (fun o b=>by rw[nL] at b;subst b;exact⟨rfl,bH,bH,bH⟩)
 have e:([[]]:List (List Nat)).flatMap (l9 l (eU dB l) (eU dB l).length)=orders l:=by
  rw[alZ,List.flatMap_nil,zxp,a.length_eq];rfl
 rw[e,sH] at h;exact h
end Go.Proofs.YtohddpbgflgiaaaGreatDoor.Cz
namespace Go.Proofs.YtohddpbgflgiaaaGreatDoor.Cz
def rD:List Row->Nat->List (List (List Nat))->Option (List (List (List Nat)))
 |[],_,all=>some all
 |s::S,n,all=>if 720<n*(kE s).length then none else rD S (n*(kE s).length) (all.flatMap fun a=>(kE s).map fun o=>a++[o])
def P5(ks:iQ)(w:Wd):Option Wd:=match rD (sorts ks w) 1 [[]] with
 |none=>none
 |some all=>best (all.map (bN ks w))
theorem MH(s:Row)(S:List Row):arr (s::S)=eO (fun _=>0) s*arr S:=rfl
theorem aaF(S:List Row):0<arr S:=by
 induction S with
 |nil=>simp[arr]
 |cons s S ih=>rw[MH];exact Nat.mul_pos (sI _ _) ih
theorem RZ:∀(S:List Row) (n:Nat) (all:List (List (List Nat))),0<n->(n*arr S<=720->rD S n all=some (all.flatMap (lK S)))/\(720<n*arr S->n<=720->rD S n all=none):=by
 intro S;induction S with
 |nil=>
  intro n all b
  have e:all.flatMap (lK [])=all:=by
   show all.flatMap (fun o=>[o])=all
   have key:∀l:List (List (List Nat)),l.flatMap (fun o=>[o])=l:=by
    exact anc
   exact key all
  rw[e]
  exact⟨fun _=>rfl,fun h g=>by simp[arr] at h;omega⟩
 |cons s S ih=>
  intro n all b
  obtain⟨d,o2⟩:=RY s
  have f:=sI s (fun _=>0)
  have i:=aaF S
  rw[MH,<-Nat.mul_assoc]
  have c:(kE s).length<=5000->kE s=orders s/\(kE s).length=eO (fun _=>0) s:=by
   intro h;have:eO (fun _=>0) s<=5000:=Classical.byContradiction fun m=>by have:=o2 aD;omega
   rw[d this];exact⟨rfl,sH s⟩
  refine⟨fun h=>?_,fun h p=>?_⟩
  ·have q:n*eO (fun _=>0) s<=n*eO (fun _=>0) s*arr S:=Nat.le_mul_of_pos_right _ i
   have g:eO (fun _=>0) s<=n*eO (fun _=>0) s:=Nat.le_mul_of_pos_left _ b;have e:=d aD;unfold rD;rw[e,sH,if_neg aD,(ih _ _ (Nat.mul_pos b f)).1 h,List.flatMap_assoc];congr 1;refine kN fun a _=>?_;rw[List.flatMap_map];rfl
  ·unfold rD
   split
   ·rfl
   ·rename_i j
    have r:(kE s).length<=n*(kE s).length:=Nat.le_mul_of_pos_left _ b;obtain⟨t,k⟩:=c aD;rw[k] at j ⊢;exact(ih _ _ (Nat.mul_pos b f)).2 h aD
theorem U7(ks:iQ)(w:Wd):P5 ks w=canon ks w:=by
 unfold P5 canon;obtain⟨a,b⟩:=RZ (sorts ks w) 1 [[]] aD;rw[Nat.one_mul] at a b;by_cases h:720<arr (sorts ks w)
 ·rw[if_pos h,b h aD]
 ·rw[if_neg h,a aD]
  simp
def flat(w:Wd):Row:=w.flatten.flatten
theorem aaG:∀(a b s t:Row),a.length=b.length->di (a++s) (b++t)=if di a b=0 then di s t else di a b:=by
 intro a;induction a with
 |nil=>
  intro b s t h
  cases b with
  |nil=>simp[di,gZ]
  |cons y b=>simp at h
 |cons x a ih=>
  intro b s t h
  cases b with
  |nil=>simp at h
  |cons y b=>
   have:=ih b s t Fa
   unfold di at this ⊢
   simp only[List.cons_append,gZ]
   rw[this]
   by_cases e:dB x y=0
   ·simp[e]
   ·simp[e]
theorem U8:∀(l m:List Row) (s t:Row),l.length=m.length->(∀i,i<l.length->(l.getD i []).length=(m.getD i []).length)->
  di (l.flatten++s) (m.flatten++t)=if gZ di l m=0 then di s t else gZ di l m:=by
 intro l;induction l with
 |nil=>
  intro m s t h _
  cases m with
  |nil=>simp[gZ]
  |cons y b=>simp at h
 |cons x l ih=>
  intro m s t h a
  cases m with
  |nil=>simp at h
  |cons y m=>
   have c:=ih m s t Fa (fun i hi=>by simpa using a (i+1) afn)
   have d:x.length=y.length:=by simpa using a 0 bH
   rw[al0,al0,zxm,zxm,aaG x y _ _ d,c]
   simp only[gZ]
   by_cases e:di x y=0
   ·simp[e]
   ·simp[e]
theorem aaH:∀(a b:Wd),a.length=b.length->(∀k,k<a.length->len a k=len b k/\∀i,i<len a k->(row a k i).length=(row b k i).length)->di (flat a) (flat b)=sC a b:=by
 intro a;induction a with
 |nil=>
  intro b h _
  cases b with
  |nil=>rfl
  |cons y b=>simp at h
 |cons x a ih=>
  intro b h c
  cases b with
  |nil=>simp at h
  |cons y b=>
   have d:=ih b Fa (fun k hk=>c (k+1) abo)
   obtain⟨e,f⟩:=c 0 bH
   unfold flat at d ⊢
   rw[al0,al0,List.flatten_append,List.flatten_append,U8 x y _ _ e f,d]
   unfold sC
   simp only[gZ]
end Go.Proofs.YtohddpbgflgiaaaGreatDoor.Cz
namespace Go.Proofs.YtohddpbgflgiaaaGreatDoor.Cz
structure oD(ks:iQ)(v u:Wd):Prop where
 l:u.length=v.length
 n:∀k,len u k=len v k
 r:∀k j,(row u k j).length=(row v k j).length
 c:∀k j f,fk ks k f≠ -1->cell u k j f=cell v k j f
theorem oD.refl(ks:iQ)(v:Wd):oD ks v v:=⟨rfl,fun _=>rfl,fun _ _=>rfl,fun _ _ _ _=>rfl⟩
theorem oD.set{ks:iQ}{v u:Wd}(h:oD ks v u){k i f:Nat}(a:k<u.length)(b:i<len u k)(d:f<(row u k i).length)(e:fk ks k f= -1)(y:Int):oD ks v (lM u k i f y) where
 l:=by unfold lM;rw[zxl];exact h.l
 n k':=by rw[mh];exact h.n k'
 r k' j:=by
  rw[Ee u k i f y a b];split
  ·rename_i q;obtain⟨rfl,rfl⟩:=q;rw[zxl];exact h.r k i
  ·exact h.r k' j
 c k' j f' hf':=by
  rw[Hh u k i f y a b d,if_neg (by rintro ⟨rfl,rfl,rfl⟩;exact hf' e)];exact h.c k' j f' hf'
theorem rH.keys{ks:iQ}{a:List (List Nat)}{w v u:Wd}(h:rH ks a w v)(g:oD ks v u):rH ks a w u where
 l:=g.l.trans h.l
 lk:=h.lk
 n k hk:=(g.n k).trans (h.n k hk)
 p:=h.p
 r k j hk hj:=⟨(g.r k j).trans (h.r k j hk hj).1,(h.r k j hk hj).2⟩
 num k j f hk hj hf e:=(g.c k j f aD).trans (h.num k j f hk hj hf e)
 ref k j f hk hj hf hr:=by
  rw[g.c k j f aD];exact h.ref k j f hk hj hf hr
 code:=h.code
end Go.Proofs.YtohddpbgflgiaaaGreatDoor.Cz
namespace Go.Proofs.YtohddpbgflgiaaaGreatDoor.Cz
structure wW(l:Row)(i:Nat)(L:Row):Prop where
 perm:L.Perm l
 sorted:(L.take i).Pairwise (·<=·)
def MI(l:Row)(i k:Nat)(L:Row):Prop:=
 L.Perm l/\∃s x t r,L=s++x::(t++r)/\s.length=k/\s.length+t.length=i/\(s++t).Pairwise (·<=·)/\∀y∈t,x<y
theorem wW.zero(l:Row):wW l 0 l:=⟨.refl _,bH⟩
theorem wW.ins{l L:Row}{i:Nat}(h:wW l i L)(a:i<L.length):MI l i i L:=by
 refine⟨h.perm,L.take i,L[i],[],L.drop (i+1),?_,jo,jo,by simpa using h.sorted,bH⟩;rw[List.nil_append,<-zxe a,List.take_append_drop]
theorem ae5(h:p:=by
  rw[iY,List.getElem?_append_right jo]
  rw[show k-(s++[y]).length=0 by simp;omega]
  rfl):p:=h
theorem amx(h:p:=by
  rw[iY,zxm,List.getElem?_append_right aD]
  rw[show k-1-s.length=0 by omega]
  rfl):p:=h
theorem MI.step{l L:Row}{i k:Nat}(h:MI l i k L)(h0:0<k)(a:L.getD k 0<L.getD (k-1) 0):MI l i (k-1) ((L.set k (L.getD (k-1) 0)).set (k-1) (L.getD k 0)):=by
 obtain⟨d,s,x,t,r,rfl,b,f,g,j⟩:=h;obtain⟨s,y,rfl⟩:∃m y,s=m++[y]:=⟨s.dropLast,s.getLast (by intro e;rw[e] at b;simp at b;omega),(List.dropLast_concat_getLast _).symm⟩;rw[rK,List.length_singleton] at b f
 have n:(s++[y]++x::(t++r)).getD k 0=x:=by
  exact ae5
 have o:(s++[y]++x::(t++r)).getD (k-1) 0=y:=by
  exact amx
 rw[n,o] at a ⊢
 have e:((s++[y]++x::(t++r)).set k y).set (k-1) x=s++x::((y::t)++r):=by
  rw[zxm,List.set_append_right _ _ aD,List.set_append_right _ _ aD];rw[show k-s.length=1 by omega,show k-1-s.length=0 by omega];rfl
 rw[e];refine⟨List.Perm.trans ?_ d,s,x,y::t,r,rfl,aD,jo,by simpa using g,?_⟩
 ·rw[zxm]
  exact List.Perm.append_left s (List.Perm.swap y x (t++r))
 ·intro z c
  rcases mr.1 c with rfl|c
  ·exact a
  ·exact j z c
theorem MI.stop{l L:Row}{i k:Nat}(h:MI l i k L)(j:k=0\/¬L.getD k 0<L.getD (k-1) 0):wW l (i+1) L:=by
 obtain⟨m,s,x,t,r,rfl,d,n,o,p⟩:=h;refine⟨m,?_⟩
 have e:(s++x::(t++r)).take (i+1)=s++x::t:=by
  rw[show s++x::(t++r)=(s++x::t)++r by simp,List.take_left' jo]
 rw[e];obtain⟨p1,p2,p3⟩:=List.pairwise_append.1 o;rw[List.pairwise_append];refine⟨p1,List.pairwise_cons.2 ⟨fun y q=>by have:=p y q;omega,p2⟩,fun a c b f=>?_⟩;rcases mr.1 f with rfl|f
 ·rcases j with g|g
  ·rw[g] at d
   rw[List.length_eq_zero_iff.1 d] at c;simp at c
  ·obtain⟨s,y,rfl⟩:∃u y,s=u++[y]:=⟨s.dropLast,s.getLast (by intro e;rw[e] at c;simp at c),(List.dropLast_concat_getLast _).symm⟩
   rw[rK,List.length_singleton] at d n
   have v:(s++[y]++b::(t++r)).getD k 0=b:=by
    exact ae5
   have w:(s++[y]++b::(t++r)).getD (k-1) 0=y:=by
    exact amx
   rw[v,w] at g;rcases zxx.1 c with c|c
   ·have:=(List.pairwise_append.1 p1).2.2 a c y bH
    omega
   ·rw[nL] at c
    omega
 ·exact p3 a c b f
theorem wW.all{l L:Row}(h:wW l L.length L):eU dB l=L:=by
 refine LS gP ?_ h.perm;have:=h.sorted;rw[zxw] at this;refine this.imp fun {a b} c=>?_;unfold dB;split
 ·omega
 ·split<;>omega
end Go.Proofs.YtohddpbgflgiaaaGreatDoor.Cz
namespace Go.Proofs.YtohddpbgflgiaaaGreatDoor
open Go.RowKit
theorem Cu{a b:Nat}{p:Prop}[Decidable p](h:p↔a<=b):decide (a<=b)=decide p:=decide_eq_decide.2 h.symm
theorem BA(c:UInt8)(w:World):CP 211 #[.int .u8 (c.toNat:Int)] w fun e a=>e=.returned (.bool (aC.kG c))/\w=a:=by
 have d:Hid (aC.kG c=(decide ((97:Int)<=c.toNat)&&decide ((c.toNat:Int)<=122))):=hid (congr (congrArg and (Cu aD)) (Cu aD));have f:=c.toNat_lt;generalize aC.kG c=b at*;generalize c.toNat=n at*;by_cases h:(97:Int)<=n<;>by_cases g:(n:Int)<=122<;>(go_enter func211,ntmps211;go_wp2;go_ret;exact⟨by rw[d.out];simp[h,g],rfl⟩)
theorem P6(c:UInt8)(w:World):CP 212 #[.int .u8 (c.toNat:Int)] w fun e a=>e=.returned (.bool (aC.nQ c))/\w=a:=by
 have d:Hid (aC.nQ c=(decide ((48:Int)<=c.toNat)&&decide ((c.toNat:Int)<=57))):=hid (congr (congrArg and (Cu aD)) (Cu aD));have f:=c.toNat_lt;generalize aC.nQ c=b at*;generalize c.toNat=n at*;by_cases h:(48:Int)<=n<;>by_cases g:(n:Int)<=57<;>(go_enter func212,ntmps212;go_wp2;go_ret;exact⟨by rw[d.out];simp[h,g],rfl⟩)
theorem jr(n a b:Int)(w:World):CP 124 #[.int .i64 n,.int .i64 a,.int .i64 b] w fun e c=>e=.returned (.bool (aC.tE n a b))/\w=c:=by
 have d:Hid (aC.tE n a b=(decide (a<=n)&&decide (n<=b))):=hid rfl;by_cases h:a<=n<;>by_cases g:n<=b<;>(go_enter func124,ntmps124;go_wp2;go_ret;exact⟨by rw[d.out];simp[h,g],rfl⟩)
theorem Ic(c d a b:Int)(w:World):CP 166 #[.int .i64 c,.int .i64 d,.int .i64 a,.int .i64 b] w fun e f=>e=.returned (.bool (aC.ig c d a b))/\w=f:=by
 have i:Hid (aC.ig c d a b=(decide (a<=c)&&decide (c<=d)&&decide (d<=b))):=hid rfl;by_cases h:a<=c<;>by_cases g:c<=d<;>by_cases k:d<=b<;>(go_enter func166,ntmps166;go_wp2;go_ret;exact⟨by rw[i.out];simp[h,g,k],rfl⟩)
theorem ac4(s:ByteArray)(k:Nat)(h:k<s.size)(W:World):(Instr.index 9 (.string s) (.int .i64 (k:Int))).run prog W=.ok (.int .u8 ((s[k]'h).toNat:Int)) W:=by
 rw[run_index_string W _ _ _ _ zK,dif_pos ⟨aD,aD⟩];rfl
theorem MJ(w:World):CP 165 #[.string aC.nil] w fun e a=>e=.returned (.bool false)/\w=a:=by
 unfold aC.nil;go_enter func165,ntmps165;exact Ez
theorem U9{s:ByteArray}(h:aC.bE s=true){k:Nat}(a:k<s.size):(aC.kG s[k]||aC.nQ s[k])=true:=by
 unfold aC.bE at h;simp only[pR] at h;exact alU.1 h.2 s[k] (Array.getElem_mem_toList (xs:=s.data) a)
theorem Va{s:ByteArray}(h:aC.bE s=true):1<=s.size/\s.size<=12/\∀b:0<s.size,aC.kG s[0]=true:=by
 unfold aC.bE at h;simp only[pR,oW] at h;refine⟨h.1.1.1,h.1.1.2,fun b=>?_⟩;have a:0<s.data.size:=b;have:=h.1.2;rw[Array.getD_eq_getD_getElem?,zxi a] at this;exact this
theorem LC(h:p:=by
  rintro e w' ⟨rfl,rfl⟩
  go_wp2
  go_round
  case rel=>exact⟨k+1,aD,zG⟩
  exact zI):p:=h
theorem iw(s:ByteArray)(g:aC.bE s=true)(w:World):CP 165 #[.string s] w fun e w'=>e=.returned (.bool true)/\w=w':=by
 obtain⟨q,h,r⟩:=Va g;have t:=hid (ac4 s);have y:=hid (fun(k:Nat) (f:k<s.size)=>U9 g f);have z:=fun W=>t.out 0 q W;have u:=hid (BA s[0] w);rw[r q] at u;have j:=hid (fun k (f:k<s.size) W=>BA s[k] W);have l:=hid (fun k (f:k<s.size) W=>P6 s[k] W);obtain⟨n,m⟩:=bJ s.size;have A:(1:Int)<=n:=aD
 have B:(n:Int)<=12:=aD
 clear r g h;have v:s.size=n:=m.symm;have C:=hid m;clear m;go_enter func165,ntmps165;go_wp2_with fail;refine u.out.mono ?_;rintro e w' ⟨rfl,rfl⟩;go_upto_region 4 with fail;go_loop [3] (fun i=>∃k:Nat,k<=n/\i=.int .i64 k) (fun i=>n-(intOf i).toNat);case atStart=>exact⟨0,aD,rfl⟩
 case round=>
  obtain⟨k,f,rfl⟩:=hrel;by_cases o:k<n
  ·have a:k<s.size:=by rw[<-C.out];exact o
   have hx:=fun W=>t.out k a W;have x:=hid (j.out k a w);have p:=hid (l.out k a w);have D:=y.out k a;have E:(k:Int)<n:=aD
   generalize aC.kG s[k]=b at*;generalize aC.nQ s[k]=d at*;generalize s[k].toNat=c at*;clear a;cases b with
   |true=>
    go_wp2_with fail
    refine x.out.mono ?_
    exact LC
   |false=>
    obtain rfl:d=true:=by simpa using D
    go_wp2_with fail
    refine x.out.mono ?_
    rintro e w' ⟨rfl,rfl⟩
    go_wp2_with fail
    refine p.out.mono ?_
    exact LC
  ·exact Ez
theorem JH{b:Func}{t u v x y:Tmp}(h:b.results=#[.tmp t,.tmp u,.tmp v,.tmp x,.tmp y])(a:Array Value)(P:Program)(w:World):
  (results b a).run P w=.ok (.tuple #[a.getD t undef,a.getD u undef,a.getD v undef,a.getD x undef,a.getD y undef]) w:=by
 simp[results,h]
def aaJ(k:Int):Value:=
 .tuple #[.bool (decide (k=1\/4<=k)),.bool (decide (7<=k)),.bool (decide (k=0\/k=1\/k=2\/k=4\/k=5\/k=7)),.bool (decide (k=1\/k=2\/k=4\/k=5\/k=7)),.bool (decide (k=3))]
theorem nine{k:Int}(h0:0<=k)(a:k<9):k=0\/k=1\/k=2\/k=3\/k=4\/k=5\/k=6\/k=7\/k=8:=aD
theorem Ie(k:Int)(h0:0<=k)(a:k<9)(w:World):CP 213 #[.int .i64 k] w fun e b=>e=.returned (aaJ k)/\w=b:=by
 rcases nine h0 a with rfl|rfl|rfl|rfl|rfl|rfl|rfl|rfl|rfl<;>
  (go_enter func213,ntmps213;go_wp2;refine bodyPost_ret (JH rfl _ _ _) rfl ⟨rfl,rfl⟩)
theorem Ey(l:List ByteArray)(d:l.all aC.bE=true)(v:Value)(S:Nat->Prop)(w:World)(c:gE S w v l):CP 168 #[v] w fun e w'=>e=.returned (.bool true)/\w=w':=by
 obtain⟨a,cap,rfl,j,f,g⟩:=c.form;have m:=hid c;have n:=hid (fun k (h:k<l.length)=>iw l[k] (alU.1 d _ (eV h)) w);clear c d;go_enter func168,ntmps168;go_upto_region 2 with fail;go_loop [3] (fun i=>∃k:Nat,k<=l.length/\i=.int .i64 k) (fun i=>l.length-(intOf i).toNat);case atStart=>exact⟨0,aD,rfl⟩
 case round=>
  obtain⟨k,h,rfl⟩:=hrel;by_cases b:k<l.length
  ·obtain⟨u,r, -,rfl⟩:=m.out.at b
   have o:(0:Int)<=k:=aD
   have p:(k:Int)<l.length:=aD
   have q:=hid (n.out k b);generalize l[k]=s at*;go_wp2_with fail;refine q.out.mono ?_;exact LC
  ·exact Ez
theorem boxed(w:World)(cs:Array Value)(t:TypeId):∃w1,w.alloc (.cells cs t)=w1/\Hid (BL w w1)/\Hid (∀W,BL w1 W->W.heap[w.heap.size]?=some (.cells cs t (0,0)))/\w.heap.size<w1.heap.size:=
 ⟨_,rfl,hid (aG.alloc aL _),hid (fun W a=>(a.block _ bH).trans (bD w _ rfl)),bH⟩
theorem MK(f:aC.dA)(x:aC.kR f.cV f.bY=true)(y A:Value)(S T:Nat->Prop)(w:World)(h1:gE S w y f.cV)(h2:bB T w A f.bY):
  CB 214 #[.agg (dh f y A).toArray] w (.bool true):=by
 obtain⟨p1,p2,p3,p4,p5⟩:=lZ x;obtain⟨G,H,rfl, -, -, -⟩:=h1.form;obtain⟨I,J,rfl,n,p,q⟩:=h2.form;obtain⟨w1,b,r,t,R⟩:=boxed w (dh f (.slice G f.cV.length H) (.slice I f.bY.length J)).toArray 85;have B:=hid (bB.keep h2 (aH.below r.out));have c:=hid (Ey f.cV p5 _ S w1 (h1.keep (aH.below r.out)));have l:=hid (jr f.cV.length 1 12 w1);rw[p2] at l;have j:=(eM p2).2;have HP:=hid p1;have C:=hid p4;clear h1 h2 x p1 p2 p4 p5;obtain⟨U,o,up,k,V,W,X,a⟩:=f;simp only[dh] at b t B c l HP C p3 j n p q ⊢;rw[p3] at b t c l j;rw[p3];obtain⟨⟨-, -, -, -, -, -,Y,Z⟩, -⟩:=ez (t.out w1 aG);have D:=hid b;clear b p3;go_enter func214,ntmps214;go_upto_region 1 with fail;rw[D.out];clear D;go_upto_region 3 with fail;go_loop [3,4] (fun s i=>∃(k:Nat) (z:Int),k<=a.length/\i=.int .i64 (k:Int)/\s=.int .i64 z/\Hid (z=aC.tL (a.take k)/\0<=z/\z<=1048576*k)) (fun _ i=>a.length-(intOf i).toNat);case atStart=>exact⟨0,0,aD,rfl,rfl,hid ⟨rfl,aD,aD⟩⟩
 case round=>
  obtain⟨k,z,hk,rfl,rfl,m⟩:=hrel;by_cases d:k<a.length
  ·obtain⟨u,hu, -,rfl⟩:=B.out.at d
   have K:(0:Int)<=k:=aD
   have L:(k:Int)<a.length:=aD
   have h:=HP.out a[k] (eV d);have HR:=hid (jr a[k] 0 1048576 w1);rw[h] at HR;obtain⟨M,N⟩:=eM h
   have O:Hid (z+a[k]=aC.tL (a.take (k+1))/\0<=z+a[k]/\z+a[k]<=1048576*(k+1:Nat)):=hid (by
    have:=m.out
    refine⟨by rw[Gu a d,this.1],aD,aD⟩)
   obtain⟨v,P⟩:=m.out.2;generalize a[k]=g at*;have Q:z+g<=100000000:=aD
   have E:0<=z+g:=aD
   clear h;go_wp2_with fail;refine HR.out.mono ?_;rintro e F ⟨rfl,rfl⟩;go_wp2;go_round;case rel=>exact⟨k+1,z+g,aD,zG,zG,O⟩
   exact zI
  ·obtain rfl:k=a.length:=by omega
   have v:0<z:=by have:=m.out.1;rw[ND aL] at this;rw[this];exact C.out
   clear m;go_wp2_with fail;refine l.out.mono ?_;rintro e F ⟨rfl,rfl⟩;go_wp2_with fail;refine c.out.mono ?_;rintro e F ⟨rfl,rfl⟩;go_wp2;go_ret;exact⟨rfl,r.out⟩
theorem uN:aC.bE aC.nil=false:=rfl
theorem JI(f:aC.dA)(c:aC.dD f=true)(s t:Value)(S T:Nat->Prop)(w:World)(h1:gE S w s f.cV)(h2:bB T w t f.bY):
  CB 167 #[.agg (dh f s t).toArray] w (.bool true):=by
 obtain⟨i,d⟩:=qa c;obtain⟨p,C⟩:=aC.mQ c;obtain⟨D,E,rfl, -, -, -⟩:=h1.form;obtain⟨F,G,rfl, -, -, -⟩:=h2.form;obtain⟨w1,g,j,u,M⟩:=boxed w (dh f (.slice D f.cV.length E) (.slice F f.bY.length G)).toArray 85;have l:=hid (fun(H:aC.kR f.cV f.bY=true)=>MK f H _ _ S T w1 (h1.keep (aH.below j.out)) (h2.keep (aH.below j.out)));have v:=hid (iw f.name i w1);have x:=hid (fun h=>iw f.of h w1);have y:=hid (fun h=>iw f.up h w1);have m:=hid (MJ w1);have n:=hid (Ie f.kind p aD w1);have HR:=hid (fun a b=>jr f.lo a b w1);have z:=hid (fun a b=>Ic f.lo f.hi a b w1);have A:=hid c;clear h1 h2 c i d;obtain⟨N,o,up,k,O,P,Q,R⟩:=f;simp only[dh] at g u l v x y n HR z A p C ⊢;have B:=hid g;clear g;obtain⟨⟨U,I,J,V,W,X,Y,Z⟩, -⟩:=ez (u.out w1 aG);go_enter func167,ntmps167;go_upto_region 1 with fail;rw[B.out];clear B;have HX:Hid (∀b:Bool,b=true->Ending.returned (.bool b)=Ending.returned (.bool true)):=hid (fun b h=>by rw[h]);rcases nine p aD with rfl|rfl|rfl|rfl|rfl|rfl|rfl|rfl|rfl<;>by_cases K:o=aC.nil
 all_goals
  have c:=A.out
  try subst K
  try (simp[aC.dD,aC.lT,aC.kZ,and_assoc,uN, *] at c;done)
 all_goals
  simp[aC.dD,aC.lT,aC.kZ,and_assoc,uN, *] at c
  have q:=n.out
  simp[aaJ] at q
  have n:=hid q
  clear q
  repeat (obtain⟨h,c⟩:=c;try subst h)
  try simp only[aC.nil] at I J
 all_goals
  simp only[aC.nil] at m
  iterate 5
   try
    go_wp2_with fail
    with_reducible first|refine n.out.mono ?_|refine v.out.mono ?_|refine m.out.mono ?_|refine(x.out (by assumption)).mono ?_|refine(y.out (by assumption)).mono ?_|refine(HR.out _ _).mono ?_|refine(z.out _ _).mono ?_
    rintro e w' ⟨rfl,rfl⟩
 all_goals first
  |(go_wp2;go_ret;first|exact⟨HX.out _ c,j.out⟩|exact⟨rfl,j.out⟩)
  |(go_wp2_with fail;refine(l.out c).mono ?_;rintro e w2 ⟨rfl,L⟩;have r:=bO j.out L;go_wp2;go_ret;exact⟨rfl,r⟩)
theorem aen(h:p:=by
  go_wp2
  go_roundw
  case rel=>exact⟨j+1,aD,zG,jm⟩
  exact zI):p:=h
theorem ML(k:aC.fT)(u:aC.qF k=true)(v:Value)(S:Nat->Prop)(w:World)(h:dx S w v k.aF):
  CB 125 #[.agg (kH k v).toArray] w (.bool true):=by
 obtain⟨p1,p2,p3,p4⟩:=lD u;obtain⟨B,C,rfl,l,m,n⟩:=h.form;obtain⟨w1,a,D,o,N⟩:=boxed w (kH k (.slice B k.aF.length C)).toArray 53;have x:=hid (fun W (g:BL w W)=>h.keep (aH.below g));have y:=hid (iw k.name p1 w1);have p:=hid (Ic k.lo k.hi 0 65536 w1);rw[p2] at p;have HP:=hid p4;clear h u p1 p2 p4;obtain⟨O,P,Q,fs⟩:=k;simp only[kH] at a o y p x HP p3 l m n ⊢;have R:(fs.length:Int)<=10:=aD
 obtain⟨q,r,s,t⟩:=b4z (o.out w1 aG);have z:=hid a;clear a;go_enter func125,ntmps125;go_upto_region 1 with fail;rw[z.out];clear z;go_wp2_with fail;refine y.out.mono ?_;rintro e E ⟨rfl,rfl⟩;go_wp2_with fail;refine p.out.mono ?_;rintro e E ⟨rfl,rfl⟩;go_upto_region 4 with fail;clear q r s t;go_loopw [3] (fun i wr=>∃j:Nat,j<=fs.length/\i=.int .i64 (j:Int)/\Hid (BL w1 wr)) (fun i _=>fs.length-(intOf i).toNat);case atStart=>exact⟨0,aD,rfl,hid aG⟩
 case round=>
  obtain⟨j,T,rfl,HR⟩:=hrel;have cH:=aR D HR.out;obtain⟨q,r,s,t⟩:=b4z (o.out wr HR.out);by_cases d:j<fs.length
  ·obtain⟨-, -,F,f1,f2,G,H,I,U,V,J,K,b,c⟩:=(x.out wr cH.out).at d
   obtain⟨X,Y,rfl, -, -, -⟩:=b.form;obtain⟨Z,cg,rfl, -, -, -⟩:=c.form;have L:(0:Int)<=j:=aD
   have M:(j:Int)<fs.length:=aD
   have A:=hid (JI fs[j] (HP.out _ (eV d)) _ _ S S wr b c);generalize fs[j]=f at*;simp only[dh] at A;clear b c;go_wp2_with fail;refine A.out.mono ?_;rintro e w2 ⟨rfl,g⟩;have jm:=aR HR g;clear g q r s t F f1 f2 G H I J K;exact aen
  ·exact amE
theorem amD(h:p:=by
  go_wp2
  go_ret
  exact⟨rfl,E9.out⟩):p:=h
theorem MN(x:aC.Iu)(hx:aC.wD x=true)(u1 u2:Value)(S:Nat->Prop)(w:World)(r:gE S w u1 x.dR)(s:yD S w u2 x.jd):
  CB 126 #[.agg #[.string x.name,u1,u2]] w (.bool true):=by
 obtain⟨p1,p2,p3,p4,p5⟩:=qb hx;obtain⟨a1,c1,rfl, -, -, -⟩:=r.form;obtain⟨K,c2,rfl,t,u,v⟩:=s.form;obtain⟨w1,b,c,y,R⟩:=boxed w #[.string x.name,.slice a1 x.dR.length c1,.slice K x.jd.length c2] 58;have D:=hid (fun m=>fC.keep fW s (aH.below (c.out.trans ((aJ (Below.refl w1.heap.size w1) m).mono c.out.size))));have E:=hid (iw x.name p1 w1);have k:=hid (jr x.dR.length 1 12 w1);rw[p2] at k;have z:=hid (Ey x.dR p3 _ S w1 (r.keep (aH.below c.out)));have HP:=hid p5;have F:=(eM p2).2;clear r s hx p1 p2 p3 p5;obtain⟨T,ss,ms⟩:=x;simp only at b y E k z D HP p4 F t u v ⊢;obtain⟨n,d⟩:=bJ ss.length;rw[<-d] at b y k z HP F ⊢;clear d;have L:(ms.length:Int)<=32:=aD
 have f:=hid (fun m=>wN (y.out (w1.drewN m) (aJ aG m)));have G:=hid b;clear b;go_enter func126,ntmps126;go_upto_region 1 with fail;rw[G.out];clear G;obtain⟨l,o,p⟩:=f.out 0;change w1.cell? _=_ at l o p;go_wp2_with fail;refine E.out.mono ?_;rintro e H ⟨rfl,rfl⟩;go_wp2_with fail;refine k.out.mono ?_;rintro e H ⟨rfl,rfl⟩;go_wp2_with fail;refine z.out.mono ?_;rintro e H ⟨rfl,rfl⟩;go_upto_region 4 with fail;clear l o p;go_loopw [3] (fun i wr=>∃j:Nat,j<=ms.length/\i=.int .i64 (j:Int)/\Hid (∃m,wr=w1.drewN m)) (fun i _=>ms.length-(intOf i).toNat);case atStart=>exact⟨0,aD,rfl,hid ⟨0,rfl⟩⟩
 case round=>
  obtain⟨j,U,rfl,HR⟩:=hrel;obtain⟨m,a⟩:=HR.out;obtain⟨l,o,p⟩:=f.out m;have g:=hid (D.out m);rw[<-a] at l o p g;by_cases h:j<ms.length
  ·obtain⟨-, -,M,f1⟩:=yD.at g.out h
   have N:(0:Int)<=j:=aD
   have O:(j:Int)<ms.length:=aD
   have I:=HP.out _ (eV h);generalize ms[j]=mv at*;obtain⟨P,Q⟩:=mv;simp only at M f1;obtain⟨A,B⟩:=zxv.1 I;have H1:=hid (fun q=>Calls.quiet_of (uZ (jr P 0 ((n:Int)-1) (wr.drewN q))));have J:=hid (fun q=>Calls.quiet_of (uZ (jr Q 0 ((n:Int)-1) (wr.drewN q))));simp only at A B;rw[A] at H1;rw[B] at J;have C:=hid a;clear I A B a;go_wp2;go_quiet (with_reducible first|exact H1.out _|exact J.out _);have jm:Hid (∃m,wr.drewN nq=w1.drewN m):=hid (by rw[C.out];exact⟨m+nq,mE⟩);exact aen
  ·have E9:Hid (Below w.heap.size w wr):=hid (by rw[a];exact c.out.trans ((aJ (Below.refl w1.heap.size w1) m).mono c.out.size))
   clear a;exact amD
theorem MO(r:aC.Rul)(j:aC.wE r=true)(w:World):
  CB 127 #[.agg #[.string r.name,.string r.kind,.string r.a,.string r.b,.int .i64 r.n]] w (.bool true):=by
 obtain⟨p1,p2,p3,p4,p5,p6⟩:=qc j;obtain⟨w1,c,v,k,D⟩:=boxed w #[.string r.name,.string r.kind,.string r.a,.string r.b,.int .i64 r.n] 61;have l:=hid (iw r.name p1 w1);have m:=hid (iw r.kind p2 w1);have p:=hid (fun h=>iw r.a h w1);have q:=hid (fun h=>iw r.b h w1);have i:=hid (jr r.n (-1048576) 1048576 w1);rw[p6] at i;clear j p1 p2 p6;obtain⟨E,F,a,b,n⟩:=r;simp only at c k l m p q i p3 p4 p5 ⊢;have d:=k.out w1 aG;have x:=aP d 0;have y:=aP d 1;have s:=aP d 2;have t:=aP d 3;have z:=aP d 4;simp at x y s t z;have u:=hid c;clear c d;have A:∀o:ByteArray,¬o=aC.nil->o.toList.isEmpty=false:=fun _=>nZ;go_enter func127,ntmps127;go_upto_region 1 with fail;rw[u.out];clear u;by_cases f:a=aC.nil<;>by_cases g:b=aC.nil
 ·exact absurd ⟨f,g⟩ p5
 all_goals
  try subst f
  try subst g
  try simp only[aC.nil] at s t
  try have hA:=p3.resolve_left f
  try have hB:=p4.resolve_left g
  try have B:=CK f
  try have C:=CK g
  clear p3 p4 p5
 all_goals
  iterate 5
   try
    go_wp2_with fail
    with_reducible first|refine l.out.mono ?_|refine m.out.mono ?_|refine(p.out hA).mono ?_|refine(q.out hB).mono ?_|refine i.out.mono ?_
    rintro e G ⟨rfl,rfl⟩
 all_goals
  go_wp2
  go_ret
  exact⟨rfl,v.out⟩
end Go.Proofs.YtohddpbgflgiaaaGreatDoor
namespace Go.Proofs.YtohddpbgflgiaaaGreatDoor
namespace aC
def BD(n:Nat):Nm:=⟨#[UInt8.ofNat (48+n)]⟩
def uO:Nat->Nat->Nm
 |0,n=>BD n
 |f+1,n=>if n<10 then BD n else uO f (n / 10)++BD (n % 10)
def EA(n:Int):Nm:=if n<0 then ⟨#[45]⟩++uO 40 n.natAbs else uO 40 n.natAbs
theorem rE:∀f n,(uO f n).size=xB f n
 |0,_=>rfl
 |f+1,n=>by
  unfold uO xB;split
  ·rfl
  ·rw[zxc,rE f,Nat.add_comm];rfl
theorem pF:∀f n,xB f n<=f+1
 |0,_=>aL
 |f+1,n=>by
  unfold xB;split
  ·omega
  ·have:=pF f (n / 10);omega
theorem Aw(n:Int):(EA n).size=dN n:=by
 unfold EA dN;split
 ·rw[zxc,rE];rfl
 ·rw[rE,zxn]
end aC
open Go.RowKit
theorem vN{s t:ByteArray}(h:s=t):Ending.returned (.string s)=Ending.returned (.string t):=by rw[h]
theorem zA(W:World)(g:Nat)(d:Nat)(hd:d<10)(h:W.heap[g]?=some (.cells #[.int .u8 (48+(d:Int))] 5 (0,0))):
  (convert 209 9 (.slice (some ⟨g,0,none⟩) 1 1)).run prog W=.ok (.string (aC.BD d)) W:=by
 refine run_convert_bytes_back W _ _ 5 ⟨g,0,none⟩ 1 [UInt8.ofNat (48+d)] zK zK zK fun j hj=>?_;obtain rfl:j=0:=BI
 have:=aP h 0;simp at this;simp[Addr.add,this];omega
theorem MP(f m:Nat)(h:m<10)(hd:aC.uO f m=aC.BD m)(w:World):CB 215 #[.int .i64 (m:Int)] w (.string (aC.uO f m)):=by
 have a:(m:Int)<10:=aD
 have b:=zA (w.alloc (.cells #[.int .u8 (48+(m:Int))] 5)) w.heap.size m h (bD w _ rfl);have c:=hid hd;clear hd;go_enter func215,ntmps215;go_wp2;go_ret;exact⟨vN c.out.symm,aG.alloc aL _⟩
theorem MQ:∀(f m:Nat),m<10 ^ (f+1)->m<9223372036854775807->f<1000->∀w:World,CB 215 #[.int .i64 (m:Int)] w (.string (aC.uO f m)):=by
 intro f;induction f with
 |zero=>intro m n _ _ w;exact MP 0 m (by simpa using n) rfl w
 |succ f ih=>
  intro m n s z w
  by_cases h:m<10
  ·exact MP (f+1) m h (by unfold aC.uO;exact if_pos h) w
  ·have t:¬(m:Int)<10:=by omega
   have A:¬(m:Int)<0:=aD
   have o:=hid (ih (m / 10) (by rw[Nat.pow_succ] at n;omega) aD aD);have p:Hid (aC.uO (f+1) m=aC.uO f (m / 10)++aC.BD (m % 10)):=hid (if_neg h)
   have B:(aC.uO f (m / 10)).size<=2000:=by
    rw[aC.rE];exact zxb (aC.pF f (m / 10)) aD
   have u:(aC.BD (m % 10)).size<=2000:=by show 1<=2000;omega
   generalize aC.uO f (m / 10)=D at*;obtain⟨d,hd⟩:=bJ (m % 10:Nat);obtain⟨q,r⟩:=bJ (m / 10:Nat);have l:d<10:=aD
   have v:(m:Int) % 10=(d:Int):=aD
   have x:(m:Int) / 10=(q:Int):=aD
   rw[<-hd] at p u;rw[<-r] at o;clear hd r n ih;go_enter func215,ntmps215;go_upto_region 5 with fail;refine alR w 9 (iq.lV [0,1,3,4,5,6] (.two 2 7 (.one 7 (.quiet 8 .done)) (.quiet 8 (.one 2 .done)))) nK zK fun V c=>?_
   iterate 6 refine gF ?_
   have g:∀V:World,BL V (V.alloc (.cells #[.int .u8 (48+(d:Int))] 5)):=fun V=>aG.alloc aL _;refine fP rfl rfl ?_ ?_
   ·go_wp2_with fail
    refine(o.out V).mono ?_;rintro e b ⟨rfl,k⟩;have c:=aR c k;clear k;go_wp2_with fail;refine aN (BL w) (fun _ h=>h) c.out ?_;refine aZ rfl ?_;go_wp2;refine aN (fun X=>BL w X/\X.heap[b.heap.size]?=some (.cells #[.int .u8 (48+(d:Int))] 5 (0,0))) (fun _ h=>h.1) ⟨bO c.out (g b),bD b _ rfl⟩ ?_;refine bC rfl ?_;intro hne;have i:∀a:Held (fun X=>BL w X/\X.heap[b.heap.size]?=some (.cells #[.int .u8 (48+(d:Int))] 5 (0,0))),(convert 209 9 (.slice (some ⟨b.heap.size,0,none⟩) 1 1)).run prog a.1=.ok (.string (aC.BD d)) a.1:=fun a=>zA a.1 _ d l a.2.2;go_big_quiet_step (fail);refine iU ?_;clear hne i;refine bG ?_;try simp only[jW,jH]
    go_wp2;go_ret;exact⟨vN p.out.symm,bO c.out (g b)⟩
   ·go_wp2
    obtain⟨b,j⟩:=bJ (V.alloc (.cells #[.int .u8 (48+(d:Int))] 5));have GJ:Hid (BL w b/\b.heap[V.heap.size]?=some (.cells #[.int .u8 (48+(d:Int))] 5 (0,0))):=hid (by rw[j];exact⟨bO c.out (g V),bD V _ rfl⟩);rw[<-j];clear j;refine aN (fun X=>BL w X/\X.heap[V.heap.size]?=some (.cells #[.int .u8 (48+(d:Int))] 5 (0,0))) (fun _ h=>h.1) GJ.out ?_;refine bC rfl ?_;intro hne;have i:∀a:Held (fun X=>BL w X/\X.heap[V.heap.size]?=some (.cells #[.int .u8 (48+(d:Int))] 5 (0,0))),(convert 209 9 (.slice (some ⟨V.heap.size,0,none⟩) 1 1)).run prog a.1=.ok (.string (aC.BD d)) a.1:=fun a=>zA a.1 _ d l a.2.2;go_big_quiet_step (fail);refine iU ?_;clear hne i;refine aZ rfl ?_;go_wp2_with fail;refine(o.out b).mono ?_;rintro e C ⟨rfl,k⟩;have c:=hid (GJ.out.1.trans (k.mono GJ.out.1.size));have y:=(k.block _ (aI GJ.out.2)).trans GJ.out.2;clear k GJ;go_wp2_with fail;refine aN (fun X=>BL w X/\X.heap[V.heap.size]?=some (.cells #[.int .u8 (48+(d:Int))] 5 (0,0))) (fun _ h=>h) ⟨c.out,y⟩ ?_;refine bG ?_;try simp only[jW,jH]
    go_wp2;go_ret;exact⟨vN p.out.symm,c.out⟩
theorem aaK(n:Int)(h: -9000000000000000000<=n)(h2:n<=9000000000000000000)(w:World):CB 215 #[.int .i64 n] w (.string (aC.EA n)):=by
 by_cases b:n<0
 ·obtain⟨m,rfl⟩:∃m:Nat,n= -(m:Int):=⟨n.natAbs,aD⟩
  have a:Hid (aC.EA (-(m:Int))=⟨#[45]⟩++aC.uO 40 m):=hid (by unfold aC.EA;rw[if_pos b,Int.natAbs_neg,Int.natAbs_natCast]);have c:=hid (MQ 40 m aD aD aD w);have f:(aC.uO 40 m).size<=2000:=by rw[aC.rE];exact zxb (aC.pF 40 m) aD
  generalize aC.uO 40 m=D at*;go_enter func215,ntmps215;go_wp2_with fail;refine c.out.mono ?_;rintro e g ⟨rfl,d⟩;go_wp2;go_ret;exact⟨vN a.out.symm,d⟩
 ·obtain⟨m,rfl⟩:∃m:Nat,n=(m:Int):=⟨n.natAbs,aD⟩
  have a:aC.EA (m:Int)=aC.uO 40 m:=by unfold aC.EA;rw[if_neg b,Int.natAbs_natCast]
  rw[a];exact MQ 40 m aD aD aD w
theorem R3(n:Int):(aC.EA n).size<=42:=by
 rw[aC.Aw];unfold aC.dN;have:=aC.pF 40 n.natAbs;split<;>omega
def qw(s:ByteArray)(n:Int):ByteArray:=s++⟨#[32]⟩++aC.EA n
theorem kr(s:ByteArray)(n:Int):(qw s n).size=s.size+(1+aC.dN n):=by
 unfold qw;rw[zxc,zxc,aC.Aw];show s.size+1+_=_
 omega
theorem pO(s:ByteArray)(n:Int)(d:s.size<=100000)(h: -9000000000000000000<=n)(h2:n<=9000000000000000000)(w:World):CB 169 #[.string s,.int .i64 n] w (.string (qw s n)):=by
 have a:=hid (aaK n h h2 w);have hd:=R3 n;have b:Hid (qw s n=s++⟨#[32]⟩++aC.EA n):=hid rfl;generalize aC.EA n=D at*;go_enter func169,ntmps169;go_wp2_with fail;refine a.out.mono ?_;rintro e f ⟨rfl,c⟩;go_wp2;go_ret;exact⟨vN b.out.symm,c⟩
def P7(s:ByteArray):ByteArray:=if s=aC.nil then ⟨#[45]⟩ else s
theorem Ay(s:ByteArray):(P7 s).size=aC.eF s:=by
 unfold P7 aC.eF;split<;>rfl
theorem amf(h:p:=by
  go_enter func171,ntmps171
  go_wp2
  go_ret
  exact⟨vN HD.out.symm,rfl⟩):p:=h
theorem xZ(s:ByteArray)(w:World):CP 171 #[.string s] w fun e b=>e=.returned (.string (P7 s))/\w=b:=by
 have a:Hid (P7 s=if s=aC.nil then ⟨#[45]⟩ else s):=hid rfl;generalize P7 s=D at*;by_cases h:s=aC.nil
 ·subst h
  have HD:Hid (D=⟨#[45]⟩):=hid a.out;unfold aC.nil;clear a;exact amf
 ·have HD:Hid (D=s):=hid (by rw[a.out,if_neg h])
  have c:=nZ h;clear a h;exact amf
end Go.Proofs.YtohddpbgflgiaaaGreatDoor
