/- A part: the walk. -/
import Derived.Test.YtlgnhkloikmhcaaGreatDoorXsQD
import Derived.Test.YtlgnhkloikmhcaaGreatDoorXsQE
import Derived.Test.YtlgnhkloikmhcaaGreatDoorXsQI
import Derived.Test.YtlgnhkloikmhcaaGreatDoorXsQJ
import Derived.Test.YtlgnhkloikmhcaaGreatDoorXsQK
import Derived.WalkKit
import Derived.ProofKit
import Derived.OpenShut
import Derived.ChangeOld
set_option maxRecDepth 100000
set_option maxHeartbeats 8000000
set_option linter.all false
set_option linter.deprecated false
open Bool renaming and_eq_true->aaF,false_or->abu,not_eq_true'->adt,or_eq_true->ab0,true_or->acW
open Go.DataW renaming Trod->adB
open Go.Proofs.Tryz renaming underlying3->acM
open Go.Value renaming okWide->ac5
open List renaming all_eq_true->aa4,drop_take->adX,getElem?_eq_none_iff->acq,getElem?_eq_some_iff->aaq,length->adJ,singleton_append->adW,append_assoc->abE,append_nil->abn,drop_eq_getElem_cons->aaV,drop_eq_nil_of_le->aaM,drop_succ_cons->acs,filter_eq_nil_iff->ac4,getElem?_append_left->aa5,getElem?_eq_getElem->aaR,getElem?_of_mem->acO,length_append->aau,length_cons->aaw,length_filter_le->abh,length_map->abd,length_take->aaS,map_append->abV,mem_append->abe,mem_append_left->abv,mem_cons->aaK,mem_cons_of_mem->aaJ,mem_cons_self->aaC,mem_filter->abQ,mem_of_getElem?->aaH,mem_of_getLast?->acl,mem_of_mem_take->acN,mem_singleton->aaE,nil_append->abp,pairwise_cons->acJ,take_add_one->aba,take_length->aa6,take_of_length_le->aaz,take_succ_cons->abt
open Nat renaming add_zero->aaX,le_refl->u7,le_trans->aaT,min_eq_left->abF,min_eq_right->adm,zero_add->aaU
open Option renaming none->abY,toList_some->acy
open Option.some renaming inj->acn,injEq->aat
namespace Go.Xs
open List Nat Option
variable{L:List aR}{M:Hp}{S:HS}{Y:List Int}{b i j nx:Nat}{best num:Int}{r:aR}{v:XV}{α:Type}
noncomputable section
section
open Go.Proofs
def isV (L:List aR) (x:Int) (V:Int×Int) (t:Int):Bool:=decide (t=V.1)&&decide ((dq L t x:Int)=V.2)
def Tu (L:List aR) (r:aR) (x num pos:Int) (V:Int×Int):List Int->Nat->Bool->Bool->List aF
 | [],_,_,_=>[]
 | t::l,i,was,past =>
   if 0<dq L t x/\t≠r.t then
    (if Ga L r.p x t (dq L t x)=was then [] else [if past=true then ⟨num,i,5,x,V.1,V.2,t,dq L t x,pos⟩ else ⟨i,num,4,x,V.1,V.2,t,dq L t x,pos⟩]) ++
      Tu L r x num pos V l (i+1) (Ga L r.p x t (dq L t x)) (past||isV L x V t)
   else Tu L r x num pos V l (i+1) was past
def Wd (L:List aR) (r:aR) (x:Int) (V:Int×Int) (t:Int):Bool:=decide (0<dq L t x)&&(!decide (t=r.t)&&isV L x V t)
def knR (L:List aR) (r:aR) (x:Int) (V:Int×Int) (l:List Int):Bool:=decide (V.1=0)||l.any (Wd L r x V)
def Wt (L:List aR) (j:Nat) (r:aR) (x:Int):List aF:=if knR L r x (nW r x) (iS L)=true then Tu L r x (pR L r.t).1.n j (nW r x) (iS L) 0 false (decide ((nW r x).1=0)) else []
theorem S5 (L:List aR) (r:aR) (x num pos:Int) (V:Int×Int):∀(l:List Int) (i:Nat) (was past:Bool),(Tu L r x num pos V l i was past).length<=l.length
 | [],_,_,_=>u7 _
 | t::l,i,was,past=>by
   unfold Tu;split
   ·have:=S5 L r x num pos V l (i+1) (Ga L r.p x t (dq L t x)) (past||isV L x V t)
    rw[aau,aaw];split;·simp;omega
    simp;omega
   have:=S5 L r x num pos V l (i+1) was past;rw[aaw];omega
theorem Ai {x pos:Int} {V:Int×Int} {t:Int} {l:List Int} {was past:Bool}:Tu L r x num pos V (t::l) i was past=if 0<dq L t x/\t≠r.t then
 (if Ga L r.p x t (dq L t x)=was then [] else [if past=true then ⟨num,i,5,x,V.1,V.2,t,dq L t x,pos⟩ else ⟨i,num,4,x,V.1,V.2,t,dq L t x,pos⟩]) ++
   Tu L r x num pos V l (i+1) (Ga L r.p x t (dq L t x)) (past||isV L x V t)
 else Tu L r x num pos V l (i+1) was past:=by rw[Tu]
theorem any_take {q:α->Bool} {l:List α} {a:α} (h:l[i]?=some a):(l.take (i+1)).any q=((l.take i).any q||q a):=by rw[aba,h,acy,List.any_append];simp
theorem f49 (ρ:aK) (hL:cP M b v L) (hb:b<=nx) (hl:L.length<=1000) (hr:L[j]?=some r) (Nq:dV r.p<=1000/\r.es.length<=1000) (hrt:yw r.p=true) (YC:vw r.p) (x:Int) :
 ar an ρ 49 [v,.int .i64 j,.int .u64 x] M nx (IQ nx M 9 bi (Wt L j r x)):=by
 obtain⟨row,cw,gS⟩:=id hL;have yY:j<L.length:=(aaq.1 hr).1;obtain⟨q,o,Oc,bC,aU⟩:=cw.elem (P:=an) yY (t:=57) (t':=114) nO.2.2.2.1 oH.1;have aU:=aU M (aq.refl _ _);have hRA:=gS j r hr;obtain⟨pk,pa,pb,pv,ve,dI,⟨p1,p2⟩,⟨q1,q2⟩,dZ,hp⟩:=hRA.cells;rw[dI]at aU hRA;refine ar.wk 145 [.tmp 6] Tryz.func49 ?_;refine gw iw bC aU p1 p2 q1 q2 ?_;generalize xu:aG (aG M _ _) _ _=M1;have a1:aq nx M M1:=by rw[<-xu];exact O
 have z8:gG M1 (nx+6)=some (.row [.int .i64 r.kind,.int .u64 r.t,.int .u64 r.x,.int .u64 r.w,.int .u64 r.n,.int .u64 r.v,.int .i64 pk,.int .u64 pa,.int .u64 pb,pv,ve]):=by rw[<-xu];exact J
 clear xu;refine lG (f91 ρ (hRA.agr (a1.le hb)) aa aa x) fun M2 n2 g2 g3=>?_
 obtain⟨V,hV⟩:=aap (nW r x);rw[<-hV];have z8:=(g2 (nx+6) aa).trans z8;have a2:=a1.trans (g2.le aa);clear g2 a1;refine bR iw ?_;generalize oM:aG (aG M2 _ _) _ _=M3;have a3:aq n2 M2 M3:=by rw[<-oM];exact O
 have z9:gG M3 n2=some (.row [.int .u64 V.1,.int .u64 V.2]):=by rw[<-oM];exact J
 clear oM;have z8:=(a3 _ aa).trans z8;have a3:aq nx M M3:=a2.trans (a3.le aa);clear a2;refine gQ (f92 ρ (hL.agr (a3.le hb)) aa aa) ?_;rintro⟨u,M4,n4⟩ ⟨OF,g2,g3⟩;simp only at OF g2 g3;have z8:=(g2 _ aa).trans z8;have z9:=(g2 _ aa).trans z9;have a4:aq nx M M4:=a3.trans (g2.le aa);clear g2 a3;refine mI iw z8 ?_;refine gQ (JR ρ (hL.agr (a4.le hb)) aa aa r.t) ?_;rintro⟨u5,M5,n5⟩ ⟨g1,g2,g3⟩;simp only at g1 g2 g3;subst g1;have z8:=(g2 _ aa).trans z8;have z9:=(g2 _ aa).trans z9;have OF:=OF.up (fun q _ hq=>g2 q aa) (Nat.le_of_lt_succ aa:_<=n5);have a5:aq nx M M5:=a4.trans (g2.le aa);clear g2 a4;obtain⟨a,ha0⟩:=aap ((pR L r.t).1);obtain⟨ab,qJ⟩:=aap ((pR L r.t).2);rw[<-ha0,<-qJ];simp only[d_];refine mI iw z9 ?_;generalize hM6:aG (aG M5 _ _) _ _=M6;have a6:aq n5 M5 M6:=by rw[<-hM6];exact O
 have z11:gG M6 (n5+3)=some (.row [.int .u64 a.t,.int .i64 a.b,.int .i64 a.e,.int .i64 a.s,.int .i64 a.n]):=by rw[<-hM6];exact J
 clear hM6;have z8:=(a6 _ aa).trans z8;have z9:=(a6 _ aa).trans z9;have OF:=OF.up (fun q _ hq=>a6 q aa) (u7 n5);have a6:aq nx M M6:=a5.trans (a6.le aa);clear a5;obtain⟨cl,cF⟩:=aap (iS L);have Zb:cl.length<=1000:=by rw[cF];exact aaT (Ar L) hl
 rw[<-cF]at OF;have Xe:=OF.at (u7 n5);have ay:=fun N=>Xe.len (P:=an) (t:=79) kr.2.2.2.2.2 N
 have hcu:=Xe.cell;have pH:Wt L j r x=if knR L r x V cl=true then Tu L r x a.n j V cl 0 false (decide (V.1=0)) else []:=by rw[cF,hV,ha0];rfl
 refine aC (fun m' s=>∃(i:Nat),i<=cl.length/\m'=cl.length - i/\gG s.env 0=some v/\gG s.env 1=some (.int .i64 j)/\gG s.env 2=some (.int .u64 x)/\gG s.env 7=some .nils/\gG s.env 8=some (.mp (nx+6) 0)/\gG s.env 9=some (.mp n2 0)/\gG s.env 10=some u/\gG s.env 11=some (.mp (n5+3) 0)/\gG s.env 13=some (.bool (knR L r x V (cl.take i)))/\gG s.env 14=some (.int .i64 i)/\aq (n5+11) M6 s.M/\n5+11<=s.nx) cl.length ⟨0,aa,aa,?_⟩ ?_
 ·refine bR iw ?_
  exact⟨by simp[knR],aq.refl _ _,aa⟩
 rintro m' ⟨env,M',nx'⟩ ⟨i,hi,ir,e0,e1,e2,e7,e8,e9,dx,kW,qI,pu,ha,hn⟩;simp only at e0 e1 e2 e7 e8 e9 dx kW qI pu ha hn;have y8:=(ha _ aa).trans z8;have y9:=(ha _ aa).trans z9;have y11:=(ha _ aa).trans z11;have aM:aq nx M M':=a6.trans (ha.le aa);by_cases aL:(i:Int)<cl.length
 ·have aP:i<cl.length:=aa
  obtain⟨t,ht⟩:=aao aP;have bV:=eF i;obtain⟨k1,o1,hkb1,TN,mi⟩:=Xe.fldG (P:=an) aP (t:=79) kr.2.2.2.1;have hlc:=fun N hN=>mi 0 (.int .u64 t) aa (by rw[eT nu ht];rfl) 31 1 cU.1 N hN
  rw[aaX]at hlc;have QR:=hlc M' (ha.le aa);clear mi;refine ii iw e0 e1 e2 e7 e8 e9 dx kW qI pu (aI ay (aI aL (aI TN QR))) ?_;refine lG (f93 ρ (hL.agr (aM.le hb)) aa aa t x) fun M7 n7 g2 g3=>?_
  have ha:=ha.trans (g2.le aa);obtain⟨c,hc⟩:=aap (dq L t x);rw[<-hc];refine dw iw e0 e1 e2 e7 e8 e9 dx kW qI pu ?_;generalize YL:aG (aG M7 _ _) _ _=M8;have a8:aq n7 M7 M8:=by rw[<-YL];exact O
  have y15:gG M8 (n7+3)=some (.row [.int .u64 t,.int .u64 c]):=by rw[<-YL];exact J
  clear YL;have ha:=ha.trans (a8.le aa);have y8:=(ha _ aa).trans z8;have y9:=(ha _ aa).trans z9;have hld8:=hlc M8 (ha.le aa);have QP:knR L r x V (cl.take (i+1))=(knR L r x V (cl.take i)||Wd L r x V t):=by unfold knR;rw[any_take ht,Bool.or_assoc]
  cases hkb:knR L r x V (cl.take i) with
  | true =>
    rw[hkb]at QP;rw[hkb]at qI;refine ii iw e0 e1 e2 e7 e8 e9 dx kW qI pu bV ?_;exact⟨cl.length - (i+1),aa,i+1,aa,rfl,by rw[QP];rfl,rfl,ha,aa⟩
  | false =>
    rw[hkb,abu]at QP;rw[hkb]at qI;by_cases h0:0<c
    ·by_cases h1:t=r.t
     ·have hf:Wd L r x V t=false:=by unfold Wd;simp[h1]
      refine ii iw e0 e1 e2 e7 e8 e9 dx kW qI pu (aI h0 (aI h1 (aI TN (aI hld8 (aI y8 bV))))) ?_;exact⟨cl.length - (i+1),aa,i+1,aa,rfl,by rw[QP,hf],rfl,ha,aa⟩
     have hf:Wd L r x V t=(decide (t=V.1)&&decide ((c:Int)=V.2)):=by unfold Wd isV;rw[<-hc];simp[h1,h0]
     refine ii iw e0 e1 e2 e7 e8 e9 dx kW qI pu (aI h0 (aI h1 (aI TN (aI hld8 (aI y8 (aI y9 (aI y15 bV))))))) ?_;exact⟨cl.length - (i+1),aa,i+1,aa,rfl,by rw[QP,hf],rfl,ha,aa⟩
    have hf:Wd L r x V t=false:=by unfold Wd;rw[<-hc];simp[h0]
    refine ii iw e0 e1 e2 e7 e8 e9 dx kW qI pu (aI h0 bV) ?_;exact⟨cl.length - (i+1),aa,i+1,aa,rfl,by rw[QP,hf],rfl,ha,aa⟩
 rw[aaz aa]at qI;cases QP:knR L r x V cl with
 | false =>
   rw[QP]at qI;refine ii iw e0 e1 e2 e7 e8 e9 dx kW qI pu (aI ay aL) ?_;rw[pH,QP];exact⟨fun _=>rfl,dG.nil _ _,aM,am⟩
 | true =>
   rw[QP]at qI;refine ii iw e0 e1 e2 e7 e8 e9 dx kW qI pu (aI ay (aI aL y9)) ?_;have z8:=y8;have z9:=y9;have z11:=y11;have aB:=aM;have OF:=OF.up (fun q _ hq=>ha q aa) (u7 n5);clear y8 y9 y11 aM Xe ay hcu;have Xe:=OF.at (u7 n5);have ay:=fun N=>Xe.len (P:=an) (t:=79) kr.2.2.2.2.2 N
   obtain⟨T,hT⟩:=aap (Tu L r x a.n j V cl 0 false (decide (V.1=0)));have pH:Wt L j r x=T:=by rw[pH,QP,if_pos rfl,hT]
   rw[pH];have hT0:T.length<=cl.length:=by rw[hT];exact S5 _ _ _ _ _ _ _ _ _ _
   clear pH QP;refine aC (fun m' s=>∃(i:Nat) (vv:XV) (acc:List aF) (was past:Bool),i<=cl.length/\m'=cl.length - i/\acc++Tu L r x a.n j V (cl.drop i) i was past=T/\(acc=[]->vv = .nils)/\gG s.env 0=some v/\gG s.env 1=some (.int .i64 j)/\gG s.env 2=some (.int .u64 x)/\gG s.env 7=some vv/\gG s.env 8=some (.mp (nx+6) 0)/\gG s.env 9=some (.mp n2 0)/\gG s.env 10=some u/\gG s.env 11=some (.mp (n5+3) 0)/\gG s.env 17=some (.bool was)/\gG s.env 18=some (.bool past)/\gG s.env 19=some (.int .i64 i)/\di s.M nx' s.nx vv 9 bi acc/\aq nx' M' s.M/\nx'<=s.nx) cl.length ⟨0,.nils,[],false,decide (V.1=0),aa,aa,by rw[hT];rfl,fun _=>rfl,?_⟩ ?_
   ·refine CU iw e0 e1 e2 e7 e8 e9 dx kW ?_
    exact⟨dG.nil _ _,aq.refl _ _,aa⟩
   clear e0 e1 e2 e7 e8 e9 dx kW qI pu aL hi ir hT;rintro m2 ⟨env2,M2',nx2⟩ ⟨i2,vv,acc,was,past,hi,ir,hG,Q6,e0,e1,e2,e7,e8,e9,dx,kW,CB,vT,vU,hv,Ub,fq⟩;simp only at e0 e1 e2 e7 e8 e9 dx kW CB vT vU hv Ub fq;have mD:acc.length<=1000:=by have:=congrArg adJ hG;rw[aau]at this;omega
   have aM:aq nx M M2':=aB.trans (Ub.le aa);by_cases aL:(i2:Int)<cl.length
   ·have aP:i2<cl.length:=aa
    obtain⟨t,ht⟩:=aao aP;have bV:=eF i2;obtain⟨k1,o1,hkb1,TN,mi⟩:=Xe.fldG (P:=an) aP (t:=79) kr.2.2.2.1;have hlc:=fun N hN=>mi 0 (.int .u64 t) aa (by rw[eT nu ht];rfl) 31 1 cU.1 N hN
    rw[aaX]at hlc;have QR:=hlc M2' (Ub.le aa);clear mi;have Gb:cl.drop i2=t::cl.drop (i2+1):=by obtain⟨h1,rfl⟩:=aaq.1 ht;rw[aaV h1]
    rw[Gb,Ai]at hG;refine ii iw e0 e1 e2 e7 e8 e9 dx kW CB vT (aI vU (aI ay (aI aL (aI TN QR)))) ?_;refine lG (f93 ρ (hL.agr (aM.le hb)) aa aa t x) fun M7 n7 g2 g3=>?_
    have hb7:=Ub.trans (g2.le aa);have hv:=hv.up (fun q _ hq=>g2 q aa) (u7 nx2);have hV0:isV L x V t=(decide (t=V.1)&&decide ((dq L t x:Int)=V.2)):=rfl;obtain⟨c,hc⟩:=aap (dq L t x);rw[<-hc]at hG hV0 ⊢;refine ii iw e0 e1 e2 e7 e8 e9 dx kW CB vT vU ?_;generalize YL:aG (aG M7 _ _) _ _=M8;have a8:aq n7 M7 M8:=by rw[<-YL];exact O
    have y20:gG M8 (n7+3)=some (.row [.int .u64 t,.int .u64 c]):=by rw[<-YL];exact J
    clear YL;have hb8:=hb7.trans (a8.le aa);have hv:=hv.up (fun q _ hq=>a8 q aa) (u7 nx2);have y8:=(hb8 _ aa).trans z8;have hld8:=hlc M8 (hb8.le aa);by_cases h0:0<c
    rotate_left
    ·rw[if_neg (fun h=>h0 h.1)]at hG
     refine ii iw e0 e1 e2 e7 e8 e9 dx kW CB vT (aI vU (aI h0 bV)) ?_;exact⟨cl.length - (i2+1),aa,i2+1,vv,acc,was,past,aa,rfl,hG,Q6,rfl,rfl,rfl,rfl,hv.up (fun _ _ _=>rfl) aa,hb8,aa⟩
    by_cases h1:t=r.t
    ·rw[if_neg (fun h=>h.2 h1)]at hG
     refine ii iw e0 e1 e2 e7 e8 e9 dx kW CB vT (aI vU (aI h0 (aI TN (aI hld8 (aI y8 (aI h1 bV)))))) ?_;exact⟨cl.length - (i2+1),aa,i2+1,vv,acc,was,past,aa,rfl,hG,Q6,rfl,rfl,rfl,rfl,hv.up (fun _ _ _=>rfl) aa,hb8,aa⟩
    rw[if_pos ⟨h0,h1⟩]at hG;refine ii iw e0 e1 e2 e7 e8 e9 dx kW CB vT (aI vU (aI h0 (aI TN (aI hld8 (aI y8 (aI h1 y20)))))) ?_;have aM8:aq nx M M8:=aB.trans (hb8.le aa);refine lG (f94 ρ (hL.agr (aM8.le hb)) (hp.agr (aM8.le hb)) aa aa Nq.1 hrt YC x t c) fun M9 n9 g2 g3=>?_
    have hb9:=hb8.trans (g2.le aa);have hv:=hv.up (fun q _ hq=>g2 q aa) (u7 nx2);have y9:=(hb9 _ aa).trans z9;have y11:=(hb9 _ aa).trans z11;have y20:=(g2 _ aa).trans y20;clear aM8 g2 a8 hb7 hb8 y8 QR hld8 aM;generalize Ga L r.p x t c=mm at hG ⊢;have ntt:(true != true)=false:=rfl;have nff:(false != false)=false:=rfl;have ntf:(true != false)=true:=rfl;have nft:(false != true)=true:=rfl;have hwm:∀e:aF,acc++([e]++Tu L r x a.n j V (cl.drop (i2+1)) (i2+1) mm (past||isV L x V t))=(acc++[e])++Tu L r x a.n j V (cl.drop (i2+1)) (i2+1) mm (past||isV L x V t):=fun e=>(abE _ _ _).symm
    by_cases hmw:mm=was
    ·rw[if_pos hmw,abp]at hG
     subst hmw;cases past with
     | true =>
       rw[acW]at hG;cases mm with
       | true =>
         refine ii iw e0 e1 e2 e7 e8 e9 dx kW CB vT (aI vU (aI bV (aI @Th (aI ntt nff)))) ?_;exact⟨cl.length - (i2+1),aa,i2+1,vv,acc,_,_,aa,rfl,hG,Q6,rfl,rfl,rfl,rfl,hv.up (fun _ _ _=>rfl) aa,hb9,aa⟩
       | false =>
         refine ii iw e0 e1 e2 e7 e8 e9 dx kW CB vT (aI vU (aI bV (aI @Th (aI ntt nff)))) ?_;exact⟨cl.length - (i2+1),aa,i2+1,vv,acc,_,_,aa,rfl,hG,Q6,rfl,rfl,rfl,rfl,hv.up (fun _ _ _=>rfl) aa,hb9,aa⟩
     | false =>
       rw[abu,hV0]at hG;cases mm with
       | true =>
         refine ii iw e0 e1 e2 e7 e8 e9 dx kW CB vT (aI vU (aI y9 (aI y20 (aI bV (aI @Th (aI ntt nff)))))) ?_;exact⟨cl.length - (i2+1),aa,i2+1,vv,acc,_,_,aa,rfl,hG,Q6,rfl,rfl,rfl,rfl,hv.up (fun _ _ _=>rfl) aa,hb9,aa⟩
       | false =>
         refine ii iw e0 e1 e2 e7 e8 e9 dx kW CB vT (aI vU (aI y9 (aI y20 (aI bV (aI @Th (aI ntt nff)))))) ?_;exact⟨cl.length - (i2+1),aa,i2+1,vv,acc,_,_,aa,rfl,hG,Q6,rfl,rfl,rfl,rfl,hv.up (fun _ _ _=>rfl) aa,hb9,aa⟩
    rw[if_neg hmw,hwm]at hG;obtain⟨E5,hE5⟩:∃e:aF,e=⟨a.n,i2,5,x,V.1,V.2,t,c,j⟩:=⟨_,rfl⟩;obtain⟨E4,hE4⟩:∃e:aF,e=⟨i2,a.n,4,x,V.1,V.2,t,c,j⟩:=⟨_,rfl⟩;have hap5:=fun z1 z2 z3 z4 z5=>(hv.up (N:=aG (aG (aG (aG (aG M9 (n9+12) z1) (n9+12) z2) (n9+12) z3) (n9+12) z4) (n9+12) z5) (fun q _ hq=>by simp only[ap];rw[if_neg aa,if_neg aa,if_neg aa,if_neg aa,if_neg aa]) (u7 _)).push E5 an 59 72 [.int .i64 0,.int .i64 0,.int .i64 0,.int .u64 0,.int .u64 0,.int .u64 0,.int .u64 0,.int .u64 0,.int .i64 0] aa aa rfl (by simp only[fE];omega) (by subst hE5;rfl)
    have hap2:=fun z1 z2=>(hv.up (N:=aG (aG M9 (n9+12) z1) (n9+12) z2) (fun q _ hq=>by simp only[ap];rw[if_neg aa,if_neg aa]) (u7 _)).push E4 an 59 72 [.int .i64 0,.int .i64 0,.int .i64 0,.int .u64 0,.int .u64 0,.int .u64 0,.int .u64 0,.int .u64 0,.int .i64 0] aa aa rfl (by simp only[fE];omega) (by subst hE4;rfl)
    have hc5:bi E5=[.int .i64 a.n,.int .i64 i2,.int .i64 5,.int .u64 x,.int .u64 V.1,.int .u64 V.2,.int .u64 t,.int .u64 c,.int .i64 j]:=by subst hE5;rfl
    have YR:bi E4=[.int .i64 i2,.int .i64 a.n,.int .i64 4,.int .u64 x,.int .u64 V.1,.int .u64 V.2,.int .u64 t,.int .u64 c,.int .i64 j]:=by subst hE4;rfl
    simp only[hc5]at hap5;have po:=fun(row:List XV) (H:Hp) (q:Nat) (h1:q<nx'\/nx2<=q) (h2:q≠n9+18)=>dG.push_old hv (key:=n9+18) (row:=row) H h1 h2
    simp only[YR]at hap2;cases past with
    | true =>
      rw[if_pos rfl,<-hE5,acW]at hG;cases mm with
      | true =>
        cases was with
        | true=>exact(hmw rfl).elim
        | false =>
          refine ii iw e0 e1 e2 e7 e8 e9 dx kW CB vT (aI vU (aI y9 (aI y11 (aI y20 (aI bV (aI @Th (aI ntf (aI nft (aI hap5 @Fo))))))))) ?_;refine⟨cl.length - (i2+1),aa,i2+1,_,acc++[E5],_,_,aa,rfl,hG,fun h=>absurd h af,rfl,rfl,rfl,rfl,?_,fun q hq=>?_,aa⟩;·subst hE5;exact hv.pushed _ aa aa rfl aa
          rw[dG.push_old hv _ (.inl aa) aa];have:=hb9 q hq;exact J
      | false =>
        cases was with
        | false=>exact(hmw rfl).elim
        | true =>
          refine ii iw e0 e1 e2 e7 e8 e9 dx kW CB vT (aI vU (aI y9 (aI y11 (aI y20 (aI bV (aI @Th (aI ntf (aI nft (aI hap5 @Fo))))))))) ?_;refine⟨cl.length - (i2+1),aa,i2+1,_,acc++[E5],_,_,aa,rfl,hG,fun h=>absurd h af,rfl,rfl,rfl,rfl,?_,fun q hq=>?_,aa⟩;·subst hE5;exact hv.pushed _ aa aa rfl aa
          rw[dG.push_old hv _ (.inl aa) aa];have:=hb9 q hq;exact J
    | false =>
      rw[if_neg af,<-hE4,abu,hV0]at hG;cases mm with
      | true =>
        cases was with
        | true=>exact(hmw rfl).elim
        | false =>
          refine ii iw e0 e1 e2 e7 e8 e9 dx kW CB vT (aI vU (aI y9 (aI y11 (aI y20 (aI bV (aI @Th (aI ntf (aI nft (aI hap2 (aI @Fo po)))))))))) ?_;refine⟨cl.length - (i2+1),aa,i2+1,_,acc++[E4],_,_,aa,rfl,hG,fun h=>absurd h af,rfl,rfl,rfl,rfl,?_,fun q hq=>?_,aa⟩;·subst hE4;exact hv.pushed _ aa aa rfl aa
          rw[dG.push_old hv _ (.inl aa) aa];have:=hb9 q hq;exact J
      | false =>
        cases was with
        | false=>exact(hmw rfl).elim
        | true =>
          refine ii iw e0 e1 e2 e7 e8 e9 dx kW CB vT (aI vU (aI y9 (aI y11 (aI y20 (aI bV (aI @Th (aI ntf (aI nft (aI hap2 (aI @Fo po)))))))))) ?_;refine⟨cl.length - (i2+1),aa,i2+1,_,acc++[E4],_,_,aa,rfl,hG,fun h=>absurd h af,rfl,rfl,rfl,rfl,?_,fun q hq=>?_,aa⟩;·subst hE4;exact hv.pushed _ aa aa rfl aa
          rw[dG.push_old hv _ (.inl aa) aa];have:=hb9 q hq;exact J
   rw[aaM aa]at hG;simp only[Tu,abn]at hG;refine ii iw e0 e1 e2 e7 e8 e9 dx kW CB vT (aI vU (aI ay aL)) ?_;rw[<-hG];exact⟨Q6,di.wkLo hv aa am,aM,am⟩
end
theorem il {l:List aR} (h:eA l r=0) (h1:r.kind≠1):bH l r.t=some false:=by obtain⟨b,hb⟩:=pd h h1;have:=lY h 5 aa;simp only[kM,hb,getD_some,adt]at this;rw[hb,this]
theorem gd (l:List aR) (r:aR):iS (l++[r])=iS l++if r.kind=6 then [r.t] else []:=by unfold iS;rw[tO];split<;>rfl
theorem ly (l:List aR) (r:aR) (t x:Int):dq (l++[r]) t x=dq l t x+(if fI r t x then 1 else 0):=by unfold dq;rw[filter_append,aau];congr 1;cases hh:fI r t x<;>simp[hh]
theorem lB {l:List α} {a r:α} (h:l[i]?=some a):(l++[r])[i]?=some a:=by rw[aa5 (aaq.1 h).1,h]
structure gO (S:HS) (l:List aR):Prop where
 com:S.com=iS l
 one:∀(j:Nat) a,S.txs[j]?=some a->a.s=1->∃(i e:Nat) (r:aR),a.n=(i:Int)/\(iS l)[i]?=some a.t/\a.e=(e:Int)/\l[e]?=some r/\r.kind=6/\r.t=a.t
 all:∀t,t ∈ iS l->bH l t=some true/\∃(j:Nat) (a:ku),S.txs[j]?=some a/\a.t=t/\a.s=1
 cnt:∀t (k:Nat) x,S.num t=some (k:Int)->(S.places k x).length=dq l t x
 none:∀t x,bH l t=abY->dq l t x=0
 last:∀(k:Nat) x (j:Nat) m,(S.places k x).getLast?=some (j:Int)->S.mods[j]?=some m->m.n=((S.places k x).length:Int)
theorem gO.start:gO vF []:=by
 refine⟨rfl,fun j a h=>?_,fun t h=>?_,fun t k x h=>?_,fun t x _=>rfl,fun k x j m h=>?_⟩;·simp[vF]at h
 ·simp[iS,gV]at h
 ·simp[vF]at h
 simp[vF]at h
section
variable {S:HS} {l:List aR} {r:aR}
theorem ye (h:¬ (r.kind=3\/r.kind=4)) (t x:Int):fI r t x=false:=by simp[fI,h]
theorem gO.looks {S':HS} (h:gO S l) (h6:r.kind≠6) (Vq:¬ (r.kind=3\/r.kind=4)) (he:∀t,bH (l++[r]) t=bH l t) (e1:S'.num=S.num) (e2:S'.txs=S.txs) (e3:S'.com=S.com) (e4:S'.mods=S.mods) (e5:S'.places=S.places):gO S' (l++[r]):=by
 have hc:iS (l++[r])=iS l:=by rw[gd,if_neg h6,abn]
 have hn:∀t x,dq (l++[r]) t x=dq l t x:=fun t x=>by rw[ly,ye Vq];rfl
 refine⟨by rw[e3,hc];exact h.com,fun j a ha hs=>?_,fun t ht=>?_,fun t k x hk=>?_,fun t x ht=>?_,fun k x j m hj hm=>?_⟩
 ·rw[e2]at ha
  obtain⟨i,e,q,h1,h2,h3,h4,h5⟩:=h.one j a ha hs;exact⟨i,e,q,h1,by rw[hc];exact h2,h3,lB h4,h5⟩
 ·rw[hc]at ht
  rw[he,e2];exact h.all t ht
 ·rw[e1]at hk
  rw[e5,hn];exact h.cnt t k x hk
 ·rw[he]at ht
  rw[hn];exact h.none t x ht
 rw[e5]at hj ⊢;rw[e4]at hm;exact h.last k x j m hj hm
theorem gO.begin (h:gO S l) (o:qV S l) (h1:r.kind=1) (hf:bH l r.t=abY) (i:Int):gO (S.begin i r) (l++[r]):=by
 have hc:iS (l++[r])=iS l:=by rw[gd,if_neg aa,abn]
 have hn:∀t x,dq (l++[r]) t x=dq l t x:=fun t x=>by rw[ly,ye aa];rfl
 have he:∀t,t≠r.t->bH (l++[r]) t=bH l t:=fun t ht=>by rw[bL];unfold de;rw[if_neg (fun e=>ht e.symm)]
 refine⟨by rw[hc];exact h.com,fun j a ha hs=>?_,fun t ht=>?_,fun t k x hk=>?_,fun t x ht=>?_,fun k x j m hj hm=>?_⟩
 ·simp only[HS.begin]at ha
  rw[getElem?_append]at ha;split at ha
  ·obtain⟨i,e,q,h1,h2,h3,h4,h5⟩:=h.one j a ha hs
   exact⟨i,e,q,h1,by rw[hc];exact h2,h3,lB h4,h5⟩
  have:=aaH ha;simp only[aaE]at this;subst this;simp at hs
 ·rw[hc]at ht
  obtain⟨q1,j,a,q2,q3⟩:=h.all t ht;have VT:t≠r.t:=fun e=>by rw[e,hf]at q1;cases q1
  rw[he t VT];exact⟨q1,j,a,lB q2,q3⟩
 ·simp only[HS.begin]at hk ⊢
  rw[hn];split at hk
  ·rename_i e
   simp only[aat]at hk;rw[if_pos aa,e,h.none r.t x hf];rfl
  obtain⟨j,a,e1,e2,_⟩:=o.num t k hk;have:=(aaq.1 e2).1;rw[if_neg aa];exact h.cnt t k x hk
 ·rw[hn]
  refine h.none t x ?_;by_cases e:t=r.t;·rw[e];exact hf
  rw[he t e]at ht;exact ht
 simp only[HS.begin]at hj hm ⊢;split at hj;·simp at hj
 rename_i e;rw[if_neg e];exact h.last k x j m hj hm
theorem gO.modify (h:gO S l) (o:qV S l) (Vq:r.kind=3\/r.kind=4) {k:Nat} (hk:S.num r.t=some (k:Int)) (i:Int) (hg:bH l r.t≠abY):gO (S.modify i r k) (l++[r]):=by
 have hc:iS (l++[r])=iS l:=by rw[gd,if_neg aa,abn]
 have he:∀t,bH (l++[r]) t=bH l t:=fun t=>by rw[bL,eJ aa aa aa]
 have hm:∀t x,fI r t x=(decide (r.t=t)&&decide (r.x=x)):=fun t x=>by simp[fI,Vq]
 refine⟨by rw[hc];exact h.com,fun j a ha hs=>?_,fun t ht=>?_,fun t k' x ia=>?_,fun t x ht=>?_,fun k' x j m hj ir=>?_⟩
 ·obtain⟨i,e,q,h1,h2,h3,h4,h5⟩:=h.one j a ha hs
  exact⟨i,e,q,h1,by rw[hc];exact h2,h3,lB h4,h5⟩
 ·rw[hc]at ht
  rw[he];exact h.all t ht
 ·have ia:S.num t=some (k':Int):=ia
  rw[ly,hm];simp only[HS.modify];have inj:k'=k ↔ r.t=t:=by
   constructor
   ·intro e
    subst e;obtain⟨j,a,e1,e2,e3⟩:=o.num _ _ hk;obtain⟨j',a',JS,NF,TT⟩:=o.num _ _ ia;have:j=j':=aa;subst this;rw[e2]at NF;cases NF;rw[<-e3,<-TT]
   intro e;subst e;rw[hk]at ia;simp only[aat]at ia;omega
  by_cases q1:k'=k
  ·have e1:=inj.1 q1
   subst q1;by_cases q2:x=r.x
   ·subst q2
    rw[if_pos ⟨rfl,rfl⟩,aau,h.cnt t k' r.x ia];simp[e1]
   rw[if_neg (by rintro⟨_,q⟩;exact q2 q),h.cnt t k' x ia];have:¬ r.x=x:=fun e=>q2 e.symm
   simp[this]
  rw[if_neg (by rintro⟨q,_⟩;exact q1 q),h.cnt t k' x ia];have:¬ r.t=t:=fun e=>q1 (inj.2 e)
  simp[this]
 ·rw[he]at ht
  rw[ly,hm,h.none t x ht];have:¬ r.t=t:=fun e=>hg (by rw[e];exact ht)
  simp[this]
 simp only[HS.modify]at hj ir ⊢;split at hj
 ·rename_i e
  rw[if_pos e];rw[getLast?_concat]at hj;simp only[aat]at hj;have:j=S.mods.length:=aa;subst this;rw[getElem?_concat_length]at ir;cases ir;simp
 rename_i e;rw[if_neg e];refine h.last k' x j m hj ?_;have hz:=acl hj;obtain⟨j',m',e1,e2,_⟩:=o.places k' x _ hz;have:j=j':=aa;subst this;rw[lB e2]at ir;cases ir;exact e2
theorem gO.endTx (h:gO S l) (o:qV S l) (Vr:r.kind=6\/r.kind=7) {k:Nat} {a a':ku} (hk:S.num r.t=some (k:Int)) (ha:S.txs[k]?=some a) (qL:a.t=r.t) (ht:a'.t=r.t) (hg:bH l r.t=some false) {com':List Int}
 (hc:com'=S.com++if r.kind=6 then [r.t] else []) (hs:a'.s=1->r.kind=6) (h6:r.kind=6->a'.s=1/\a'.e=(l.length:Int)/\a'.n=(S.com.length:Int)):gO (S.endTx k a' com') (l++[r]):=by
 have hn:∀t x,dq (l++[r]) t x=dq l t x:=fun t x=>by rw[ly,ye aa];rfl
 have kA:=(aaq.1 ha).1;have JJ:∀j,(S.txs.set k a')[j]?=if j=k then some a' else S.txs[j]?:=fun j=>by
  rw[getElem?_set];by_cases e:k=j;·rw[if_pos e,if_pos e.symm,if_pos aa]
  rw[if_neg e,if_neg (fun q=>e q.symm)]
 have sy:r.t ∉ iS l:=fun q=>by have:=(h.all _ q).1;rw[hg]at this;cases this
 refine⟨by simp only[HS.endTx];rw[hc,gd,h.com],fun j b hb lJ=>?_,fun t oe=>?_,fun t k' x ia=>?_,fun t x oe=>?_,fun k' x j m hj hm=>?_⟩
 ·simp only[HS.endTx]at hb
  rw[JJ]at hb;split at hb
  ·cases hb
   obtain⟨q1,q2,q3⟩:=h6 (hs lJ);refine⟨(iS l).length,l.length,r,by rw[q3,h.com],?_,q2,af,hs lJ,ht.symm⟩;rw[gd,if_pos (hs lJ),ht];simp
  obtain⟨i,e,q,h1,h2,h3,h4,h5⟩:=h.one j b hb lJ;refine⟨i,e,q,h1,?_,h3,lB h4,h5⟩;rw[gd];exact(aa5 (aaq.1 h2).1).trans h2
 ·rw[gd]at oe
  have HV:t=r.t/\r.kind=6\/t ∈ iS l:=by
   rcases abe.1 oe with q | q
   ·exact .inr q
   split at q;·rename_i e;exact .inl ⟨by simpa using q,e⟩
   cases q
  rcases HV with ⟨rfl,e6⟩ | q
  ·refine⟨by rw[bL];unfold de;rw[if_pos rfl,if_neg aa,if_pos Vr],k,a',?_,ht,(h6 e6).1⟩
   simp only[HS.endTx];rw[JJ,if_pos rfl]
  have VT:t≠r.t:=fun e=>sy (e ▸ q)
  obtain⟨q1,j,b,q2,q3,q4⟩:=h.all t q;refine⟨by rw[bL];unfold de;rw[if_neg (fun e=>VT e.symm)];exact q1,j,b,?_,q3,q4⟩;simp only[HS.endTx];rw[JJ,if_neg];·exact q2
  intro e;subst e;rw[ha]at q2;cases q2;exact VT (by rw[<-q3,qL])
 ·rw[hn]
  exact h.cnt t k' x ia
 ·rw[hn]
  refine h.none t x ?_;rw[bL]at oe;unfold de at oe;split at oe
  ·rw[if_neg aa]at oe
   first | cases oe | (rw[if_pos Vr]at oe;cases oe)
  exact oe
 exact h.last k' x j m hj hm
theorem gO.take (h:gO S l) (o:qV S l) (hr:eA l r=0):gO (S.take l.length r) (l++[r]):=by
 obtain⟨k1,k2⟩:=ru hr;by_cases e1:r.kind=1
 ·have:S.take l.length r=S.begin l.length r:=by simp only[HS.take,if_pos e1]
  rw[this];exact h.begin o e1 (jH hr e1) _
 have hb:=il hr e1;have cf:=o.begun _ _ hb;obtain⟨kk,sT⟩:=ne_none_iff_exists'.1 cf;obtain⟨k,a,rfl,ha,qL⟩:=o.num _ _ sT;have hk:((S.num r.t).getD 0).toNat=k:=by rw[sT];rfl
 by_cases e2:r.kind=2
 ·have:S.take l.length r=S.look ⟨l.length,0,r.t,r.x,r.w,r.n,false,false⟩:=by simp[HS.take,e2]
  rw[this];exact h.looks aa aa (fun t=>by rw[bL,eJ aa aa aa]) rfl rfl rfl rfl rfl
 by_cases DW:r.kind=3\/r.kind=4
 ·have:S.take l.length r=S.modify l.length r k:=by simp only[HS.take,if_neg e1,if_neg e2,if_pos DW,hk]
  rw[this];exact h.modify o DW sT _ (by rw[hb];simp)
 by_cases e5:r.kind=5
 ·have:S.take l.length r=S.preds l.length r r.es.length:=by simp[HS.take,e5]
  rw[this];obtain⟨q1,q2,q3,q4,q5,q6⟩:=oR S l.length r r.es.length;exact h.looks aa aa (fun t=>by rw[bL,eJ aa aa aa]) q1 q2 q3 q4 q5
 by_cases e6:r.kind=6
 ·have:S.take l.length r=S.endTx k ⟨r.t,a.b,l.length,1,(S.com.length:Int)⟩ (S.com++[r.t]):=by simp only[HS.take,if_neg e1,if_neg e2,if_neg DW,if_neg e5,if_pos e6,hk,ha]
  rw[this];exact h.endTx o (.inl e6) sT ha qL rfl hb (by rw[if_pos e6]) (fun _=>e6) fun _=>⟨rfl,rfl,rfl⟩
 have:S.take l.length r=S.endTx k ⟨r.t,a.b,l.length,2,a.n⟩ S.com:=by simp only[HS.take,if_neg e1,if_neg e2,if_neg DW,if_neg e5,if_neg e6,hk,ha]
 rw[this];exact h.endTx o (.inr aa) sT ha qL rfl hb (by rw[if_neg e6,abn]) (fun q=>by cases q) fun q=>absurd q e6
theorem rq {L:List aR} (hw:∀j r,L[j]?=some r->eA (L.take j) r=0) (he:∀r ∈ L,r.es.length<=1000):∀i,i<=L.length->gO (dL L i) (L.take i)
 | 0,_=>by rw[take_zero];exact gO.start
 | i+1,hi=>by
   have ih:=rq hw he i aa;obtain⟨r,hr⟩:∃r,L[i]?=some r:=⟨L[i],af⟩;have kB:L.take (i+1)=L.take i++[r]:=by rw[aba,hr];rfl
   have hl:(L.take i).length=i:=by rw[aaS];omega
   have:=ih.take (oc hw he i aa) (hw i r hr);rw[hl]at this;rw[kB];unfold dL;rw[hr];exact this
end
section
def Wf (L:List aR):Prop:=∀j r,L[j]?=some r->eA (L.take j) r=0
theorem xy {t:Int} {o:Option Bool} (h:o≠none):de t o r≠none:=by
 unfold de;split
 ·split
  ·simp
  split;·simp
  exact h
 exact h
theorem lF {L:List α} {r:α} (h:L[i]?=some r):L.take (i+1)=L.take i++[r]:=by rw[aba,h];rfl
theorem zq {L:List aR} {t:Int} {p:Nat} (h:bH (L.take p) t≠none):∀k,bH (L.take (p+k)) t≠none
 | 0=>h
 | k+1=>by
   have ih:=zq h k;cases hr:L[p+k]? with
   | none =>
     have:=acq.1 hr;rw[aaz aa]
     rwa [aaz aa]at ih
   | some r =>
     rw[<-Nat.add_assoc,lF hr,bL];exact xy ih
theorem Jh (hw:Wf L) {t:Int} {p:Nat} (h:bH (L.take p) t=some true):∀k,bH (L.take (p+k)) t=some true/\∀r,L[p+k]?=some r->r.t≠t
 | k=>by
   have key:∀k,bH (L.take (p+k)) t=some true:=by
    intro k
    induction k with
    | zero=>exact h
    | succ k ih =>
      cases hr:L[p+k]? with
      | none =>
        have:=acq.1 hr;rw[aaz aa]
        rwa [aaz aa]at ih
      | some r =>
        rw[<-Nat.add_assoc,lF hr,bL,ih];have cf:r.t≠t:=fun e=>by
         subst e;by_cases h1:r.kind=1
         ·have:=jH (hw _ r hr) h1
          rw[ih]at this;cases this
         have:=il (hw _ r hr) h1;rw[ih]at this;cases this
        unfold de;rw[if_neg cf]
   refine⟨key k,fun r hr e=>?_⟩;subst e;have ih:=key k;by_cases h1:r.kind=1
   ·have:=jH (hw _ r hr) h1
    rw[ih]at this;cases this
   have:=il (hw _ r hr) h1;rw[ih]at this;cases this
theorem Le (hw:Wf L) {t:Int} {a e:Nat} (hr:L[e]?=some r) (h6:r.kind=6) (ht:r.t=t) (ha:a<=e):∀k,e<a+k->pC L t a k=((e:Int),1):=by
 have qy:bH (L.take (e+1)) t=some true:=by rw[lF hr,bL];unfold de;rw[if_pos ht,if_neg aa,if_pos (.inl h6)]
 intro k
 induction k with
 | zero=>intro h;omega
 | succ k ih =>
   intro h;by_cases q:e<a+k
   ·simp only[pC]
    rw[ih q];cases hq:L[a+k]? with
    | none=>rfl
    | some r' =>
      have:=(Jh hw qy (a+k - (e+1))).2 r' (by rw[<-hq];congr 1;omega);simp only[qq];rw[if_neg (by rintro⟨h,_⟩;exact this h),if_neg (by rintro⟨h,_⟩;exact this h)]
   have:a+k=e:=aa;simp only[pC];rw[this,hr];simp only[qq];rw[if_pos ⟨ht,h6⟩]
theorem wS {t:Int}:∀{l:List ku},(∃a ∈ l,a.t=t)->(nj t l).1 ∈ l/\(nj t l).1.t=t
 | [],h=>by obtain⟨a,h,_⟩:=h;cases h
 | a::l,h=>by
   unfold nj;by_cases e:a.t=t
   ·rw[if_pos e]
    exact⟨aaC,e⟩
   rw[if_neg e];obtain⟨b,hb,ht⟩:=h;rcases aaK.1 hb with rfl | hb
   ·exact(e ht).elim
   obtain⟨h1,h2⟩:=wS ⟨b,hb,ht⟩;exact⟨aaJ _ h1,h2⟩
theorem Av {L:List aR} (hw:Wf L) {t:Int}:∀p,p<=L.length->bH (L.take p) t≠none->∃(a:Nat) (r:aR),a<p/\L[a]?=some r/\r.kind=1/\r.t=t
 | 0,_,h=>by simp[bH]at h
 | p+1,hp,h=>by
   obtain⟨r,hr⟩:∃r,L[p]?=some r:=⟨L[p],af⟩;by_cases q:bH (L.take p) t=none
   ·rw[lF hr,bL,q]at h
    unfold de at h;by_cases ht:r.t=t
    ·by_cases h1:r.kind=1
     ·exact⟨p,r,aa,hr,h1,ht⟩
     have:=il (hw p r hr) h1;rw[ht,q]at this;cases this
    rw[if_neg ht]at h;exact(h rfl).elim
   obtain⟨a,r',h1,h2⟩:=Av hw p aa q;exact⟨a,r',aa,h2⟩
theorem T3 (hw:Wf L) {t:Int} {e:Nat} (hr:L[e]?=some r) (h6:r.kind=6) (ht:r.t=t):(pR L t).1.e=(e:Int)/\(pR L t).1.s=1/\(pR L t).1.n=(JQ (L.take e):Int):=by
 have fF:=(aaq.1 hr).1;have hg:bH (L.take e) t=some false:=by rw[<-ht];exact il (hw e r hr) aa
 obtain⟨a0,r0,h1,h2,h3,h4⟩:=Av hw e aa (by rw[hg];simp);have F9:∀(a:Nat) (q:aR),L[a]?=some q->HY L a=⟨q.t,a,(pC L q.t a (L.length - a)).1,(pC L q.t a (L.length - a)).2,if (pC L q.t a (L.length - a)).2=1 then ((JQ (L.take (pC L q.t a (L.length - a)).1.toNat):Nat):Int) else -1⟩:=fun a q hq=>by unfold HY;rw[hq]
 obtain⟨g1,g2⟩:=wS (t:=t) (l:=Jg L) ⟨HY L a0,(iy _).2 ⟨a0,r0,h2,by rw[if_pos h3,aaU]⟩,by rw[F9 a0 r0 h2];exact h4⟩;obtain⟨k,q,k1,k2⟩:=(iy _).1 g1;split at k2
 ·rename_i Bi
  rw[aaU,F9 k q k1]at k2;simp only[aat]at k2;unfold pR;rw[<-k2]at g2 ⊢;simp only at g2 ⊢;have F0:k<=e:=by
   refine Nat.le_of_not_lt fun aL=>?_
   have:=jH (hw k q k1) Bi;rw[g2]at this;have h5:=zq (L:=L) (t:=t) (p:=e) (by rw[hg];simp) (k - e);rw[show e+(k - e)=k by omega]at h5;exact h5 this
  rw[g2,Le hw hr h6 ht F0 _ aa];exact⟨rfl,rfl,rfl⟩
 cases k2
theorem Pl (hw:Wf L) {t:Int} {e:Nat} (hr:L[e]?=some r) (h6:r.kind=6) (ht:r.t=t):(pR L t).1.e=(e:Int):=(T3 hw hr h6 ht).1
theorem wC {L:List aR} (hw:Wf L) (he:∀r ∈ L,r.es.length<=1000):∀i,i<=L.length->(iS (L.take i)).Nodup
 | 0,_=>by simp[iS,gV]
 | i+1,hi=>by
   obtain⟨r,hr⟩:∃r,L[i]?=some r:=⟨L[i],af⟩;have ih:=wC hw he i aa;rw[lF hr,gd];by_cases h6:r.kind=6
   ·rw[if_pos h6,nodup_append]
    refine⟨ih,af,fun a ha b hb=>?_⟩;simp only[aaE]at hb;subst hb;rintro rfl;have h1:=((rq hw he i aa).all _ ha).1;have:=il (hw i r hr) aa;rw[h1]at this;cases this
   rw[if_neg h6,abn];exact ih
theorem QU {l:List α} (h:l.Nodup) {a:α} (hi:l[i]?=some a) (hj:l[j]?=some a):i=j:=by have h1:=(aaq.1 hi);have h2:=(aaq.1 hj);obtain⟨h1,e1⟩:=h1;obtain⟨h2,e2⟩:=h2;exact(getElem_inj h).1 (e1.trans e2.symm)
open Classical in
theorem Ko (hw:Wf L) (he:∀r ∈ L,r.es.length<=1000) (x:Int) (e:bO):e ∈ dk (jN L) (jN L).mods x ↔ e ∈ gX L x:=by
 have o:=oc hw he L.length (u7 _);have h:=rq hw he L.length (u7 _);have xo:=wC hw he L.length (u7 _);rw[aa6]at o h xo;obtain⟨S,hS⟩:=aap (dL L L.length);have hH:jN L=S.done L.length S.txs.length fun j=>∃k,k<S.txs.length/\dl S k j:=by rw[hS];rfl
 rw[<-hS]at o h;obtain⟨P,hP⟩:∃P:Nat->Prop,P=fun j=>∃k,k<S.txs.length/\dl S k j:=⟨_,rfl⟩
 rw[hH,<-hP];obtain⟨F,hF⟩:=aap (S.done L.length S.txs.length P);rw[<-hF];have hFm:F.mods=fJ P S.mods:=by rw[hF];rfl
 have hFt:F.txs=xx L.length S.txs.length S.txs:=by rw[hF];rfl
 have hFn:F.num=S.num:=by rw[hF];rfl
 have tx:∀t (k:Nat) a,S.num t=some (k:Int)->S.txs[k]?=some a->(txR F t).1.s=a.s/\(txR F t).1.n=a.n/\(a.s=1->(txR F t).1.e=a.e):=fun t k a hk ha=>by
  unfold txR Ho;rw[hFn,hk];simp only[Int.toNat_natCast];rw[hFt,fw,ha];simp only[map_some];split;·rename_i q;exact⟨rfl,rfl,fun q'=>aa⟩
  exact⟨rfl,rfl,fun _=>rfl⟩
 have row:∀t (k:Nat) a m (j:Nat),S.num t=some (k:Int)->S.txs[k]?=some a->a.t=t->a.s=1->(S.places k x).getLast?=some (j:Int)->S.mods[j]?=some m->m.w=t/\m.n=(dq L t x:Int)/\0<dq L t x/\∃i:Nat,(iS L)[i]?=some t/\a.n=(i:Int)/\a.e=(pR L t).1.e:=fun t k a m j hk ha qL hs hj hm=>by
  obtain⟨j',m',q1,q2,q3,q4⟩:=o.places k x _ (acl hj);have:j=j':=aa;subst this;rw[hm]at q2;cases q2;obtain⟨k',q5,q6,q7,_⟩:=o.mods j m hm;obtain⟨i,e',r,r1,r2,r3,r4,r5,r6⟩:=h.one k a ha hs;have VJ:m.t=t:=by obtain⟨j1,a1,s1,s2,s3⟩:=o.num _ _ q4;have:k=j1:=aa;subst this;rw[ha]at s2;cases s2;rw[<-s3,qL]
  have D4:=h.last k x j m hj hm;have hc:=h.cnt t k x hk;have iu:0<(S.places k x).length:=length_pos_of_mem (acl hj);rw[qL]at r2 r6;exact⟨by rw[q7,VJ],by rw[D4,hc],aa,i,r2,r1,by rw[r3,Pl hw r4 r5 r6]⟩
 constructor
 ·intro hm
  obtain⟨j,m,h1,h2,h3,rfl⟩:=DC hm;rw[hFm,ie]at h1;cases h0:S.mods[j]? with
  | none=>rw[h0]at h1;cases h1
  | some m0 =>
    rw[h0]at h1;simp only[map_some,aat]at h1;subst h1;simp only at h2;unfold mL at h3;simp only[aaF,decide_eq_true_eq,ab0]at h3;obtain⟨hf,hs⟩:=h3;obtain⟨k,q1,q2,q3,q4,q5,q6,q7⟩:=o.mods j m0 h0;rw[q7]at hf;have Vs:P j:=hf.resolve_left af;rw[hP]at Vs;obtain⟨k',_,x',hl⟩:=Vs;obtain⟨j',m',r1,r2,r3,r4⟩:=o.places k' x' _ (acl hl);have:j=j':=aa;subst this;rw[h0]at r2;cases r2;have hk:k'=k:=by rw[q1]at r4;simp only[aat]at r4;omega
    subst hk;rw[<-r3,h2]at hl;obtain⟨j1,a,s1,s2,s3⟩:=o.num _ _ q1;have:k'=j1:=aa;subst this;obtain⟨t1,t2,t3⟩:=tx m0.t k' a q1 s2;obtain⟨u1,u2,u3,i,u4,u5,u6⟩:=row m0.t k' a m0 j q1 s2 s3 (by rw[<-t1];exact hs) hl h0;refine(iy _).2 ⟨i,m0.t,u4,?_⟩;unfold o7;rw[if_pos u3,aaU];unfold gf;simp only[aat,bO.mk.injEq];exact⟨u1.symm,u2.symm,by rw[t2,u5],by rw[t3 (by rw[<-t1];exact hs),u6]⟩
 intro hm;obtain⟨i,t,h1,h2⟩:=(iy _).1 hm;unfold o7 at h2;split at h2
 ·rename_i iu
  simp only[aat,aaU]at h2;obtain⟨_,k,a,q1,q2,q3⟩:=h.all t (aaH h1);have hk:S.num t=some (k:Int):=by rw[<-q2];exact o.txs k a q1
  have hc:=h.cnt t k x hk;cases hl:(S.places k x).getLast? with
  | none=>rw[getLast?_eq_none_iff]at hl;rw[hl]at hc;simp at hc;omega
  | some z =>
    obtain⟨j,m,r1,r2,r3,r4⟩:=o.places k x z (acl hl);subst r1;obtain⟨u1,u2,u3,i',u4,u5,u6⟩:=row t k a m j hk q1 q2 q3 hl r2;have Uq:=QU xo h1 u4;obtain⟨t1,t2,t3⟩:=tx t k a hk q1;have Vs:P j:=by rw[hP];exact⟨k,(aaq.1 q1).1,x,hl⟩
    have VJ:m.t=t:=by obtain⟨k',v1,v2,v3,_⟩:=o.mods j m r2;rw[<-v3,u1]
    refine mem_map.2 ⟨{ m with fin:=m.fin||decide (P j) },?_,?_⟩
    ·rw[abQ]
     refine⟨?_,?_⟩
     ·refine aaH (i:=j) ?_
      rw[hFm,ie,r2];rfl
     simp only[mL,VJ,r3,t1,q3,Vs,decide_true,Bool.or_true,Bool.and_true]
    rw[<-h2];unfold gf;simp only[VJ,bO.mk.injEq];exact⟨u1,u2,by rw[t2,u5,Uq],by rw[t3 q3,u6]⟩
 cases h2
theorem zB {α:Type} {f:Nat->α->Option bO} (hf:∀i a b,f i a=some b->b.wr=(i:Int)):∀(l:List α) (i:Nat),(gV f l i).Pairwise (fun a b=>a.wr<b.wr)/\∀b ∈ gV f l i,(i:Int)<=b.wr
 | [],i=>⟨Pairwise.nil,fun b hb=>by cases hb⟩
 | a::l,i=>by
   obtain⟨h1,h2⟩:=zB hf l (i+1);simp only[gV];cases h:f i a with
   | none=>exact⟨h1,fun b hb=>by have:=h2 b hb;omega⟩
   | some c =>
     have hc:=hf i a c h;refine⟨acJ.2 ⟨fun b hb=>by have:=h2 b hb;omega,h1⟩,fun b hb=>?_⟩;rcases aaK.1 hb with rfl | hb
     ·omega
     have:=h2 b hb;omega
theorem v_ (L:List aR) (x:Int):(gX L x).Pairwise (fun a b=>a.wr<b.wr)/\∀b ∈ gX L x,0<=b.wr:=by
 obtain⟨h1,h2⟩:=zB (f:=o7 L x) (fun i a b h=>by
  unfold o7 at h;split at h;·cases h;rfl
  cases h) (iS L) 0
 exact⟨h1,fun b hb=>by have:=h2 b hb;omega⟩
end
section
open Go.Proofs
def Rs (L:List aR) (i:Nat) (r:aR):fS:=⟨i,r.t,r.x,r.t,((1+dq (L.take i) r.t r.x:Nat):Int),r.v,decide (r.kind=4),decide (dq (L.drop (i+1)) r.t r.x=0)⟩
def wO (L:List aR):List fS:=gV (fun i r=>if r.kind=3\/r.kind=4 then some (Rs L i r) else none) L 0
theorem Ct (a:fS):(cO a).length=8:=rfl
theorem drop_take {k:Nat} {q:aR} (hk:L[k]?=some q) (h:i+1<=k) (t x:Int):dq ((L.take (k+1)).drop (i+1)) t x=dq ((L.take k).drop (i+1)) t x+(if fI q t x then 1 else 0):=by rw[adX,adX,show k+1 - (i+1)=(k - (i+1))+1 by omega];exact qS (by rw[getElem?_drop,<-hk];congr 1;omega) t x
theorem tw {k:Nat} (h:k<=i+1) (t x:Int):dq ((L.take k).drop (i+1)) t x=0:=by rw[aaM (by rw[aaS];omega)];rfl
theorem XC {k:Nat} {q:aR} (hk:L[k]?=some q) (t x:Int):dq (L.take (min (k+1) i)) t x=dq (L.take (min k i)) t x+(if fI q t x=true/\k<i then 1 else 0):=by
 by_cases h:k<i
 ·rw[abF aa,abF aa,qS hk]
  simp[h]
 rw[adm aa,adm aa];simp[h]
theorem WB {k:Nat} {q:aR} (hk:L[k]?=some q) (t x:Int):decide (dq ((L.take (k+1)).drop (i+1)) t x=0)=(decide (dq ((L.take k).drop (i+1)) t x=0) && !(fI q t x&&decide (i<k))):=by
 by_cases h:i<k
 ·rw[drop_take hk aa]
  cases fI q t x<;>simp[h]
 rw[tw aa,tw aa];simp[h]
theorem f88 (ρ:aK) (hL:cP M b v L) (hb:b<=nx) (hl:L.length<=100000):ar an ρ 88 [v] M nx (og nx M 8 cO (wO L)):=by
 obtain⟨row,cw,gS⟩:=hL;have ay:=fun N=>cw.len (P:=an) (t:=57) nO.2.2.2.2.2 N
 refine ar.wk 110 [.tmp 2] Tryz.func88 ?_;refine bR jk ?_;obtain⟨f,hf⟩:∃f:Nat->aR->Option fS,f=fun i r=>if r.kind=3\/r.kind=4 then some (Rs L i r) else none:=⟨_,rfl⟩
 have yI:wO L=gV f L 0:=by rw[hf];rfl
 refine aC (fun m' s=>∃(i:Nat) (vv:XV),i<=L.length/\m'=L.length - i/\gG s.env 0=some v/\gG s.env 3=some vv/\gG s.env 4=some (.int .i64 i)/\di s.M nx s.nx vv 8 cO (gV f (L.take i) 0)/\aq nx M s.M/\nx<=s.nx) L.length ⟨0,.nils,aa,aa,?_⟩ ?_
 ·refine bR jk ?_
  exact⟨dG.nil _ _,aq.refl _ _,aa⟩
 rintro m' ⟨env,M',nx'⟩ ⟨i,vv,hi,ir,e0,e3,e4,hv,ha,hn⟩;simp only at e0 e3 e4 hv ha hn;by_cases aL:(i:Int)<L.length
 ·have aP:i<L.length:=aa
  obtain⟨r,hr⟩:=aao aP;have bV:=eF i;have kS:=iM f hr;have Gl:=dS f (L.take i) 0;have FZ:(L.take i).length<=100000:=by rw[aaS];omega
  obtain⟨n,o,jw,bC,aU⟩:=cw.elem (P:=an) aP (t:=57) (t':=114) nO.2.2.2.1 oH.1;have aU:=aU M' (ha.le hb);obtain⟨pk,pa,pb,pv,ve,dI,⟨p1,p2⟩,⟨q1,q2⟩,_⟩:=(gS i r hr).cells;rw[dI]at aU;generalize hB:Code.block 1 _=B;refine iQ jk e0 e3 e4 ay aL bC aU ?_;subst hB;rw[l9];by_cases hm:r.kind=3\/r.kind=4
  ·refine Po (fun s=>∃(E5 E6:Nat),gG s.env 0=some v/\gG s.env 3=some vv/\gG s.env 4=some (.int .i64 i)/\gG s.env 5=some (.mp E5 0)/\gG s.env 6=some (.mp E6 0)/\nx'<=E5/\E5<E6/\E6<s.nx /\
    gG s.M E5=some (.row [.int .i64 r.kind,.int .u64 r.t,.int .u64 r.x,.int .u64 r.w,.int .u64 r.n,.int .u64 r.v,.int .i64 pk,.int .u64 pa,.int .u64 pb,pv,ve]) /\
    gG s.M E6=some (.row [.int .i64 i,.int .u64 r.t,.int .u64 r.x,.int .u64 r.t,.int .u64 1,.int .u64 r.v,.bool (decide (r.kind=4)),.bool true])/\aq nx' M' s.M/\nx'<=s.nx) ?_ ?_
   ·rcases hm with h3 | h4
    ·refine ii jk e0 e3 e4 bC aU p1 p2 q1 q2 h3 @bU ?_
     exact⟨_,_,rfl,rfl,aa,aa,aa,(by repeat (first | rw[if_pos (show aw _ _ from rfl)] | rw[if_neg (by simp only[aw];omega)])),(by repeat (first | rw[if_pos (show aw _ _ from rfl)] | rw[if_neg (by simp only[aw];omega)])),O,aa⟩
    refine ii jk e0 e3 e4 bC aU p1 p2 q1 q2 h4 @bU ?_;exact⟨_,_,rfl,rfl,aa,aa,aa,(by repeat (first | rw[if_pos (show aw _ _ from rfl)] | rw[if_neg (by simp only[aw];omega)])),(by repeat (first | rw[if_pos (show aw _ _ from rfl)] | rw[if_neg (by simp only[aw];omega)])),O,aa⟩
   rintro⟨env,M2,n2⟩ ⟨E5,E6,e0,e3,e4,e5,e6,sP,CC,Qt,z5,z6,jX,fq⟩;simp only at e0 e3 e4 e5 e6 Qt z5 z6 jX fq;have My:gV f (L.take (i+1)) 0=gV f (L.take i) 0++[Rs L i r]:=by rw[kS,hf];simp only[if_pos hm,acy]
   clear aU bC kS p1 p2 q1 q2 dI;refine iC jk e0 e3 e4 e5 e6 ?_;refine aC (fun m' s=>∃(k:Nat),k<=L.length/\m'=L.length - k/\gG s.env 0=some v/\gG s.env 3=some vv/\gG s.env 4=some (.int .i64 i)/\gG s.env 5=some (.mp E5 0)/\gG s.env 6=some (.mp E6 0)/\gG s.env 7=some (.int .i64 k)/\E6<s.nx /\
    gG s.M E5=some (.row [.int .i64 r.kind,.int .u64 r.t,.int .u64 r.x,.int .u64 r.w,.int .u64 r.n,.int .u64 r.v,.int .i64 pk,.int .u64 pa,.int .u64 pb,pv,ve]) /\
    gG s.M E6=some (.row [.int .i64 i,.int .u64 r.t,.int .u64 r.x,.int .u64 r.t,.int .u64 ((1+dq (L.take (min k i)) r.t r.x:Nat):Int),.int .u64 r.v,.bool (decide (r.kind=4)),.bool (decide (dq ((L.take k).drop (i+1)) r.t r.x=0))])/\aq nx' M' s.M/\nx'<=s.nx) L.length ⟨0,aa,aa,?_⟩ ?_
   ·refine iQ jk e0 e3 e4 e5 e6 z5 z6 ?_
    exact⟨aa,by rw[Nat.zero_min];simp[dq],jX,aa⟩
   rintro m2 ⟨env,M3,n3⟩ ⟨k,hk,JE,e0,e3,e4,e5,e6,e7,Qt,z5,z6,oN,ZS⟩;simp only at e0 e3 e4 e5 e6 e7 Qt z5 z6 oN ZS;by_cases kA:(k:Int)<L.length
   ·have AY:k<L.length:=aa
    obtain⟨q,hq⟩:=aao AY;have TP:=eF k;obtain⟨n,o,jw,bC,mi⟩:=cw.fldG (P:=an) AY (t:=57) nO.2.2.2.1;obtain⟨_,_,_,_,_,dI,_⟩:=(gS _ q hq).cells;have NJ:=mi 0 (.int .i64 q.kind) aa (by rw[dI];rfl) 3 1 dA.1 M3 ((ha.trans (oN.le aa)).le hb);have Qq:=mi 1 (.int .u64 q.t) aa (by rw[dI];rfl) 31 1 cU.1 M3 ((ha.trans (oN.le aa)).le hb);have Qr:=mi 2 (.int .u64 q.x) aa (by rw[dI];rfl) 31 1 cU.1 M3 ((ha.trans (oN.le aa)).le hb);rw[aaX]at NJ;obtain⟨nn,F7⟩:=aap (1+dq (L.take (min k i)) r.t r.x);obtain⟨ff,hff⟩:=aap (decide (dq ((L.take k).drop (i+1)) r.t r.x=0));have hnb1:nn<=100001:=by have:=Dc (L.take (min k i)) r.t r.x;rw[aaS]at this;omega
    rw[<-F7,<-hff]at z6;clear mi dI cw;generalize hB:Code.block 3 _=B;refine CU jk e0 e3 e4 e5 e6 e7 ay kA ?_;subst hB;rw[l9];refine yo (fun s=>gG s.env 0=some v/\gG s.env 3=some vv/\gG s.env 4=some (.int .i64 i)/\gG s.env 5=some (.mp E5 0)/\gG s.env 6=some (.mp E6 0)/\gG s.env 7=some (.int .i64 k)/\gG s.env 8=some (.bool (fI q r.t r.x))/\s.M=M3/\n3<=s.nx) ?_ ?_
    ·by_cases k3:q.kind=3
     ·by_cases kt:q.t=r.t
      ·by_cases kx:q.x=r.x
       ·refine ii jk e0 e3 e4 e5 e6 e7 bC NJ Qq Qr (aI z5 (aI k3 (aI kt (aI kx @bU)))) ?_
        exact⟨by simp[fI,k3,kt,kx],aa⟩
       refine ii jk e0 e3 e4 e5 e6 e7 bC NJ Qq Qr (aI z5 (aI k3 (aI kt (aI kx @bU)))) ?_;exact⟨by simp[fI,k3,kt,kx],aa⟩
      refine ii jk e0 e3 e4 e5 e6 e7 bC NJ Qq Qr (aI z5 (aI k3 (aI kt @bU))) ?_;exact⟨by simp[fI,k3,kt],aa⟩
     by_cases k4:q.kind=4
     ·by_cases kt:q.t=r.t
      ·by_cases kx:q.x=r.x
       ·refine ii jk e0 e3 e4 e5 e6 e7 bC NJ Qq Qr (aI z5 (aI k4 (aI kt (aI kx @bU)))) ?_
        exact⟨by simp[fI,k4,kt,kx],aa⟩
       refine ii jk e0 e3 e4 e5 e6 e7 bC NJ Qq Qr (aI z5 (aI k4 (aI kt (aI kx @bU)))) ?_;exact⟨by simp[fI,k4,kt,kx],aa⟩
      refine ii jk e0 e3 e4 e5 e6 e7 bC NJ Qq Qr (aI z5 (aI k4 (aI kt @bU))) ?_;exact⟨by simp[fI,k4,kt],aa⟩
     refine ii jk e0 e3 e4 e5 e6 e7 bC NJ Qq Qr (aI z5 (aI k3 (aI k4 @bU))) ?_;exact⟨by simp[fI,k3,k4],aa⟩
    rintro⟨env,M4,n4⟩ ⟨e0,e3,e4,e5,e6,e7,e8,rfl,QX⟩;simp only at e0 e3 e4 e5 e6 e7 e8 QX;have hN:=XC (i:=i) hq r.t r.x;have hF:=WB (i:=i) hq r.t r.x;obtain⟨nn',Bb⟩:=aap (1+dq (L.take (min (k+1) i)) r.t r.x);obtain⟨ff',yL⟩:=aap (decide (dq ((L.take (k+1)).drop (i+1)) r.t r.x=0));rw[<-yL,<-hff]at hF;obtain⟨a,hma⟩:=aap (fI q r.t r.x);rw[<-hma]at e8 hN hF;have yZ:nn'=nn+(if a=true/\k<i then 1 else 0):=aa;cases a with
    | false =>
      have fq:nn=nn':=by simp at yZ;omega
      cases ff with
      | true =>
        have sS:ff'=true:=by simpa using hF
        refine dw jk e0 e3 e4 e5 e6 e7 e8 z5 z6 TP ?_;exact⟨L.length - (k+1),aa,k+1,aa,rfl,rfl,aa,by rw[<-Bb,<-yL,sS,fq],fun q hq=>(by have:=oN q hq;exact J),aa⟩
      | false =>
        have sS:ff'=false:=by simpa using hF
        refine dw jk e0 e3 e4 e5 e6 e7 e8 z5 z6 TP ?_;exact⟨L.length - (k+1),aa,k+1,aa,rfl,rfl,aa,by rw[<-Bb,<-yL,sS,fq],fun q hq=>(by have:=oN q hq;exact J),aa⟩
    | true =>
      by_cases mo:(k:Int)<i
      ·have fq:IntKind.u64.wrap ((nn:Int)+1)=(nn':Int):=by rw[wrap_u64 aa aa];rw[if_pos ⟨rfl,aa⟩]at yZ;omega
       have vg:¬ (i:Int)<k:=aa;have JA:decide (i<k)=false:=decide_eq_false aa;rw[JA]at hF;cases ff with
       | true =>
         have sS:ff'=true:=by simpa using hF
         refine ii jk e0 e3 e4 e5 e6 e7 e8 z5 z6 TP (aI mo (aI vg fq)) ?_;exact⟨L.length - (k+1),aa,k+1,aa,rfl,rfl,aa,by rw[<-Bb,<-yL,sS],fun q hq=>(by have:=oN q hq;exact J),aa⟩
       | false =>
         have sS:ff'=false:=by simpa using hF
         refine ii jk e0 e3 e4 e5 e6 e7 e8 z5 z6 TP (aI mo (aI vg fq)) ?_;exact⟨L.length - (k+1),aa,k+1,aa,rfl,rfl,aa,by rw[<-Bb,<-yL,sS],fun q hq=>(by have:=oN q hq;exact J),aa⟩
      have fq:nn=nn':=by rw[if_neg (fun h=>mo aa)]at yZ;omega
      by_cases vg:(i:Int)<k
      ·have JA:decide (i<k)=true:=decide_eq_true aa
       rw[JA]at hF;have sS:ff'=false:=by simpa using hF
       cases ff with
       | true =>
         refine ii jk e0 e3 e4 e5 e6 e7 e8 z5 z6 TP (aI mo vg) ?_;exact⟨L.length - (k+1),aa,k+1,aa,rfl,rfl,aa,by rw[<-Bb,<-yL,sS,fq],fun q hq=>(by have:=oN q hq;exact J),aa⟩
       | false =>
         refine ii jk e0 e3 e4 e5 e6 e7 e8 z5 z6 TP (aI mo vg) ?_;exact⟨L.length - (k+1),aa,k+1,aa,rfl,rfl,aa,by rw[<-Bb,<-yL,sS,fq],fun q hq=>(by have:=oN q hq;exact J),aa⟩
      have JA:decide (i<k)=false:=decide_eq_false aa;rw[JA]at hF;cases ff with
      | true =>
        have sS:ff'=true:=by simpa using hF
        refine ii jk e0 e3 e4 e5 e6 e7 e8 z5 z6 TP (aI mo vg) ?_;exact⟨L.length - (k+1),aa,k+1,aa,rfl,rfl,aa,by rw[<-Bb,<-yL,sS,fq],fun q hq=>(by have:=oN q hq;exact J),aa⟩
      | false =>
        have sS:ff'=false:=by simpa using hF
        refine ii jk e0 e3 e4 e5 e6 e7 e8 z5 z6 TP (aI mo vg) ?_;exact⟨L.length - (k+1),aa,k+1,aa,rfl,rfl,aa,by rw[<-Bb,<-yL,sS,fq],fun q hq=>(by have:=oN q hq;exact J),aa⟩
   have F0:k=L.length:=aa;subst F0;have JF:Rs L i r=⟨i,r.t,r.x,r.t,((1+dq (L.take (min L.length i)) r.t r.x:Nat):Int),r.v,decide (r.kind=4),decide (dq ((L.take L.length).drop (i+1)) r.t r.x=0)⟩:=by rw[adm aa,aa6];rfl
   obtain⟨md,ZO⟩:=aap (Rs L i r);rw[<-ZO]at JF My;have hz:gG M3 E6=some (.row (cO md)):=by rw[z6,JF];rfl
   have hv3:di M3 nx n3 vv 8 cO (gV f (L.take i) 0):=hv.up (fun q _ hq=>oN q aa) aa;have dX:=hv3.push md an 180 56 [.int .i64 0,.int .u64 0,.int .u64 0,.int .u64 0,.int .u64 0,.int .u64 0,.bool false,.bool false] aa aa rfl (by simp only[fE];omega) rfl;simp only[cO]at dX hz;clear z6 JF;refine ii jk e0 e3 e4 e5 e6 e7 ay kA hz dX bV ?_;refine⟨L.length - (i+1),aa,i+1,_,aa,rfl,rfl,rfl,?_,fun q hq=>?_,aa⟩
   ·rw[My]
    exact hv3.pushed md aa aa rfl aa
   rw[dG.push_old hv3 _ (.inl hq) aa];have:=(oN q aa).trans (ha q hq);exact J
  have h3:¬ r.kind=3:=fun h=>hm (.inl h)
  have h4:¬ r.kind=4:=fun h=>hm (.inr h)
  have h_:f i r=none:=by rw[hf];simp[h3,h4]
  rw[h_]at kS;refine ii jk e0 e3 e4 bC aU p1 p2 q1 q2 h3 (aI h4 bV) ?_;refine⟨L.length - (i+1),aa,i+1,_,aa,rfl,rfl,rfl,?_,(by(repeat (refine aq.set ?_ aa _));exact ha),aa⟩;rw[kS,toList_none,abn];exact hv.up (fun q _ hq=>J) aa
 have gB:i=L.length:=aa;refine gw jk e0 e3 e4 ay aL @og.eq_1 ?_;rw[gB,aa6,<-yI]at hv;exact⟨hv.up (fun _ _ _=>rfl) aa,ha,aa⟩
def Bg {α β:Type} (f:Nat->α->List β):List α->Nat->List β
 | [],_=>[]
 | a::l,i=>f i a++Bg f l (i+1)
theorem VG {α β:Type} (f:Nat->α->List β) (a:α):∀(l:List α) (i:Nat),Bg f (l++[a]) i=Bg f l i++f (i+l.length) a
 | [],i=>by simp[Bg]
 | x::l,i=>by simp only[cons_append,Bg,VG f a l (i+1),aaw,abE];rw[show i+1+l.length=i+(l.length+1) by omega]
theorem Ht {β:Type} (f:Nat->α->List β) {l:List α} {a:α} (h:l[i]?=some a):Bg f (l.take (i+1)) 0=Bg f (l.take i) 0++f i a:=by have hi:=(aaq.1 h).1;rw[aba,h];simp only[acy];rw[VG,aaU,aaS,abF aa]
theorem DM {α β:Type} (f:Nat->α->List β) (m:Nat):∀(l:List α) (i:Nat),(∀j a,a ∈ l->(f j a).length<=m)->(Bg f l i).length<=l.length*m
 | [],_,_=>by simp[Bg]
 | a::l,i,h=>by
   have h1:=h i a aaC;have h2:=DM f m l (i+1) fun j b hb=>h j b (aaJ _ hb)
   simp only[Bg,aau,aaw,succ_mul];omega
def JO (i:Nat) (r:aR) (k:Nat) (e:En):my:=⟨i,k,r.t,e.x,e.w,e.n,true,e.m⟩
def P9 (i:Nat) (r:aR):List my:=if r.kind=2 then [⟨i,0,r.t,r.x,r.w,r.n,false,false⟩] else []
def GP (i:Nat) (r:aR):List my:=P9 i r++gV (fun k e=>some (JO i r k e)) r.es 0
def ro (L:List aR):List my:=Bg GP L 0
theorem DD (i:Nat) (r:aR):(P9 i r).length<=1:=by unfold P9;split<;>simp
theorem K6 (i:Nat) (r:aR):(GP i r).length<=1+r.es.length:=by have:=DD i r;have:=dS (fun k e=>some (JO i r k e)) r.es 0;unfold GP;rw[aau];omega
theorem zD (a:my):(cX a).length=8:=rfl
theorem xa (hl:L.length<=1000) (he:∀r ∈ L,r.es.length<=1000) (i:Nat):(Bg GP (L.take i) 0).length<=1001000:=by
 have:=DM GP 1001 (L.take i) 0 fun j a ha=>by have:=K6 j a;have:=he a (acN ha);omega
 have h2:(L.take i).length<=1000:=by rw[aaS];omega
 have h3:(L.take i).length*1001<=1000*1001:=mul_le_mul_right _ h2;omega
theorem f89 (ρ:aK) (hL:cP M b v L) (hb:b<=nx) (hl:L.length<=1000) (he:∀r ∈ L,r.es.length<=1000):ar an ρ 89 [v] M nx (og nx M 8 cX (ro L)):=by
 obtain⟨row,cw,gS⟩:=hL;have ay:=fun N=>cw.len (P:=an) (t:=57) nO.2.2.2.2.2 N
 refine ar.wk 59 [.tmp 2] Tryz.func89 ?_;refine bR zb ?_;have yI:ro L=Bg GP L 0:=rfl;refine aC (fun m' s=>∃(i:Nat) (vv:XV),i<=L.length/\m'=L.length - i/\gG s.env 0=some v/\gG s.env 3=some vv/\gG s.env 4=some (.int .i64 i)/\di s.M nx s.nx vv 8 cX (Bg GP (L.take i) 0)/\aq nx M s.M/\nx<=s.nx) L.length ⟨0,.nils,aa,aa,?_⟩ ?_
 ·refine bR zb ?_
  exact⟨dG.nil _ _,aq.refl _ _,aa⟩
 rintro m' ⟨env,M',nx'⟩ ⟨i,vv,hi,ir,e0,e3,e4,hv,ha,hn⟩;simp only at e0 e3 e4 hv ha hn;by_cases aL:(i:Int)<L.length
 ·have aP:i<L.length:=aa
  obtain⟨r,hr⟩:=aao aP;have her:=he r (aaH hr);have bV:=eF i;have kS:=Ht GP hr;have Gl:=xa hl he i;obtain⟨n,o,jw,bC,aU⟩:=cw.elem (P:=an) aP (t:=57) (t':=114) nO.2.2.2.1 oH.1;have aU:=aU M' (ha.le hb);obtain⟨pk,pa,pb,pv,ve,dI,⟨p1,p2⟩,⟨q1,q2⟩,dZ,_⟩:=(gS i r hr).cells;rw[dI]at aU;obtain⟨prev,UH⟩:=aap (Bg GP (L.take i) 0);rw[<-UH]at hv kS Gl;generalize hB:Code.block 1 _=B;refine iC zb e0 e3 e4 ay aL ?_;subst hB;rw[l9];refine yz (fun s=>∃(E5:Nat) (vv:XV),gG s.env 0=some v/\gG s.env 3=some vv/\gG s.env 4=some (.int .i64 i)/\gG s.env 5=some (.mp E5 0)/\nx'<=E5/\E5<s.nx /\
   gG s.M E5=some (.row [.int .i64 r.kind,.int .u64 r.t,.int .u64 r.x,.int .u64 r.w,.int .u64 r.n,.int .u64 r.v,.int .i64 pk,.int .u64 pa,.int .u64 pb,pv,ve]) /\
   gY s.M (fun q=>nx<=q/\q<s.nx/\q≠E5) vv 8 cX (prev++P9 i r)/\aq nx M s.M/\nx'<=s.nx) ?_ ?_
  ·by_cases h2:r.kind=2
   ·have sW:∀y z,gY (aG (aG M' (nx'+8) y) (nx'+8) z) (fun q=>nx<=q/\q<nx') vv 8 cX prev:=fun y z=>dG.keep hv fun q hq=>⟨(by have:=hq.2;exact J),hq⟩
    have dX:=fun y z=>(sW y z).push (hi:=nx') (fun q hq=>hq.2) ⟨i,0,r.t,r.x,r.w,r.n,false,false⟩ an 182 56 [.int .i64 0,.int .i64 0,.int .u64 0,.int .u64 0,.int .u64 0,.int .u64 0,.bool false,.bool false] aa aa rfl (by simp only[fE];omega) rfl
    simp only[cX]at dX;refine ii zb e0 e3 e4 bC aU p1 p2 q1 q2 h2 (aI dX @bU) ?_;refine⟨_,rfl,aa,aa,?_,?_,fun q hq=>?_,aa⟩
    ·rw[dG.push_oldP hv _ (by intro h;omega) aa]
     exact J
    ·rw[show P9 i r=[_] from if_pos h2]
     exact(sW (.cst []) (.cst [])).pushed ⟨i,0,r.t,r.x,r.w,r.n,false,false⟩ (show nx<=_/\_/\_ from ⟨aa,aa,aa⟩) rfl aa
    rw[dG.push_oldP hv _ (by intro h;omega) aa];have:=ha q hq;exact J
   refine ii zb e0 e3 e4 bC aU p1 p2 q1 q2 h2 @bU ?_;refine⟨_,rfl,aa,aa,(by repeat (first | rw[if_pos (show aw _ _ from rfl)] | rw[if_neg (by simp only[aw];omega)])),?_,(by(repeat (refine aq.set ?_ aa _));exact ha),aa⟩;rw[show P9 i r=[] from if_neg h2,abn];exact dG.keep hv fun q hq=>(by obtain⟨r1,r2⟩:nx<=q/\q<nx':=hq;exact⟨J,aa,aa,aa⟩)
  rintro⟨env,M2,n2⟩ ⟨E5,vv,e0,e3,e4,e5,sP,CC,z5,hv,jX,fq⟩;simp only at e0 e3 e4 e5 CC z5 hv jX fq;obtain⟨base,V9⟩:=aap (prev++P9 i r);have xj:base.length<=1001001:=by have:=DD i r;rw[V9,aau];omega
  rw[<-V9]at hv;have My:Bg GP (L.take (i+1)) 0=base++gV (fun k e=>some (JO i r k e)) r.es 0:=by rw[kS,V9,GP,abE]
  have Mx:bE M2 b ve 4 r.es.length (r.es.flatMap gq):=dZ.agr (jX.le hb);have fF:=fun N=>Mx.len (P:=an) (t:=112) qi.2.2.2.2.2 N
  clear aU bC kS p1 p2 dI;refine mY zb e0 e3 e4 e5 ?_;refine aC (fun m' s=>∃(k:Nat) (vv:XV),k<=r.es.length/\m'=r.es.length - k/\gG s.env 0=some v/\gG s.env 3=some vv/\gG s.env 4=some (.int .i64 i)/\gG s.env 5=some (.mp E5 0)/\gG s.env 6=some (.int .i64 k)/\E5<s.nx /\
   gG s.M E5=some (.row [.int .i64 r.kind,.int .u64 r.t,.int .u64 r.x,.int .u64 r.w,.int .u64 r.n,.int .u64 r.v,.int .i64 pk,.int .u64 pa,.int .u64 pb,pv,ve]) /\
   gY s.M (fun q=>nx<=q/\q<s.nx/\q≠E5) vv 8 cX (base++gV (fun k e=>some (JO i r k e)) (r.es.take k) 0)/\aq nx M s.M/\nx'<=s.nx) r.es.length ⟨0,vv,aa,aa,?_⟩ ?_
  ·refine iC zb e0 e3 e4 e5 z5 ?_
   refine⟨aa,?_,jX,aa⟩;rw[show gV (fun k e=>some (JO i r k e)) [] 0=[] from rfl,abn];exact dG.keep hv fun q hq=>⟨rfl,hq.1,by have:=hq.2.1;omega,hq.2.2⟩
  rintro m2 ⟨env,M3,n3⟩ ⟨k,vv,hk,JE,e0,e3,e4,e5,e6,Qt,z5,hv,oN,ZS⟩;simp only at e0 e3 e4 e5 e6 Qt z5 hv oN ZS;obtain⟨acc,Jp⟩:=aap (base++gV (fun k e=>some (JO i r k e)) (r.es.take k) 0);have mD:acc.length<=1100000:=by
   have h1:=dS (fun k e=>some (JO i r k e)) (r.es.take k) 0;have h2:(r.es.take k).length<=1000:=by rw[aaS];omega
   rw[Jp,aau];omega
  rw[<-Jp]at hv;by_cases kA:(k:Int)<r.es.length
  ·have AY:k<r.es.length:=aa
   obtain⟨e,hek⟩:=aao AY;have TP:=eF k;have T9:acc++[JO i r k e]=base++gV (fun k e=>some (JO i r k e)) (r.es.take (k+1)) 0:=by rw[iM _ hek,Jp,abE];rfl
   obtain⟨n,o,jw,bC,aU⟩:=bE.elem (P:=an) dZ AY (t:=112) (t':=179) qi.2.2.2.1 C5.1;have aU:=aU M3 (oN.le hb);rw[iz _ _ _ hek]at aU;simp only[gq]at aU;have sW:∀y z,gY (aG (aG M3 (n3+10) y) (n3+10) z) (fun q=>nx<=q/\q<n3/\q≠E5) vv 8 cX acc:=fun y z=>dG.keep hv fun q hq=>⟨(by have:=hq.2.1;exact J),hq⟩
   have dX:=fun y z=>(sW y z).push (hi:=n3) (fun q hq=>hq.2.1) (JO i r k e) an 182 56 [.int .i64 0,.int .i64 0,.int .u64 0,.int .u64 0,.int .u64 0,.int .u64 0,.bool false,.bool false] aa aa rfl (by simp only[fE];omega) rfl
   simp only[cX,JO]at dX;refine ii zb e0 e3 e4 e5 e6 fF kA bC aU z5 (aI q1 (aI q2 (aI dX TP))) ?_;refine⟨r.es.length - (k+1),aa,k+1,_,aa,rfl,rfl,rfl,aa,?_,?_,fun q hq=>?_,aa⟩
   ·rw[dG.push_oldP hv _ (by intro h;exact h.2.2 rfl) aa]
    exact J
   ·rw[<-T9]
    exact(sW (.cst []) (.cst [])).pushed (JO i r k e) (show nx<=_/\_/\_ from ⟨aa,aa,aa⟩) rfl aa
   rw[dG.push_oldP hv _ (by intro h;omega) aa];have:=oN q hq;exact J
  have F0:k=r.es.length:=aa;refine ii zb e0 e3 e4 e5 e6 fF kA z5 q1 q2 bV ?_;rw[F0,aa6]at Jp;refine⟨L.length - (i+1),aa,i+1,_,aa,rfl,rfl,rfl,?_,oN,aa⟩;rw[My,<-Jp];exact dG.keep hv fun q hq=>⟨rfl,hq.1,by have:=hq.2.1;omega⟩
 have gB:i=L.length:=aa;refine gw zb e0 e3 e4 ay aL @og.eq_1 ?_;rw[gB,aa6,<-yI]at hv;exact⟨hv.up (fun _ _ _=>rfl) aa,ha,aa⟩
def nF (L:List aR):List Int:=(wO L).map (·.x)++(ro L).map (·.x)
def vN (o:List Int) (z:Int):Prop:=∀y ∈ o,y<z
structure pX (o l:List Int) (best:Int) (ok:Bool):Prop where
 no:ok=false->∀z ∈ l,¬ vN o z
 yes:ok=true->best ∈ l/\vN o best/\∀z ∈ l,vN o z->best<=z
theorem pX.start (o:List Int) (b:Int):pX o [] b false:=⟨fun _ z h=>(by cases h),fun h=>(by cases h)⟩
theorem pX.skip {o l:List Int} {z:Int} {ok:Bool} (h:pX o l best ok) (hz:¬ vN o z):pX o (l++[z]) best ok:=by
 refine⟨fun q y hy=>?_,fun q=>⟨abv _ (h.yes q).1,(h.yes q).2.1,fun y hy hc=>?_⟩⟩
 ·rcases abe.1 hy with hy | hy
  ·exact h.no q y hy
  simp only[aaE]at hy;subst hy;exact hz
 rcases abe.1 hy with hy | hy
 ·exact(h.yes q).2.2 y hy hc
 simp only[aaE]at hy;subst hy;exact(hz hc).elim
theorem pX.first {o l:List Int} {z:Int} (h:pX o l best false) (hz:vN o z):pX o (l++[z]) z true:=by
 refine⟨fun q=>(by cases q),fun _=>⟨af,hz,fun y hy hc=>?_⟩⟩;rcases abe.1 hy with hy | hy
 ·exact(h.no rfl y hy hc).elim
 simp only[aaE]at hy;omega
theorem pX.less {o l:List Int} {z:Int} (h:pX o l best true) (hz:vN o z) (hl:z<best):pX o (l++[z]) z true:=by
 refine⟨fun q=>(by cases q),fun _=>⟨af,hz,fun y hy hc=>?_⟩⟩;rcases abe.1 hy with hy | hy
 ·have:=(h.yes rfl).2.2 y hy hc;omega
 simp only[aaE]at hy;omega
theorem pX.keep {o l:List Int} {z:Int} (h:pX o l best true) (hl:¬ z<best):pX o (l++[z]) best true:=by
 refine⟨fun q=>(by cases q),fun _=>⟨abv _ (h.yes rfl).1,(h.yes rfl).2.1,fun y hy hc=>?_⟩⟩;rcases abe.1 hy with hy | hy
 ·exact(h.yes rfl).2.2 y hy hc
 simp only[aaE]at hy;omega
theorem pX.up {o l:List Int} {z:Int} {ok:Bool} (hz:l[i]?=some z) (h:pX o (l.take i++[z]) best ok):pX o (l.take (i+1)) best ok:=by rw[aba,hz];exact h
def nM (o l:List Int):Nat:=(l.filter fun z=>decide (z ∉ o)).length
theorem sr {o l:List Int} {b:Int} (hb:pX o l b true):nM (o++[b]) l<nM o l:=by
 obtain⟨h1,h2,_⟩:=hb.yes rfl;have sy:b ∉ o:=fun h=>by have:=h2 b h;omega
 unfold nM;have e:(l.filter fun z=>decide (z ∉ o++[b]))=(l.filter fun z=>decide (z ∉ o)).filter fun z=>decide (z≠b):=by rw[List.filter_filter];congr 1;funext z;simp only[abe,aaE,not_or,ne_eq,Bool.decide_and];rw[Bool.and_comm]
 rw[e];refine length_filter_lt_length_iff_exists.2 ⟨b,?_,af⟩;rw[abQ];exact⟨h1,by simpa using sy⟩
structure pU (o l:List Int):Prop where
 up:o.Pairwise (· < ·)
 sub:∀z ∈ o,z ∈ l
 all:∀z ∈ l,z ∈ o\/vN o z
 len:o.length+nM o l<=l.length
theorem pU.start (l:List Int):pU [] l:=⟨Pairwise.nil,fun z h=>(by cases h),fun z _=>.inr fun y h=>(by cases h),by simpa [nM] using abh _ _⟩
theorem pU.more {o l:List Int} {b:Int} (h:pU o l) (hb:pX o l b true):pU (o++[b]) l:=by
 obtain⟨h1,h2,h3⟩:=hb.yes rfl;refine⟨pairwise_append.2 ⟨h.up,pairwise_singleton _ _,fun y hy z hz=>?_⟩,fun z hz=>?_,fun z hz=>?_,?_⟩;·simp only[aaE]at hz;subst hz;exact h2 y hy
 ·rcases abe.1 hz with hz | hz
  ·exact h.sub z hz
  simp only[aaE]at hz;subst hz;exact h1
 ·rcases h.all z hz with q | q
  ·exact .inl (abv _ q)
  have:=h3 z hz q;by_cases e:z=b;·subst e;exact .inl af
  refine .inr fun y hy=>?_
  rcases abe.1 hy with hy | hy
  ·exact q y hy
  simp only[aaE]at hy;omega
 have:=sr hb;have:=h.len;rw[aau];simp only[aaw,length_nil];omega
theorem pU.last {o l:List Int} {b:Int} (h:pU o l) (hb:pX o l b false) (z:Int):z ∈ o ↔ z ∈ l :=
 ⟨h.sub z,fun hz=>(h.all z hz).elim id fun q=>(hb.no rfl z hz q).elim⟩
structure Oq (L:List aR) (o:List Int):Prop where
 up:o.Pairwise (· < ·)
 mem:∀z,z ∈ o ↔ z ∈ nF L
 len:o.length<=(nF L).length
theorem rt (hl:L.length<=1000) (he:∀r ∈ L,r.es.length<=1000):(wO L).length<=1000/\(ro L).length<=1001000/\(nF L).length<=1002000:=by have h1:(wO L).length<=L.length:=dS _ _ _;have h2:=xa hl he L.length;rw[aa6]at h2;have h2:(ro L).length<=1001000:=h2;refine⟨aa,h2,?_⟩;unfold nF;rw[aau,abd,abd];omega
theorem map_take {β:Type} (f:α->β) {l:List α} {a:α} (h:l[i]?=some a):(l.take (i+1)).map f=(l.take i).map f++[f a]:=by rw[aba,h,abV];rfl
theorem Ef {o:List Int} {y z:Int} (h:o.Pairwise (· < ·)) (hy:o[o.length - 1]?=some y):vN o z ↔ y<z:=by
 refine⟨fun hc=>hc y (aaH hy),fun Ra x hx=>?_⟩;obtain⟨i,hi,rfl⟩:=mem_iff_getElem.1 hx;obtain⟨hl,e⟩:=aaq.1 hy;by_cases q:i=o.length - 1;·subst q;omega
 have:=(pairwise_iff_getElem.1 h) i (o.length - 1) hi hl aa;omega
theorem f47 (ρ:aK) (hL:cP M b v L) (hb:b<=nx) (hl:L.length<=1000) (he:∀r ∈ L,r.es.length<=1000) :
 ar an ρ 47 [v] M nx fun r=>∃o,Oq L o/\og nx M 1 pj o r:=by
 obtain⟨hfm,hfk,QK⟩:=rt hl he;refine ar.wk 89 [.tmp 2] Tryz.func47 ?_;refine bR m9 ?_;refine gQ (f88 ρ hL aa aa) ?_;rintro⟨u5,M1,n1⟩ ⟨g1,g2,g3⟩;simp only at g1 g2 g3;refine bR m9 ?_;refine gQ (f89 ρ (hL.agr (g2.le aa)) aa hl he) ?_;rintro⟨u6,M2,n2⟩ ⟨k1,k2,k3⟩;simp only at k1 k2 k3;obtain⟨ml,F2⟩:=aap (wO L);obtain⟨kl,kA⟩:=aap (ro L);have F6:nF L=ml.map (·.x)++kl.map (·.x):=by rw[F2,kA];rfl
 rw[<-F2]at g1 hfm;rw[<-kA]at k1 hfk;have a2:aq nx M M2:=(g2.le aa).trans (k2.le aa);have lI:bE M2 n2 u5 8 ml.length (ml.flatMap cO):=(g1.up (fun q _ hq=>k2 q aa) (u7 _)).at aa;have mh:=k1.at (u7 n2);clear hL g1 k1;have ZT:=fun N=>lI.len (P:=an) (t:=180) X8.2.2.2.2.2 N
 have ZU:=fun N=>mh.len (P:=an) (t:=182) M_.2.2.2.2.2 N
 refine bR m9 ?_;refine aC (fun m' s=>∃(i:Nat) (vv:XV),i<=ml.length/\m'=ml.length - i/\gG s.env 3=some vv/\gG s.env 4=some .nils/\gG s.env 5=some u5/\gG s.env 6=some u6/\gG s.env 7=some (.int .i64 i)/\di s.M n2 s.nx vv 1 pj ((ml.take i).map (·.x))/\aq n2 M2 s.M/\n2<=s.nx) ml.length ⟨0,.nils,aa,aa,?_⟩ ?_
 ·refine bR m9 ?_
  exact⟨dG.nil _ _,aq.refl _ _,aa⟩
 rintro m' ⟨env,M',nx'⟩ ⟨i,vv,hi,ir,e3,e4,e5,e6,e7,hv,ha,hn⟩;simp only at e3 e4 e5 e6 e7 hv ha hn;by_cases aL:(i:Int)<ml.length
 ·have aP:i<ml.length:=aa
  obtain⟨r,hr⟩:=aao aP;have bV:=eF i;have kS:=map_take (·.x) hr;have Gl:((ml.take i).map (·.x)).length<=1000:=by rw[abd,aaS];omega
  obtain⟨n,o,jw,bC,mi⟩:=lI.fldG (P:=an) aP (t:=180) X8.2.2.2.1;have hx:=mi 2 (.int .u64 r.x) aa (by rw[eT Ct hr];rfl) 31 1 cU.1 M' ha;have dX:=hv.push r.x an 79 8 [.int .u64 0] aa aa rfl (by simp only[fE];omega) rfl;simp only[pj]at dX;refine ii m9 e3 e4 e5 e6 e7 ZT aL bC hx bV dX ?_;refine⟨ml.length - (i+1),aa,i+1,_,aa,rfl,rfl,rfl,?_,fun q hq=>?_,aa⟩
  ·rw[kS]
   exact hv.pushed r.x aa aa rfl aa
  rw[dG.push_old hv _ (.inl hq) aa];have:=ha q hq;exact J
 have gB:i=ml.length:=aa;rw[gB,aa6]at hv;refine iQ m9 e3 e4 e5 e6 e7 ZT aL ?_;clear ZT lI;refine aC (fun m' s=>∃(i:Nat) (vv:XV),i<=kl.length/\m'=kl.length - i/\gG s.env 3=some vv/\gG s.env 4=some .nils/\gG s.env 6=some u6/\gG s.env 8=some (.int .i64 i)/\di s.M n2 s.nx vv 1 pj (ml.map (·.x)++(kl.take i).map (·.x))/\aq n2 M2 s.M/\n2<=s.nx) kl.length ⟨0,vv,aa,aa,?_⟩ ?_
 ·refine Ao m9 e4 e6 ?_
  exact⟨e3,by simpa using hv.up (fun _ _ _=>rfl) aa,ha,aa⟩
 rintro m' ⟨env,M',nx'⟩ ⟨i,vv,hi,ir,e3,e4,e6,e8,hv,ha,hn⟩;simp only at e3 e4 e6 e8 hv ha hn;by_cases aL:(i:Int)<kl.length
 ·have aP:i<kl.length:=aa
  obtain⟨r,hr⟩:=aao aP;have bV:=eF i;have kS:=map_take (·.x) hr;obtain⟨pl,gE⟩:=aap (ml.map (·.x)++(kl.take i).map (·.x));have Gl:pl.length<=1002000:=by rw[gE,aau,abd,abd,aaS];omega
  rw[<-gE]at hv;obtain⟨n,o,jw,bC,mi⟩:=mh.fldG (P:=an) aP (t:=182) M_.2.2.2.1;have hx:=mi 3 (.int .u64 r.x) aa (by rw[eT zD hr];rfl) 31 1 cU.1 M' ha;have dX:=hv.push r.x an 79 8 [.int .u64 0] aa aa rfl (by simp only[fE];omega) rfl;simp only[pj]at dX;refine dw m9 e3 e4 e6 e8 ZU aL bC hx bV dX ?_;refine⟨kl.length - (i+1),aa,i+1,_,aa,rfl,rfl,rfl,?_,fun q hq=>?_,aa⟩
  ·rw[kS,<-abE,<-gE]
   exact hv.pushed r.x aa aa rfl aa
  rw[dG.push_old hv _ (.inl hq) aa];have:=ha q hq;exact J
 have gB:i=kl.length:=aa;rw[gB,aa6,<-F6]at hv;refine gw m9 e3 e4 e6 e8 ZU aL ?_;obtain⟨nl,RQ⟩:=aap (nF L);rw[<-RQ]at hv QK;have cw:=hv.at (u7 nx');have CL:=fun N=>cw.len (P:=an) (t:=79) kr.2.2.2.2.2 N
 have aM:aq nx M M':=a2.trans (ha.le aa);have F7:nx<=nx':=aa;clear mh ZU hv ha F6 a2;refine aC (fun m' s=>∃(o:List Int) (u4:XV),m'=nM o nl/\pU o nl/\gG s.env 3=some vv/\gG s.env 4=some u4/\di s.M nx' s.nx u4 1 pj o/\aq nx' M' s.M/\nx'<=s.nx) (nM [] nl) ⟨[],.nils,rfl,pU.start _,?_⟩ ?_
 ·refine Ao m9 e3 e4 ?_
  exact⟨dG.nil _ _,aq.refl _ _,aa⟩
 rintro m' ⟨env,M3,n3⟩ ⟨o,u4,ir,ho,e3,e4,hv,ha,hn⟩;simp only at e3 e4 hv ha hn;have JY:o.length<=1002000:=by have:=ho.len;omega
 have hso:=hv.at (u7 n3);have mo:=fun N=>hso.len (P:=an) (t:=79) kr.2.2.2.2.2 N
 refine Ao m9 e3 e4 ?_;refine aC (fun m2 s=>∃(k:Nat) (best:Int) (ok:Bool),k<=nl.length/\m2=nl.length - k/\pX o (nl.take k) best ok/\gG s.env 3=some vv/\gG s.env 4=some u4/\gG s.env 9=some (.int .u64 best)/\gG s.env 10=some (.bool ok)/\gG s.env 11=some (.int .i64 k)/\s.M=M3/\n3<=s.nx) nl.length ⟨0,0,false,aa,aa,pX.start _ _,?_⟩ ?_
 ·refine Ao m9 e3 e4 ?_
  omega
 rintro m2 ⟨env,M4,n4⟩ ⟨k,best,ok,hk,JE,hB,e3,e4,e9,dx,kW,rfl,QX⟩;simp only at e3 e4 e9 dx kW ha QX hv hso;by_cases kA:(k:Int)<nl.length
 ·have AY:k<nl.length:=aa
  obtain⟨z,hz⟩:=aao AY;have TP:=eF k;obtain⟨n,q,jw,bC,mi⟩:=cw.fldG (P:=an) AY (t:=79) kr.2.2.2.1;have aU:=mi 0 (.int .u64 z) aa (by rw[eT nu hz];rfl) 31 1 cU.1 M4 ha;rw[aaX]at aU;clear mi;by_cases VL:o.length=0
  ·have UB:o=[]:=length_eq_zero_iff.1 VL
   have hC:vN o z:=fun y hy=>by rw[UB]at hy;cases hy
   have CO:((o.length:Int)=0)=True:=by simp[VL]
   cases ok with
   | false =>
     refine ii m9 e3 e4 e9 dx kW CL kA mo CO bC (aI aU TP) ?_;exact⟨nl.length - (k+1),aa,k+1,z,true,aa,rfl,pX.up hz (hB.first hC),rfl,rfl,rfl,aa⟩
   | true =>
     by_cases ML:z<best
     ·refine ii m9 e3 e4 e9 dx kW CL kA mo CO bC (aI aU (aI TP ML)) ?_
      exact⟨nl.length - (k+1),aa,k+1,z,true,aa,rfl,pX.up hz (hB.less hC ML),rfl,rfl,rfl,aa⟩
     refine ii m9 e3 e4 e9 dx kW CL kA mo CO bC (aI aU (aI TP ML)) ?_;exact⟨nl.length - (k+1),aa,k+1,best,true,aa,rfl,pX.up hz (hB.keep ML),rfl,rfl,rfl,aa⟩
  obtain⟨y,hy⟩:∃y,o[o.length - 1]?=some y:=⟨o[o.length - 1]' aa,aaR aa⟩;have NR:=Ef (z:=z) ho.up hy;have CO:((o.length:Int)=0)=False:=eq_false aa;have qC:IntKind.i64.wrap ((o.length:Int) - 1)=((o.length - 1:Nat):Int):=by rw[wrap_i64 aa aa];omega
  obtain⟨n',q',_,iN,Uk⟩:=hso.fldG (P:=an) (show o.length - 1<o.length by omega) (t:=79) kr.2.2.2.1;have dJ:=Uk 0 (.int .u64 y) aa (by rw[eT nu hy];rfl) 31 1 cU.1 M4 (aq.refl _ _);rw[aaX]at dJ;clear Uk;by_cases Ra:y<z
  ·have hC:vN o z:=NR.2 Ra
   cases ok with
   | false =>
     refine ii m9 e3 e4 e9 dx kW CL kA mo CO bC (aI aU (aI TP (aI qC (aI iN (aI dJ Ra))))) ?_;exact⟨nl.length - (k+1),aa,k+1,z,true,aa,rfl,pX.up hz (hB.first hC),rfl,rfl,rfl,aa⟩
   | true =>
     by_cases ML:z<best
     ·refine ii m9 e3 e4 e9 dx kW CL kA mo CO bC (aI aU (aI TP (aI ML (aI qC (aI iN (aI dJ Ra)))))) ?_
      exact⟨nl.length - (k+1),aa,k+1,z,true,aa,rfl,pX.up hz (hB.less hC ML),rfl,rfl,rfl,aa⟩
     refine ii m9 e3 e4 e9 dx kW CL kA mo CO bC (aI aU (aI TP (aI ML (aI qC (aI iN (aI dJ Ra)))))) ?_;exact⟨nl.length - (k+1),aa,k+1,best,true,aa,rfl,pX.up hz (hB.keep ML),rfl,rfl,rfl,aa⟩
  refine ii m9 e3 e4 e9 dx kW CL kA mo CO bC (aI aU (aI TP (aI qC (aI iN (aI dJ Ra))))) ?_;exact⟨nl.length - (k+1),aa,k+1,best,ok,aa,rfl,pX.up hz (hB.skip fun h=>Ra (NR.1 h)),rfl,rfl,rfl,aa⟩
 have F0:k=nl.length:=aa;rw[F0,aa6]at hB;cases ok with
 | false =>
   refine iQ m9 e3 e4 e9 dx kW CL kA ?_;refine⟨o,⟨ho.up,fun z=>by rw[<-RQ];exact ho.last hB z,by rw[<-RQ];have:=ho.len;omega⟩,dG.keep hv fun q hq=>?_,aM.trans (ha.le aa),by show nx<=n4+8;omega⟩;obtain⟨r1,r2⟩:nx'<=q/\q<n3:=hq;exact⟨rfl,show nx<=q/\q<n4+8 by omega⟩
 | true =>
   have dX:=hv.push best an 79 8 [.int .u64 0] aa aa rfl (by simp only[fE];omega) rfl;simp only[pj]at dX;refine CU m9 e3 e4 e9 dx kW CL kA dX ?_;refine⟨nM (o++[best]) nl,by rw[ir];exact sr hB,o++[best],_,rfl,ho.more hB,rfl,hv.pushed best aa aa rfl aa,fun q hq=>?_,aa⟩;rw[dG.push_old hv _ (.inl hq) aa];have:=ha q hq;exact J
end
theorem E0 {x:Int} (h:0<(gX L x).length):x ∈ nF L:=by
 obtain⟨e,he⟩:=exists_mem_of_length_pos h;obtain⟨i,t,_,h2⟩:=(iy _).1 he;unfold o7 at h2;split at h2
 ·rename_i iu
  have iu:0<dq L t x:=iu;unfold dq at iu;obtain⟨r,hr⟩:=exists_mem_of_length_pos iu;rw[abQ]at hr;obtain⟨hr,hm⟩:=hr;simp only[fI,aaF,decide_eq_true_eq]at hm;obtain⟨j,hj⟩:=acO hr;unfold nF;refine abv _ (mem_map.2 ⟨Rs L j r,(iy _).2 ⟨j,r,hj,by rw[if_pos hm.1,aaU]⟩,?_⟩);exact hm.2.2
 cases h2
theorem row_p (hl:L.length<=60) (hw:Wf L) (he:∀r ∈ L,r.es.length<=1000) (x:Int):oi (jN L) x=gX L x:=by
 have vW:=zT hl he hw;have hr:=(v_ L x).1;refine(Ym vW ?_ (hr.imp fun h=>aa)).symm;refine(perm_ext_iff_of_nodup (hr.imp fun h e=>?_) ((Fm vW x).imp fun h e=>h (by rw[e]))).2 fun e=>(Ko hw he x e).symm
 rw[e]at h;omega
theorem Rl (i:Int) (r:aR) (x:Int):∀n,((CJ i r n).find? fun k=>decide (k.x=x)).map (fun k=>(k.w,k.n))=((r.es.take n).find? fun e=>decide (e.x=x)).map fun e=>(e.w,e.n)
 | 0=>rfl
 | n+1=>by
   have ih:=Rl i r x n;unfold CJ;rw[aba];cases he:r.es[n]? with
   | none=>simpa using ih
   | some e =>
     simp only[acy];rw[List.find?_append,List.find?_append,Option.map_or,Option.map_or,ih];congr 1;by_cases hx:e.x=x;·simp[ng,hx]
     simp[ng,hx]
theorem ZG {cr:List XV} (hr:L[j]?=some r) (h5:r.kind=5) (x:Int):((iY (fA ((jN L).wr L.length cr) j) j r.t x).w,(iY (fA ((jN L).wr L.length cr) j) j r.t x).n)=nW r x:=by
 have MD:fA ((jN L).wr L.length cr) j=CJ j r r.es.length:=(EJ L L.length (u7 _)).at' j r (aaq.1 hr).1 hr h5;have hf:=Rl j r x r.es.length;rw[aa6]at hf;rw[MD];unfold iY nW;cases h1:(CJ j r r.es.length).find? (fun k=>decide (k.x=x)) with
 | none =>
   rw[h1]at hf;cases h2:r.es.find? (fun e=>decide (e.x=x)) with
   | none=>rfl
   | some e=>rw[h2]at hf;cases hf
 | some k =>
   rw[h1]at hf;cases h2:r.es.find? (fun e=>decide (e.x=x)) with
   | none=>rw[h2]at hf;cases hf
   | some e =>
     rw[h2]at hf;exact acn hf
theorem row_cnt (L:List aR) (t x:Int):(bd L t x).length=dq L t x:=by unfold bd dq;rw[abd];congr 2;funext r;exact mod_is t x r
theorem Y5 (hw:Wf L) {x n:Int} (h:lV (L.take j) x 0 n=true):n=0:=by
 unfold lV at h;rw[ab0]at h;rcases h with h | h
 ·simp at h
  exact h
 have hr:bd (L.take j) 0 x=[]:=by unfold bd;rw[map_eq_nil_iff,ac4];intro r hr hm;obtain⟨i,hi⟩:=acO (acN hr);have:=lY (hw i r hi) 2 aa;simp only[kM]at this;simp[oI]at hm;simp[hm.2.1]at this
 unfold rV at h;rw[hr]at h;simp at h
theorem Wj (hw:Wf L) (hr:L[j]?=some r) (x:Int) (h:(nW r x).1=0):(nW r x).2=0:=by
 unfold nW at h ⊢;split
 ·rename_i e he
  rw[he]at h;simp only at h ⊢;have m2:=lY (hw j r hr) 9 aa;simp only[kM]at m2;unfold tN at m2;rw[aa4]at m2;have m2:=m2 e (List.mem_of_find?_eq_some he);rw[h]at m2;exact Y5 hw m2
 rfl
theorem hold_mat (hf:MG L) (hw:Wf L) (cr:List XV) (hr:yw r.p=true) {x t:Int} (h:0<dq L t x):iq ((jN L).wr L.length cr) r.p x t (dq L t x)=Ga L r.p x t (dq L t x):=by
 have ay:=row_cnt L t x;obtain⟨d,hd⟩:∃d,rV L x t (dq L t x)=some d:=by unfold rV;rw[if_pos aa];exact⟨_,aaR aa⟩
 have:=Zm hf hw cr (j:=L.length) (p:=r.p) (d:=d) (by rw[aa6];exact hd);rw[this,aa6];unfold kG Ga;rw[hd];simp only[xS,hr,Bool.true_and]
def edG (k:my) (num:Int):List fP->Bool->List aF
 | [],_=>[]
 | s::l,p=>(if s.c=true then [if p=true then yV k num s else Hb k num s] else [])++edG k num l (p||hW k.w k.n s)
theorem Mn (s:fP) (l:List fP):Es (s::l)=(if s.c=true then [s] else [])++Es l:=by
 have hx:∀(l:List fP) i j,gV (fun _ s=>chS s) l i=gV (fun _ s=>chS s) l j:=fun l=>by
  induction l with
  | nil=>intros;rfl
  | cons a l ih=>intro i j;simp only[gV];rw[ih (i+1) (j+1)]
 unfold Es;simp only[gV];rw[hx l (0+1) 0];unfold chS;cases s.c<;>rfl
theorem Vy {k:my} {num:Int}:∀(l:List fP),edG k num l true=(Es l).map (yV k num)
 | []=>rfl
 | s::l=>by rw[edG,acW,Vy l,Mn,abV];cases s.c<;>rfl
theorem L4 (q:α->Bool) (a:α) (l:List α):(q a=true->eN q (a::l) 0=0)/\(q a=false->eN q (a::l) 0=if eN q l 0<0 then -1 else eN q l 0+1):=by
 have hx:∀(l:List α) (i:Nat),eN q l (i+1)=if eN q l i<0 then -1 else eN q l i+1:=fun l=>by
  induction l with
  | nil=>intro i;simp[eN]
  | cons b l ih =>
    intro i;have e:∀i:Nat,eN q (b::l) i=if q b=true then (i:Int) else eN q l (i+1):=fun i=>by rw[eN]
    by_cases h:q b=true;·rw[e,e,if_pos h,if_pos h,if_neg aa];omega
    rw[e,e,if_neg h,if_neg h];exact ih (i+1)
 constructor
 ·intro h
  simp[eN,h]
 intro h;simp only[eN,h,Bool.false_eq_true,if_false];exact hx l 0
theorem Qu {k:my} {num:Int}:∀(l:List fP),0<=eN (hW k.w k.n) l 0->edG k num l false=(Es (l.take ((eN (hW k.w k.n) l 0).toNat+1))).map (Hb k num)++(Es (l.drop ((eN (hW k.w k.n) l 0).toNat+1))).map (yV k num)
 | [],h=>by simp[eN]at h
 | s::l,h=>by
   rw[edG,abu];obtain⟨h1,h2⟩:=L4 (hW k.w k.n) s l;cases hs:hW k.w k.n s with
   | true =>
     rw[h1 hs,Vy];simp only[Int.toNat_zero,aaU,abt,take_zero,acs,drop_zero,Mn];cases s.c<;>rfl
   | false =>
     have h2:=h2 hs;rw[h2]at h ⊢;by_cases hn:eN (hW k.w k.n) l 0<0;·rw[if_pos hn]at h;omega
     rw[if_neg hn,show (eN (hW k.w k.n) l 0+1).toNat=(eN (hW k.w k.n) l 0).toNat+1 by omega];rw[Qu l aa,abt,acs,Mn,abV];cases s.c<;>simp
theorem edG_of {k:my} {row:List fP}:ofS row k num=if eN (hW k.w k.n) row 0<0 then [] else edG k num row false:=by
 unfold ofS Fj Da Bv;by_cases h:eN (hW k.w k.n) row 0<0;·simp only[if_pos h];rfl
 simp only[if_neg h];exact(Qu row aa).symm
theorem Yl (q:α->Bool) (l:List α):(eN q l 0<0) ↔ l.any q=false:=by
 induction l with
 | nil=>simp[eN]
 | cons a l ih =>
   obtain⟨h1,h2⟩:=L4 q a l;cases h:q a with
   | true=>rw[h1 h];simp[h]
   | false =>
     rw[h2 h];simp only[any_cons,h,abu];rw[<-ih];split<;>omega
theorem inst_wr {l:List bO} (h:Je l) {e:bO} (he:e ∈ l):(mC l e.w e.n).1=e.wr:=by obtain⟨p,hp⟩:=acO he;have gE:=h.place hp;unfold mC;rw[gE];rw[if_neg (by rintro(h | h);cases h;simp only at h;omega)];simp only;rw[show (((p+1:Nat):Int) - 1).toNat=p by omega,hp];rfl
theorem JP {x t:Int} {l:List Int}:gV (o7 L x) (t::l) i=(if 0<dq L t x then ([⟨t,dq L t x,i,(pR L t).1.e⟩]:List bO) else [])++gV (o7 L x) l (i+1):=by
 simp only[gV,o7];by_cases h:0<dq L t x;·simp[h]
 simp[h]
section
variable {L:List aR} {r:aR} {x num pos:Int} {V:Int×Int} {k:my} {q:Int->Int->Bool} {RL:List bO}
theorem ofG_ed (hk:k.x=x/\k.w=V.1/\k.n=V.2/\k.pos=pos) (hq:∀t,0<dq L t x->q t (dq L t x)=Ga L r.p x t (dq L t x)) (hR:Je RL) :
 ∀(l:List Int) (i:Nat) (was past:Bool),(∀e ∈ gV (o7 L x) l i,e ∈ RL)->Tu L r x num pos V l i was past=edG k num (kw RL q r.t (gV (o7 L x) l i) was) past
 | [],_,_,_,_=>rfl
 | t::l,i,was,past,h=>by
   have ih:=ofG_ed hk hq hR l (i+1);rw[Ai,JP];rw[JP]at h;by_cases h0:0<dq L t x
   ·rw[if_pos h0]at h ⊢
    have Ur:=inst_wr hR (h _ (abv _ (aaC ..)));simp only at Ur;have ih:=fun was past=>ih was past fun e he=>h e (mem_append_right _ he)
    rw[adW,kw];by_cases h1:t=r.t
    ·rw[if_neg (fun h=>h.2 h1),if_pos h1]
     exact ih was past
    rw[if_pos ⟨h0,h1⟩,if_neg h1,edG,ih];simp only[Ur,hq t h0];have e1:∀b m c,hW k.w k.n ⟨t,dq L t x,b,m,c⟩=isV L x V t:=fun b m c=>by unfold hW isV;rw[hk.2.1,hk.2.2.1]
    rw[e1];congr 1;obtain⟨rfl,hw,hn,rfl⟩:=hk;generalize Ga L r.p k.x t (dq L t k.x)=m;cases m<;>cases was<;>cases past<;>simp[Hb,yV,hw,hn]
   rw[if_neg h0,abp]at h ⊢;rw[if_neg (fun h=>h0 h.1)];exact ih was past h
theorem any_kn (hk:k.w=V.1/\k.n=V.2):∀(l:List Int) (i:Nat) (was:Bool),(kw RL q r.t (gV (o7 L x) l i) was).any (hW k.w k.n)=l.any (Wd L r x V)
 | [],_,_=>rfl
 | t::l,i,was=>by
   have ih:=any_kn hk l (i+1);rw[JP,any_cons];by_cases h0:0<dq L t x
   ·rw[if_pos h0,adW,kw]
    by_cases h1:t=r.t
    ·rw[if_pos h1,ih,show Wd L r x V t=false by unfold Wd;simp[h1]]
     rfl
    rw[if_neg h1,any_cons,ih];congr 1;unfold Wd isV hW;rw[hk.1,hk.2];simp[h0,h1]
   rw[if_neg h0,abp,ih,show Wd L r x V t=false by unfold Wd;simp[h0]];rfl
end
theorem Ul (hw:Wf L) (hr:L[j]?=some r) (h5:r.kind=5):yw r.p=true:=by have:=lY (hw j r hr) 1 aa;simp only[kM]at this;unfold fL at this;simp[h5]at this;exact this.1
theorem look_eq (hf:MG L) (hw:Wf L) (cr:List XV) (hr:L[j]?=some r) (h5:r.kind=5) (x:Int) (U0:num=(pR L r.t).1.n) :
 Gd ((jN L).wr L.length cr) (oi (jN L)) r num (iY (fA ((jN L).wr L.length cr) j) j r.t x)=Wt L j r x:=by
 have he:∀r ∈ L,r.es.length<=1000:=fun r hr=>by have:=hf.es r hr;omega
 have bA:=row_p hf.len hw he x;have aQ:=(rowC_ok (zT hf.len he hw) x).1;rw[bA]at aQ;have hrt:=Ul hw hr h5;have hV:=ZG (cr:=cr) hr h5 x;have hx:=TD (l:=fA ((jN L).wr L.length cr) j) (p:=j) (t:=r.t) (x:=x);have ht:=setOf_t (cr:=cr) hr h5 x;have hp:=setOf_pos (S:=(jN L).wr L.length cr) (j:=j) (t:=r.t) (x:=x);generalize iY (fA ((jN L).wr L.length cr) j) j r.t x=k at hV hx ht hp ⊢;have hz:=Wj hw hr x;obtain⟨V,hVd⟩:=aap (nW r x);rw[<-hVd]at hV hz;have hV1:k.w=V.1:=congrArg Prod.fst hV;have hV2:k.n=V.2:=congrArg Prod.snd hV;unfold Gd Wt;rw[hx,ht,bA,edG_of,<-hVd,<-U0];obtain⟨q,hq⟩:=aap (iq ((jN L).wr L.length cr) r.p x);have hqm:∀t,0<dq L t x->q t (dq L t x)=Ga L r.p x t (dq L t x):=fun t h=>by rw[hq];exact hold_mat hf hw cr hrt h
 rw[<-hq];have hed:=fun past=>ofG_ed (L:=L) (r:=r) (num:=num) ⟨hx,hV1,hV2,hp⟩ hqm aQ (iS L) 0 false past fun e h=>h
 have Kh:=any_kn (L:=L) (r:=r) (x:=x) (q:=q) (RL:=gX L x) ⟨hV1,hV2⟩ (iS L) 0 false;have hed:∀past,Tu L r x num j V (iS L) 0 false past=edG k num (kw (gX L x) q r.t (gX L x) false) past:=hed;have Kh:(kw (gX L x) q r.t (gX L x) false).any (hW k.w k.n)=(iS L).any (Wd L r x V):=Kh;unfold jQ;generalize kw (gX L x) q r.t (gX L x) false=st at hed Kh ⊢;obtain⟨i1,i2⟩:=L4 (hW k.w k.n) tG st;by_cases h0:V.1=0
 ·have hs:hW k.w k.n tG=true:=by unfold hW tG;rw[hV1,hV2,h0,hz h0];rfl
  rw[i1 hs,if_neg aa,if_pos (by unfold knR;simp[h0]),hed,edG,hs];simp[tG,h0]
 have hs:hW k.w k.n tG=false:=by unfold hW tG;rw[hV1];simp;intro h;exact absurd h.symm h0
 have QP:knR L r x V (iS L)=st.any (hW k.w k.n):=by unfold knR;rw[Kh];simp[h0]
 rw[QP];cases hc:st.any (hW k.w k.n) with
 | false =>
   have:=(Yl _ _).2 hc;rw[if_pos (by rw[i2 hs,if_pos this];omega),if_neg af]
 | true =>
   have:¬ eN (hW k.w k.n) st 0<0:=fun h=>by rw[(Yl _ _).1 h]at hc;cases hc
   rw[if_neg (by rw[i2 hs,if_neg this];omega),if_pos rfl,edG,hs,Bool.or_false,hed];simp[tG,h0]
theorem Xx (l:List aR):(iS l).length=JQ l:=by
 have:∀(l:List aR) (i:Nat),(gV (fun _ r=>if r.kind=6 then some r.t else none) l i).length=(l.filter fun r=>decide (r.kind=6)).length:=fun l=>by
  induction l with
  | nil=>intro i;rfl
  | cons a l ih =>
    intro i;simp only[gV];by_cases h:a.kind=6;·simp[h,ih]
    simp[h,ih]
 exact this l 0
theorem com_get {e:Nat} (hr:L[e]?=some r) (h6:r.kind=6):(iS L)[JQ (L.take e)]?=some r.t:=by
 have h1:iS (L.take (e+1))=iS (L.take e)++[r.t]:=by rw[lF hr,gd,if_pos h6]
 have:∀m,(iS (L.take (e+1+m)))[JQ (L.take e)]?=some r.t:=fun m=>by
  induction m with
  | zero=>rw[aaX,h1,getElem?_append_right (by rw[Xx];exact u7 _),Xx];simp
  | succ m ih =>
    cases hq:L[e+1+m]? with
    | none =>
      have:=acq.1 hq;rw[aaz aa]at ih ⊢;exact ih
    | some q =>
      rw[show e+1+(m+1)=(e+1+m)+1 from rfl,lF hq,gd,aa5 (aaq.1 ih).1];exact ih
 have:=this L.length;rw[aaz aa]at this;exact this
theorem Yd {t:Int}:t ∈ iS L ↔ ∃(e:Nat) (r:aR),L[e]?=some r/\r.kind=6/\r.t=t:=by
 unfold iS;rw[iy];constructor
 ·rintro⟨k,a,h1,h2⟩
  split at h2
  ·rename_i h6
   exact⟨k,a,h1,h6,acn h2⟩
  cases h2
 rintro⟨e,r,h1,h6,rfl⟩;exact⟨e,r,h1,by rw[if_pos h6]⟩
theorem Tp {L:List aR} {t:Int} {a:Nat}:∀k,(pC L t a k).2=1->t ∈ iS L
 | 0,h=>by simp[pC]at h
 | k+1,h=>by
   simp only[pC]at h;cases hr:L[a+k]? with
   | none=>rw[hr]at h;exact Tp k h
   | some r =>
     rw[hr]at h;simp only[qq]at h;split at h
     ·rename_i h1
      exact Yd.2 ⟨a+k,r,hr,h1.2,h1.1⟩
     split at h;·simp at h
     exact Tp k h
theorem VB {t:Int} (h:(pR L t).1.s=1):t ∈ iS L:=by
 unfold pR at h;by_cases hx:∃a ∈ Jg L,a.t=t
 ·obtain⟨g1,g2⟩:=wS hx
  obtain⟨k,q,k1,k2⟩:=(iy _).1 g1;split at k2
  ·rename_i hk
   have k2:=acn k2;rw[<-k2]at g2 h;unfold HY at g2 h;rw[aaU,k1]at g2 h;simp only at g2 h;rw[g2]at h;exact Tp _ h
  cases k2
 rw[ud fun a ha ht=>hx ⟨a,ha,ht⟩]at h;simp at h
theorem XK (hw:Wf L) (he:∀r ∈ L,r.es.length<=1000) (cr:List XV) (t:Int) :
 ((txR ((jN L).wr L.length cr) t).1.s=1 ↔ (pR L t).1.s=1)/\((pR L t).1.s=1->(txR ((jN L).wr L.length cr) t).1.n=(pR L t).1.n/\0<=(pR L t).1.n):=by
 have o:=oc hw he L.length (u7 _);have h:=rq hw he L.length (u7 _);have xo:=wC hw he L.length (u7 _);rw[aa6]at o h xo;have F9:∀t,(txR ((jN L).wr L.length cr) t).1.s=(txR (dL L L.length) t).1.s/\(txR ((jN L).wr L.length cr) t).1.n=(txR (dL L L.length) t).1.n/\(txR ((jN L).wr L.length cr) t).1.t=(txR (dL L L.length) t).1.t:=fun t=>by
  unfold txR Ho;show _/\_/\_;have U0:((jN L).wr L.length cr).num t=(dL L L.length).num t:=rfl;have htxs:((jN L).wr L.length cr).txs=xx L.length (dL L L.length).txs.length (dL L L.length).txs:=rfl;rw[U0,htxs];cases (dL L L.length).num t with
  | none=>exact⟨rfl,rfl,rfl⟩
  | some z =>
    simp only[fw];cases (dL L L.length).txs[z.toNat]? with
    | none=>exact⟨rfl,rfl,rfl⟩
    | some a =>
      simp only[map_some];split<;>exact⟨rfl,rfl,rfl⟩
 obtain⟨e1,e2,_⟩:=F9 t;rw[e1,e2];generalize dL L L.length=S at o h;have hA:t ∈ iS L->(pR L t).1.s=1/\(txR S t).1.s=1/\(txR S t).1.n=(pR L t).1.n/\0<=(pR L t).1.n:=fun ht=>by
  obtain⟨e,r,hr,h6,hrt⟩:=Yd.1 ht;obtain⟨_,f2,f3⟩:=T3 hw hr h6 hrt;obtain⟨_,j,a,h1,h2,h3⟩:=h.all t ht;have hn:=o.txs j a h1;have VT:txR S t=(a,true):=by unfold txR Ho;rw[<-h2,hn];simp[h1]
  obtain⟨i,_,_,g1,g2,_⟩:=h.one j a h1 h3;have hc:=com_get hr h6;rw[hrt]at hc;rw[h2]at g2;have:=QU xo g2 hc;rw[VT];exact⟨f2,h3,by rw[f3,g1,this],aa⟩
 refine⟨⟨fun hs=>?_,fun hs=>(hA (VB hs)).2.1⟩,fun hs=>(hA (VB hs)).2.2⟩;refine(hA ?_).1;unfold txR Ho at hs;cases hz:S.num t with
 | none=>rw[hz]at hs;simp[tx0]at hs
 | some z =>
   obtain⟨j,a,z1,z2,z3⟩:=o.num t z hz;have:z.toNat=j:=aa;rw[hz]at hs;simp only[this,z2]at hs;obtain⟨i,_,_,_,g2,_⟩:=h.one j a z2 hs;rw[<-z3];exact aaH g2
section
open Go.Proofs
def Q8 (L:List aR) (Y:List Int) (j:Nat) (r:aR):List aF:=if r.kind=5/\(pR L r.t).1.s=1 then Y.flatMap (Wt L j r) else []
def qw (w:Int) (j:Int):Bool:=decide (w = -1)||decide (w=j)
theorem qH (ρ:aK) (hL:cP M b v L) (hb:b<=nx) (hl:L.length<=1000) (Nq:∀r ∈ L,dV r.p<=1000/\r.es.length<=1000) (hrt:∀r ∈ L,r.kind=5->yw r.p=true) (YC:∀r ∈ L,vw r.p) (w:Int)
 (hT0:∀Y,Oq L Y->(eP (Q8 L Y) (qw w) 0 L).length<=1000) :
 ar an ρ 17 [v,.int .i64 w] M nx fun o=>∃Y,Oq L Y/\IQ nx M 9 bi (vr [] (eP (Q8 L Y) (qw w) 0 L)) o:=by
 obtain⟨row0,cw,_⟩:=id hL;have ay:=fun N=>cw.len (P:=an) (t:=57) nO.2.2.2.2.2 N
 have hcu:=cw.cell;refine ar.wk 66 [.tmp 4] Tryz.func17 ?_;refine Ao pD hcu.1 hcu.2 ?_;refine gQ (f47 ρ hL aa aa fun r hr=>(Nq r hr).2) ?_;rintro⟨u,M1,n1⟩ ⟨Y,hY,g1,a1,g3⟩;simp only at g1 a1 g3;have hT1:=hT0 Y hY;have hu:=g1.cell;have hslY:=g1.at (u7 n1);have hlY:=fun N=>hslY.len (P:=an) (t:=79) kr.2.2.2.2.2 N
 have hYl:Y.length<=1002000:=aaT hY.len (rt hl fun r hr=>(Nq r hr).2).2.2;have aN:aq nx M M1:=a1.le aa;obtain⟨T,hT⟩:=aap (eP (Q8 L Y) (qw w) 0 L);rw[<-hT]at hT1;refine Ao pD hu.1 hu.2 ?_;refine aC (fun m' s=>∃(i:Nat) (vv:XV) (acc:List aF),i<=L.length/\m'=L.length - i/\acc++eP (Q8 L Y) (qw w) i (L.drop i)=T/\(acc=[]->vv = .nils)/\gG s.env 0=some v/\gG s.env 1=some (.int .i64 w)/\gG s.env 5=some vv/\gG s.env 6=some u/\gG s.env 7=some (.int .i64 i)/\di s.M n1 s.nx vv 9 bi acc/\aq n1 M1 s.M/\n1<=s.nx) L.length ⟨0,.nils,[],aa,aa,by rw[hT];rfl,fun _=>rfl,?_⟩ ?_
 ·refine bR pD ?_
  exact⟨dG.nil _ _,aq.refl _ _,aa⟩
 rintro m' ⟨env,M',nx'⟩ ⟨i,vv,acc,hi,ir,hG,Q6,e0,e1,e5,e6,e7,hv,ha,hn⟩;simp only at e0 e1 e5 e6 e7 hv ha hn;have aM:aq nx M M':=aN.trans (ha.le aa);by_cases aL:(i:Int)<L.length
 rotate_left
 ·rw[aaM aa]at hG
  simp only[eP,abn]at hG;refine iQ pD e0 e1 e5 e6 e7 ay aL ?_;have hso:bE M' nx' vv 9 acc.length (acc.flatMap bi):=hv.at (u7 nx');refine gQ (f50 ρ (hso.wk (b':=_) aa) (u7 _) (by rw[hG];omega)) ?_;rintro⟨u2,M2,n2⟩ ⟨g4,g5,g6,g7⟩;simp only at g4 g5 g6 g7;have Qz:=g5.cell;refine Ao pD Qz.1 Qz.2 ?_;subst hG;rw[hT]at g4 g5;exact⟨Y,hY,g4,di.wkLo g5 aa (by first | omega | (simp only;omega)),aM.trans (g6.le aa),am⟩
 have aP:i<L.length:=aa;obtain⟨r,hr⟩:=aao aP;have RT:=aaH hr;have bV:=eF i;have Gb:L.drop i=r::L.drop (i+1):=by obtain⟨h1,rfl⟩:=aaq.1 hr;rw[aaV h1]
 rw[Gb]at hG;simp only[eP]at hG;obtain⟨rest,hrs⟩:=aap (eP (Q8 L Y) (qw w) (i+1) (L.drop (i+1)));rw[<-hrs]at hG;obtain⟨row,hsl2,gS⟩:=id (hL.agr (aM.le hb));obtain⟨n,o,bC,aU,UI⟩:=hsl2.part (P:=an) aP (t:=57) nO.2.2.2.1;obtain⟨pk,pa,pb,pv,ve,dI,_⟩:=(gS i r hr).cells;have hldT:=aU 1 (.int .u64 r.t) aj (by rw[dI];rfl) 31 _ cU.1 M' (aq.refl _ _);have No:=aU 0 (.int .i64 r.kind) aj (by rw[dI];rfl) 3 _ dA.1;rw[aaX]at No;clear aU UI hsl2 gS dI;refine dp pD e0 e1 e5 e6 e7 ay aL bC hldT ?_;refine gQ (JR ρ (hL.agr (aM.le hb)) aa aa r.t) ?_;rintro⟨u4,M4,n4⟩ ⟨q7,q8,q9⟩;simp only at q7 q8 q9;subst q7;have a4:=ha.trans (q8.le aa);have b4:aq nx' M' M4:=q8.le aa;clear q8;have hatR:Q8 L Y i r=if r.kind=5/\(pR L r.t).1.s=1 then Y.flatMap (Wt L i r) else []:=rfl
 obtain⟨⟨xt,xb,xe,xs,xn⟩,hx⟩:=aap ((pR L r.t).1);rw[<-hx]at hatR ⊢;generalize (pR L r.t).2=tb;simp only[d_]at hatR ⊢;refine iC pD e0 e1 e5 e6 e7 ?_;generalize mR:aG (aG M4 _ _) _ _=M5;have a5:aq n4 M4 M5:=by rw[<-mR];exact O
 have z5:gG M5 (n4+3)=some (.row [.int .u64 xt,.int .i64 xb,.int .i64 xe,.int .i64 xs,.int .i64 xn]):=by rw[<-mR];exact J
 clear mR;have b5:aq nx' M' M5:=b4.trans (a5.le aa);have a5:aq n1 M1 M5:=a4.trans (a5.le aa);have No:=No M5 (b5.le aa);have hv5:=hv.up (N:=M5) (fun q _ hq=>b5 q aa) (u7 nx');by_cases hgo:r.kind=5/\xs=1/\(w = -1\/w=(i:Int))
 rotate_left
 ·have sy:(if qw w (i:Int)=true then Q8 L Y i r else [])=[]:=by
   rw[hatR];unfold qw;by_cases h1:r.kind=5/\xs=1
   ·rw[if_neg]
    have:¬ (w = -1\/w=(i:Int)):=fun h=>hgo ⟨h1.1,h1.2,h⟩
    rw[not_or]at this;simp[this.1,this.2]
   rw[if_neg h1];simp
  rw[sy,abp]at hG;by_cases k1:r.kind=5
  ·rw[k1]at No
   by_cases k2:xs=1
   ·subst k2
    have k3:(w = -1)=False:=eq_false fun h=>hgo ⟨k1,rfl,.inl h⟩
    have k4:(w=(i:Int))=False:=eq_false fun h=>hgo ⟨k1,rfl,.inr h⟩
    refine ii pD e0 e1 e5 e6 e7 bC No z5 k3 k4 bV ?_;exact⟨L.length - (i+1),aa,i+1,vv,acc,aa,rfl,by rw[<-hrs];exact hG,Q6,rfl,rfl,hv5.up (fun _ _ _=>rfl) aa,a5,aa⟩
   refine dw pD e0 e1 e5 e6 e7 bC No z5 k2 bV ?_;exact⟨L.length - (i+1),aa,i+1,vv,acc,aa,rfl,by rw[<-hrs];exact hG,Q6,rfl,rfl,hv5.up (fun _ _ _=>rfl) aa,a5,aa⟩
  refine dw pD e0 e1 e5 e6 e7 bC No z5 k1 bV ?_;exact⟨L.length - (i+1),aa,i+1,vv,acc,aa,rfl,by rw[<-hrs];exact hG,Q6,rfl,rfl,hv5.up (fun _ _ _=>rfl) aa,a5,aa⟩
 obtain⟨k1,rfl,hw⟩:=hgo;have hyes:(if qw w (i:Int)=true then Q8 L Y i r else [])=Y.flatMap (Wt L i r):=by
  have W8:qw w (i:Int)=true:=by unfold qw;rcases hw with h | h<;>simp[h]
  rw[if_pos W8,hatR,if_pos ⟨k1,rfl⟩]
 rw[hyes]at hG;rw[k1]at No;have hrt':=hrt r RT k1;have hfw':=Nq r RT;have hA0':=YC r RT;clear hyes hatR hx;by_cases qC:w = -1
 focus
  have k3:(w = -1)=True:=eq_true qC;refine dp pD e0 e1 e5 e6 e7 bC No z5 k3 ?_;try exact⟨⟩
 rotate_left
 focus
  have k3:(w = -1)=False:=eq_false qC;have k4:(w=(i:Int))=True:=eq_true (hw.resolve_left qC);refine dw pD e0 e1 e5 e6 e7 bC No z5 k3 k4 ?_;try exact⟨⟩
 all_goals
  refine aC (fun m2 s=>∃(k:Nat) (v2:XV) (na:List aF),k<=Y.length/\m2=Y.length - k/\na++((Y.drop k).flatMap (Wt L i r)++rest)=T/\(na=[]->v2 = .nils)/\gG s.env 0=some v/\gG s.env 1=some (.int .i64 w)/\gG s.env 5=some v2/\gG s.env 6=some u/\gG s.env 7=some (.int .i64 i)/\gG s.env 10=some (.int .i64 k)/\di s.M n1 s.nx v2 9 bi na/\aq n1 M1 s.M/\n1<=s.nx) Y.length ⟨0,vv,acc,aa,aa,hG,Q6,?_⟩ ?_
  ·refine iC pD e0 e1 e5 e6 e7 ?_
   exact⟨hv5.up (fun _ _ _=>rfl) aa,a5,aa⟩
  clear e0 e1 e5 e6 e7 hG Q6 hv hv5 a5 b5 a4 b4 z5 No hldT ha hn aM;rintro m2 ⟨env2,M6,n6⟩ ⟨k,v2,na,hk,JE,hG,Q6,e0,e1,e5,e6,e7,dx,hv,ha,hn⟩;simp only at e0 e1 e5 e6 e7 dx hv ha hn;by_cases MD:(k:Int)<Y.length
  rotate_left
  ·rw[aaM aa,flatMap_nil,abp,hrs]at hG
   refine dp pD e0 e1 e5 e6 e7 dx hlY MD bV ?_;exact⟨L.length - (i+1),aa,i+1,v2,na,aa,rfl,hG,Q6,rfl,rfl,hv.up (fun _ _ _=>rfl) aa,ha,aa⟩
  have hlk':k<Y.length:=aa;obtain⟨x,hxk⟩:∃t,Y[k]?=some t:=⟨Y[k],by simp[hlk']⟩;have F_:=eF k;obtain⟨kk,o1,hkb1,TN,mi⟩:=hslY.fldG (P:=an) hlk' (t:=79) kr.2.2.2.1;have hlc:=fun N hN=>mi 0 (.int .u64 x) aa (by rw[eT nu hxk];rfl) 31 1 cU.1 N hN
  rw[aaX]at hlc;have hlc:=hlc M6 ha;clear mi;have hdk:Y.drop k=x::Y.drop (k+1):=by obtain⟨h1,rfl⟩:=aaq.1 hxk;rw[aaV h1]
  rw[hdk,flatMap_cons,abE,<-abE]at hG;have aM6:aq nx M M6:=aN.trans (ha.le aa);have mD:na.length+(Wt L i r x).length<=1000:=by have:=congrArg adJ hG;simp only[aau]at this;omega
  refine dw pD e0 e1 e5 e6 e7 dx hlY MD TN hlc ?_;refine gQ (f49 ρ (hL.agr (aM6.le hb)) aa aa hr hfw' hrt' hA0' x) ?_;rintro⟨vb,M7,n7⟩ ⟨hbn,hB,q8,q9⟩;simp only at hbn hB q8 q9;have hv7:=hv.up (N:=M7) (fun q _ hq=>q8 q aa) (u7 n6);have a7:aq n1 M1 M7:=ha.trans (q8.le aa);obtain⟨rds,mr,F8⟩:=hB.el3;have fF:=F8 M7 (fun _ _ _=>rfl);obtain⟨v',rd,us,dX,Bb,vR,j_,W6⟩:=di.app hv7 Q6 (rds:=rds) (fun q hq=>by have:=mr q hq;omega) an 59 72 [.int .i64 0,.int .i64 0,.int .i64 0,.int .u64 0,.int .u64 0,.int .u64 0,.int .u64 0,.int .u64 0,.int .i64 0] vb (key:=n7) (B:=Wt L i r x) aa aa rfl (by simp only[fE];omega) (rH _) (fun _=>rfl) aa;have W6:=W6 M7 (fun _ _ _=>rfl) aa;have hcb:=hB.cell;have hcA:=W6.cell;refine ii pD e0 e1 e5 e6 e7 dx hcb.1 hcb.2 fF dX (aI hcA.1 (aI hcA.2 F_)) ?_;exact⟨Y.length - (k+1),aa,k+1,v',na++Wt L i r x,aa,rfl,hG,Bb,rfl,rfl,W6.up (fun _ _ _=>rfl) aa,fun q hq=>by rw[eE fun h=>by have:=j_ _ h;omega];exact a7 q hq,aa⟩
end
theorem FQ (e:aF):∀l:List aF,JN e l true=l
 | []=>rfl
 | y::l=>by rw[tk,if_neg af,acW,FQ e l];rfl
theorem DS (e:aF):∀l:List aF,(JN e l false).Perm (e::l)
 | []=>.refl _
 | y::l=>by
   rw[tk,abu];cases h:yu e y with
   | true=>rw[if_pos ⟨rfl,rfl⟩,FQ];exact .refl _
   | false =>
     rw[if_neg af];exact((DS e l).cons y).trans (.swap e y l)
theorem PJ (e:aF):∀l:List aF,l.Pairwise (fun a b=>yu b a=false)->(JN e l false).Pairwise fun a b=>yu b a=false
 | [],_=>pairwise_singleton _ _
 | y::l,hl=>by
   obtain⟨h1,h2⟩:=acJ.1 hl;rw[tk,abu];cases h:yu e y with
   | true =>
     rw[if_pos ⟨rfl,rfl⟩,FQ];have hye:yu y e=false:=by
      cases hh:yu y e with
      | false=>rfl
      | true=>have:=swoE.trans _ _ _ h hh;rw[swoE.irrefl]at this;cases this
     refine acJ.2 ⟨fun z hz=>?_,hl⟩;rcases aaK.1 hz with rfl | hz
     ·exact hye
     exact swoE.ntrans _ _ _ (h1 z hz) hye
   | false =>
     rw[if_neg af];refine acJ.2 ⟨fun z hz=>?_,PJ e l h2⟩;rcases aaK.1 ((DS e l).mem_iff.1 hz) with rfl | hz
     ·exact h
     exact h1 z hz
theorem SK:∀(l acc:List aF),acc.Pairwise (fun a b=>yu b a=false)->(vr acc l).Perm (acc++l)/\(vr acc l).Pairwise fun a b=>yu b a=false
 | [],acc,h=>⟨by rw[vr,abn],h⟩
 | e::l,acc,h=>by obtain⟨h1,h2⟩:=SK l _ (PJ e acc h);rw[vr];refine⟨h1.trans (((DS e acc).append_right l).trans ?_),h2⟩;exact List.perm_middle.symm
def Wk (S:HS):Prop:=∀m ∈ S.mods,(S.obj m.x).isSome=true
theorem Sf {a:my} (h:Wk S):Wk (S.look a):=fun m hm=>by
 have:=h m hm;simp only[HS.look];split;·rfl
 exact this
theorem zP {S:HS} {i:Int} {r:aR} (h:Wk S):∀n,Wk (S.preds i r n)
 | 0=>h
 | n+1=>by
   unfold HS.preds;split;·exact Sf (zP h n)
   exact zP h n
theorem ZI (h:Wk S):Wk (S.take i r):=by
 unfold HS.take;split;·exact h
 split;·exact Sf h
 split
 ·intro m hm
  simp only[HS.modify]at hm ⊢;rcases abe.1 hm with hm | hm
  ·split
   ·rfl
   exact h m hm
  simp only[aaK,not_mem_nil,or_false]at hm;rw[hm];simp
 split;·exact zP h _
 split;·split<;>exact h
 split<;>exact h
theorem OO (L:List aR):∀i,i<=L.length->Wk (dL L i)
 | 0,_=>fun m hm=>by simp[dL,vF]at hm
 | i+1,hi=>by obtain⟨r,hr⟩:∃r,L[i]?=some r:=⟨L[i]' aa,aaR _⟩;unfold dL;rw[hr];exact ZI (OO L i aa)
theorem row_obj (hw:Wf L) (he:∀r ∈ L,r.es.length<=1000) {x:Int} (h:gX L x≠[]):((jN L).obj x).isSome=true:=by
 obtain⟨e,hm⟩:=exists_mem_of_ne_nil _ h;obtain⟨j,m,h1,h2,_⟩:=DC ((Ko hw he x e).2 hm);have h1:(fJ _ (dL L L.length).mods)[j]?=some m:=h1;rw[ie]at h1;cases h3:(dL L L.length).mods[j]? with
 | none=>rw[h3]at h1;cases h1
 | some m' =>
   rw[h3]at h1;have:=OO L L.length (u7 _) m' (aaH h3);have hx:m.x=m'.x:=by rw[<-acn h1]
   rw[<-h2,hx];exact this
theorem PH:∀l:List Int,∃ys:List Int,ys.Pairwise (· < ·)/\∀x,x ∈ ys ↔ x ∈ l
 | []=>⟨[],.nil,fun _=>.rfl⟩
 | a::l=>by
   obtain⟨ys,h1,h2⟩:=PH l;refine⟨ys.filter (fun y=>decide (y<a))++a::ys.filter (fun y=>decide (a<y)),?_,fun x=>?_⟩
   ·rw[pairwise_append,acJ]
    refine⟨h1.filter _,⟨fun z hz=>?_,h1.filter _⟩,fun z hz w hww=>?_⟩;·simpa using (abQ.1 hz).2
    have h3:z<a:=by simpa using (abQ.1 hz).2
    rcases aaK.1 hww with rfl | hww
    ·exact h3
    have:a<w:=by simpa using (abQ.1 hww).2
    omega
   simp only[abe,aaK,abQ,decide_eq_true_eq,h2];constructor
   ·rintro(⟨h,_⟩ | rfl | ⟨h,_⟩)
    ·exact .inr h
    ·exact .inl rfl
    exact .inr h
   rintro(rfl | h);·exact .inr (.inl rfl)
   rcases Int.lt_trichotomy x a with h3 | h3 | h3
   ·exact .inl ⟨h,h3⟩
   ·exact .inr (.inl h3)
   exact .inr (.inr ⟨h,h3⟩)
theorem objC_ok (he:∀r ∈ L,r.es.length<=60):TB (jN L) (qP (jN L)):=by have VM:=(Cp he L.length (u7 _)).obj;obtain⟨ys,h1,h2⟩:=PH (((dL L L.length).looks.map (·.x)++(dL L L.length).mods.map (·.x)).filter fun x=>((jN L).obj x).isSome);have hL:TB (jN L) ys:=⟨h1,fun x=>by rw[h2,abQ];exact⟨fun h=>h.2,fun h=>⟨VM x h,h⟩⟩⟩;rw[<-obj_c hL];exact hL
theorem Ue {L:List aR} {r:aR} {x num pos:Int} {V:Int×Int}:∀(l:List Int) (i:Nat) (was past:Bool),gV (o7 L x) l i=[]->Tu L r x num pos V l i was past=[]
 | [],_,_,_,_=>rfl
 | t::l,i,was,past,h=>by
   rw[JP]at h;obtain⟨h1,h2⟩:=List.append_eq_nil_iff.1 h;have h0:¬ 0<dq L t x:=fun q=>by rw[if_pos q]at h1;cases h1
   rw[Ai,if_neg fun q=>h0 q.1];exact Ue l (i+1) was past h2
theorem ofR_none {x:Int} (h:gX L x=[]):Wt L j r x=[]:=by
 unfold Wt;split;·exact Ue _ _ _ _ h
 rfl
theorem zG {L:List aR} {g:Int->List aF} (hg:∀x,gX L x=[]->g x=[]):∀Y:List Int,Y.flatMap g=(Y.filter fun x=>!(gX L x).isEmpty).flatMap g
 | []=>rfl
 | y::Y=>by
   rw[flatMap_cons,zG hg Y,filter_cons];cases h:gX L y with
   | nil=>simp[hg y h]
   | cons a l=>simp
theorem Y0 (hw:Wf L) (he:∀r ∈ L,r.es.length<=60) (hY:Oq L Y) {g:Int->List aF} (hg:∀x,gX L x=[]->g x=[]):(qP (jN L)).flatMap g=Y.flatMap g:=by
 have ho:=objC_ok he;rw[zG hg (qP (jN L)),zG hg Y];congr 1;refine Kv (ho.1.filter _) (hY.up.filter _) fun x=>?_
 simp only[abQ,adt,List.isEmpty_eq_false_iff];constructor
 ·rintro⟨_,h⟩
  exact⟨(hY.mem x).2 (E0 (length_pos_iff.2 h)),h⟩
 rintro⟨_,h⟩;exact⟨(ho.2 x).2 (row_obj hw (fun r hr=>by have:=he r hr;omega) h),h⟩
theorem at_same (hf:MG L) (hw:Wf L) (cr:List XV) (hY:Oq L Y) (hr:L[j]?=some r):sE ((jN L).wr L.length cr) (qP (jN L)) (oi (jN L)) j r=Q8 L Y j r:=by
 have he:∀r ∈ L,r.es.length<=1000:=fun r hr=>by have:=hf.es r hr;omega
 obtain⟨t1,t2⟩:=XK hw he cr r.t;unfold sE Q8;by_cases h:r.kind=5/\(pR L r.t).1.s=1
 ·rw[if_pos ⟨h.1,t1.2 h.2⟩,if_pos h,List.flatMap_map]
  rw[<-Y0 hw hf.es hY fun x hx=>ofR_none hx];congr 1;funext x;exact look_eq hf hw cr hr h.1 x (t2 h.2).1
 rw[if_neg fun q=>h ⟨q.1,t1.1 q.2⟩,if_neg h]
theorem Rf {f g:Nat->aR->List aF} {ask:Int->Bool} {L:List aR} (h:∀j r,L[j]?=some r->f j r=g j r):∀(l:List aR) (i:Nat),L.drop i=l->eP f ask i l=eP g ask i l
 | [],_,_=>rfl
 | r::l,i,e=>by
   have hr:L[i]?=some r:=by
    have:(L.drop i)[0]?=some r:=by rw[e];rfl
    rwa [getElem?_drop]at this
   simp only[eP];rw[h i r hr,Rf h l (i+1) (by rw[<-drop_drop,e];rfl)]
theorem Wg (hf:MG L) (hw:Wf L) (cr:List XV) (hY:Oq L Y) (ask:Int->Bool):eP (sE ((jN L).wr L.length cr) (qP (jN L)) (oi (jN L))) ask 0 L=eP (Q8 L Y) ask 0 L :=
 Rf (fun _ _ hr=>at_same hf hw cr hY hr) L 0 rfl
theorem Wz {L:List aR} {r:aR} {x num pos:Int} {V:Int×Int} (h:0<=num):∀(l:List Int) (i:Nat) (was past:Bool),∀e ∈ Tu L r x num pos V l i was past,0<=e.a/\0<=e.b
 | [],_,_,_,e,he=>by cases he
 | t::l,i,was,past,e,he=>by
   rw[Ai]at he;split at he
   ·rcases abe.1 he with he | he
    ·split at he
     ·cases he
     simp only[aaK,not_mem_nil,or_false]at he;split at he;·rw[he];simp only;omega
     rw[he];simp only;omega
    exact Wz h l (i+1) _ _ e he
   exact Wz h l (i+1) _ _ e he
theorem T_lo (hw:Wf L) (he:∀r ∈ L,r.es.length<=1000) {ask:Int->Bool} {e:aF} (h:e ∈ eP (Q8 L Y) ask 0 L):0<=e.a/\0<=e.b:=by
 obtain⟨j,r,_,hm⟩:=Ry h;unfold Q8 at hm;split at hm
 ·rename_i hs
  obtain⟨x,_,hm⟩:=mem_flatMap.1 hm;unfold Wt at hm;split at hm;·exact Wz ((XK hw he [] r.t).2 hs.2).2 _ _ _ _ e hm
  cases hm
 cases hm
section
open Go.Proofs
theorem f54 (ρ:aK) {ka kb:Nat} {a b:Int} (h1:gG M ka=some (.row [.int .i64 a])) (h2:gG M kb=some (.row [.int .i64 b])) (ha:ka<nx) (hb:kb<nx) (e:aF):ar an ρ 54 [.agg (bi e),.mp ka 0,.mp kb 0] M nx (fe nx M (.bool (!(decide (e.a=a)&&decide (e.b=b))))):=by
 simp only[bi];refine ar.wk 15 [.tmp 4] Tryz.func54 ?_;by_cases h:e.a=a
 ·by_cases h':e.b=b
  ·refine iC Xo h1 h2 h h' @fe.eq_1 ?_
   exact⟨O,aa⟩
  refine iC Xo h1 h2 h h' @fe.eq_1 ?_;exact⟨O,aa⟩
 refine mY Xo h1 h2 h @fe.eq_1 ?_;exact⟨rfl,O,aa⟩
theorem P3 (hS:kL) (hN:kJ) (hI:Ci) (hE:zp) (ρ:aK) (f6:ρ.det=false) {h:Nat} {R:Int->List bO} (H:I7 M nx h S L R Y) (a b:Int)
 (ay:(eP (sE S Y R) (fun _=>true) 0 L).length<=1000):ar an ρ 22 [.mp h 0,.int .i64 a,.int .i64 b] M nx (SubP nx M (eP (sE S Y R) (fun _=>true) 0 L) fun e=>decide (e.a=a)&&decide (e.b=b)):=by
 refine ar.wk 11 [.tmp 6] Tryz.func22 ?_;refine bR lK ?_;generalize xu:aG (aG M nx _) (nx+1) _=M1;have a1:aq nx M M1:=by rw[<-xu];exact O
 have z1:gG M1 nx=some (.row [.int .i64 a]):=by rw[<-xu];exact J
 have z2:gG M1 (nx+1)=some (.row [.int .i64 b]):=by rw[<-xu];exact J
 clear xu;refine gQ (jU hS hN hI hE ρ f6 (H.agr a1 aa) ay) ?_;rintro⟨u,M2,n2⟩ ⟨l,g1,g2,g3,g4,g5,g6⟩;simp only at g3 g4 g5 g6;have hc:=g4.cell;have z1:=(g5 nx aa).trans z1;have z2:=(g5 (nx+1) aa).trans z2;have VF:l.length<=100000:=by rw[g1.length_eq];omega
 refine Ao lK hc.1 hc.2 ?_;refine gQ (f53 ρ (M:=M2) (g4.up (hi':=_) (fun _ _ _=>rfl) ?_) ?_ VF (first:=[]) (caps:=[.mp nx 0,.mp (nx+1) 0]) (fun e=>!(decide (e.a=a)&&decide (e.b=b))) fun e _ M' n' ha hn=>f54 ρ ((ha nx aa).trans z1) ((ha (nx+1) aa).trans z2) aa aa e) ?_;·omega
 ·omega
 rintro⟨u3,M3,n3⟩ ⟨g7,g8,g9⟩;simp only at g7 g8 g9;have hc:=g7.cell;refine Ao lK hc.1 hc.2 ?_;refine⟨l,g1,g2,?_,fun q hq=>(g8 q aa).trans ((g5 q aa).trans (a1 q hq)),am⟩;simp only[Bool.not_not]at g7;exact g7.keep fun q hq=>⟨rfl,am⟩
end
section
open Go.Proofs
theorem W_asc {P:Program} {ρ:aK} {n:Nat} {fs:List Fr} {Q:bg->XS->Prop} {s:XS} {a b c:Code}:W P ρ n (.seq a (.seq b c)) fs Q s=W P ρ n (.seq (.seq a b) c) fs Q s:=by
 show wx P ρ n a (fx (wx P ρ n b (fx (wx P ρ n c (pK P ρ n fs Q)) (pK P ρ n fs Q))) (pK P ρ n fs Q)) s=wx P ρ n a (fx (wx P ρ n b (fx (wx P ρ n c (pK P ρ n fs Q)) (pK P ρ n fs Q))) (fx (wx P ρ n c (pK P ρ n fs Q)) (pK P ρ n fs Q))) s;have:∀f g:XS->Prop,fx f (pK P ρ n fs Q)=fx f (fx g (pK P ρ n fs Q)):=fun f g=>by funext e s;cases e<;>rfl
 rw[<-this]
theorem obj_one {Z:List Int} (h1:Oq L Y) (h2:Oq L Z):Z=Y:=Kv h2.up h1.up fun e=>by rw[h2.mem,h1.mem]
def atT (L:List aR) (Y:List Int) (pos:Int):List aF:=if 0<=pos then vr [] (eP (Q8 L Y) (qw pos) 0 L) else []
def twT (L:List aR) (Y:List Int) (fr to:Int):List aF:=if 0<=fr/\0<=to then (vr [] (eP (Q8 L Y) (qw (-1)) 0 L)).filter (mz 0 fr to) else []
theorem uG (l:List aF):(vr [] l).Perm l/\(vr [] l).Pairwise fun a b=>yu b a=false:=SK l [] .nil
theorem KZ:qw (-1)=fun _=>true:=by funext j;unfold qw;simp
theorem at_neg {f:Nat->aR->List aF} {pos:Int} (h:¬ 0<=pos):∀(L:List aR) (i:Nat),eP f (fun j=>decide (j=pos)) i L=[]
 | [],_=>rfl
 | r::L,i=>by rw[eP,at_neg h L,if_neg ak];rfl
section
variable {L:List aR} {cr:List XV} {Y:List Int}
theorem all_T (hf:MG L) (hw:Wf L) (hY:Oq L Y) {l:List aF} (h1:l.Perm (eP (sE ((jN L).wr L.length cr) (qP (jN L)) (oi (jN L))) (fun _=>true) 0 L)) (h2:l.Pairwise fun a b=>yu b a=false) :
 l=vr [] (eP (Q8 L Y) (qw (-1)) 0 L):=by
 rw[Wg hf hw cr hY,<-KZ]at h1;exact xk (h1.trans (uG _).1.symm) h2 (uG _).2
theorem at_T (hf:MG L) (hw:Wf L) (hY:Oq L Y) {pos:Int} {l:List aF} (h1:l.Perm (eP (sE ((jN L).wr L.length cr) (qP (jN L)) (oi (jN L))) (fun j=>decide (j=pos)) 0 L)) (h2:l.Pairwise fun a b=>yu b a=false) :
 l=atT L Y pos:=by
 unfold atT;by_cases hp:0<=pos
 ·have ha:(fun j=>decide (j=pos))=qw pos:=by funext j;unfold qw;rw[show decide (pos = -1)=false by simp;omega,abu];simp[eq_comm]
  rw[if_pos hp,<-ha];rw[Wg hf hw cr hY]at h1;exact xk (h1.trans (uG _).1.symm) h2 (uG _).2
 rw[at_neg hp]at h1;rw[if_neg hp];exact List.perm_nil.1 h1
theorem tw_T (hw:Wf L) (he:∀r ∈ L,r.es.length<=1000) (fr to:Int):(vr [] (eP (Q8 L Y) (qw (-1)) 0 L)).filter (fun e=>decide (e.a=fr)&&decide (e.b=to))=twT L Y fr to:=by
 unfold twT;by_cases h:0<=fr/\0<=to
 ·rw[if_pos h]
  congr 1;funext e;unfold mz;rw[show decide (fr = -1)=false by simp;omega,show decide (to = -1)=false by simp;omega];simp
 rw[if_neg h,ac4];intro e hm hq;have:=T_lo hw he ((uG _).1.mem_iff.1 hm);simp at hq;omega
end
theorem kd_T {kd:Int} (h:kd≠0):(fun e:aF=>decide (e.k=kd))=mz kd (-1) (-1):=by funext e;unfold mz;simp[h]
theorem f4 (hS:kL) (hN:kJ) (hI:Ci) (hE:zp) (hJ:zW) (ρ:aK) (f6:ρ.det=false) (hL:cP M b v L) (hb:b<=nx) (iu:∀r ∈ L,gI r.p) (YC:∀r ∈ L,vw r.p) (pos fr to:Int) :
 ar an ρ 4 [v,.int .i64 pos,.int .i64 fr,.int .i64 to] M nx fun r=>r.1 = .bool true/\aq nx M r.2.1:=by
 have cF:cellsOf v=[v]/\ax v=true:=by obtain⟨row,cw,_⟩:=hL;exact cw.cell
 refine ar.wk 92 [.tmp 8] Tryz.func4 ?_;refine Ao hX cF.1 cF.2 ?_;refine lG (f7 ρ hL aa aj) fun M1 n1 g2 g3=>?_
 have a1:aq nx M M1:=g2.le aa;cases ip:AM L 60 with
 | false =>
   refine mI hX ip ?_;refine gQ (f8 hS hN hI hE hJ ρ f6 _ _) ?_;rintro⟨u,M2,n2⟩ ⟨g4,g5,g6⟩;simp only at g4 g5 g6;subst g4;refine bR hX ?_;exact a1.trans (g5.le aa)
 | true =>
   have hf:MG L:=by
    unfold AM at ip;rw[aaF,decide_eq_true_eq]at ip;obtain⟨FY,sS⟩:=ip;have h:∀r ∈ L,r.es.length<=60/\dV r.p<=60:=fun r hr=>by rw[aaz aa,aa4]at FY;have:=FY r hr;unfold vE at this;rw[aaF,decide_eq_true_eq,decide_eq_true_eq]at this;exact⟨this.1,Em this.2⟩
    exact⟨aa,fun r hr=>(h r hr).1,fun r hr=>(h r hr).2,iu⟩
   have hLl:=hf.len;refine ti hX ip cF.1 cF.2 ?_;refine gQ (new_pr hS hN ρ f6 (hL.agr (a1.le hb)) aa hf) ?_;rintro⟨u,M2,n2⟩ ⟨hp,a2,h2⟩;simp only at hp a2 h2;have a2:aq nx M M2:=a1.trans (a2.le aa);rcases hp with ⟨hw,n,rl,je,ho⟩ | ⟨hw,h,cr,ho,hpr⟩
   ·subst ho
    refine mI hX je ?_;refine gQ (f8 hS hN hI hE hJ ρ f6 _ _) ?_;rintro⟨u,M3,n3⟩ ⟨g4,g5,g6⟩;simp only at g4 g5 g6;subst g4;refine bR hX ?_;exact a2.trans (g5.le aa)
   subst ho;have he:∀r ∈ L,r.es.length<=1000:=fun r hr=>by have:=hf.es r hr;omega
   have few:=fun ask=>Y_ hf.len cr ask
   refine Ao hX cF.1 cF.2 ?_;refine gQ (oF ρ (hL.agr (a2.le hb)) aa aa fun r hr=>by have:=hf.es r hr;have:=hf.exs r hr;omega) ?_;rintro⟨own,M3,n3⟩ ⟨hO,a3,h3⟩;simp only at a3 h3;unfold KE at hO;simp only at hO;have hO:cP M3 n3 own L:=hO.at fun k hk=>hk.2
   have hco:cellsOf own=[own]/\ax own=true:=by obtain⟨row,cw,_⟩:=hO;exact cw.cell
   have Nq:∀r ∈ L,dV r.p<=1000/\r.es.length<=1000:=fun r hr=>by have:=hf.es r hr;have:=hf.exs r hr;omega
   have hrt:∀r ∈ L,r.kind=5->yw r.p=true:=fun r hr h5=>by obtain⟨j,hj⟩:=acO hr;exact Ul hw hj h5
   have hT:∀(w:Int) Y,Oq L Y->(eP (Q8 L Y) (qw w) 0 L).length<=1000:=fun w Y hY=>by rw[<-Wg hf hw cr hY];have:=few (qw w);omega
   refine Ao hX hco.1 hco.2 ?_;refine gQ (qH ρ hO aa aa Nq hrt YC (-1) (hT _)) ?_;rintro⟨v13,M4,n4⟩ ⟨Y,hY,g4,g5,a4,h4⟩;simp only at g4 g5 a4 h4;have qW:=g5.cell;generalize hB:Fr.sq _=B;refine Ao hX qW.1 qW.2 ?_;subst hB;rw[WF,W_asc,W_asc,W_asc];obtain⟨T,hTd⟩:=aap (vr [] (eP (Q8 L Y) (qw (-1)) 0 L));rw[<-hTd]at g5;have hTl:T.length<=1000:=by rw[hTd,(SK _ [] .nil).1.length_eq,abp];exact hT _ Y hY
   refine yo (fun s=>∃va vb:XV,gG s.env 1=some (.int .i64 pos)/\gG s.env 2=some (.int .i64 fr)/\gG s.env 3=some (.int .i64 to)/\gG s.env 9=some (.mp h 0)/\gG s.env 13=some v13/\gG s.env 14=some va/\gG s.env 15=some vb /\
    bE s.M s.nx va 9 (atT L Y pos).length ((atT L Y pos).flatMap bi)/\bE s.M s.nx vb 9 (twT L Y fr to).length ((twT L Y fr to).flatMap bi)/\aq n4 M4 s.M/\n4<=s.nx) ?_ ?_
   ·have htw0:¬ (0<=fr/\0<=to)->twT L Y fr to=[]:=fun h=>if_neg h
    have htw1:0<=fr/\0<=to->twT L Y fr to=T.filter (mz 0 fr to):=fun h=>by rw[hTd];exact if_pos h
    have V_:bE M4 n4 v13 9 T.length (T.flatMap bi):=g5.at (u7 _);by_cases hp:0<=pos
    ·have qL:atT L Y pos=vr [] (eP (Q8 L Y) (qw pos) 0 L):=if_pos hp
     refine ti hX hp hco.1 hco.2 ?_;refine gQ (qH ρ (hO.agr (a4.le aa)) aa aa Nq hrt YC pos (hT _)) ?_;rintro⟨va,M5,n5⟩ ⟨Y2,hY2,q4,q5,a5,h5⟩;simp only at q4 q5 a5 h5;obtain rfl:=obj_one hY2 hY;rw[<-qL]at q5;have hca:=q5.cell;have Xb:bE M5 n5 va 9 (atT L Y pos).length ((atT L Y pos).flatMap bi):=q5.at (u7 _);have V_:=V_.agr (a5.le aa);by_cases hq:0<=fr/\0<=to
     ·refine gw hX hca.1 hca.2 hq.1 hq.2 qW.1 qW.2 ?_
      refine gQ (sY ρ V_ aa aa 0 fr to (.inl ⟨rfl,aa,aa⟩)) ?_;rintro⟨vb,M6,n6⟩ ⟨q6,q7,a6,h6⟩;simp only at q6 q7 a6 h6;rw[<-htw1 hq]at q7;have hcb:=q7.cell;refine ti hX hcb.1 hcb.2 @bU ?_;exact⟨va,vb,rfl,rfl,Xb.agr (a6.le aa) |>.wk aa,q7.at aa,(a5.le aa).trans (a6.le aa),aa⟩
     rw[htw0 hq];by_cases h_:0<=fr
     ·have hto:¬ 0<=to:=fun h=>hq ⟨h_,h⟩
      refine iQ hX hca.1 hca.2 h_ hto qW.1 qW.2 @bU ?_;exact⟨va,.nils,rfl,rfl,Xb.wk aa,(dG.nil 9 (fun _=>False)).at (fun _ h=>h.elim),a5.le aa,aa⟩
     refine gw hX hca.1 hca.2 h_ qW.1 qW.2 @bU ?_;exact⟨va,.nils,rfl,rfl,Xb.wk aa,(dG.nil 9 (fun _=>False)).at (fun _ h=>h.elim),a5.le aa,aa⟩
    rw[show atT L Y pos=[] from if_neg hp];by_cases hq:0<=fr/\0<=to
    ·refine iC hX hp hq.1 hq.2 qW.1 qW.2 ?_
     refine gQ (sY ρ V_ aa aa 0 fr to (.inl ⟨rfl,aa,aa⟩)) ?_;rintro⟨vb,M6,n6⟩ ⟨q6,q7,a6,h6⟩;simp only at q6 q7 a6 h6;rw[<-htw1 hq]at q7;have hcb:=q7.cell;refine ti hX hcb.1 hcb.2 @bU ?_;exact⟨.nils,vb,rfl,rfl,(dG.nil 9 (fun _=>False)).at (fun _ h=>h.elim),q7.at aa,a6.le aa,aa⟩
    rw[htw0 hq];by_cases h_:0<=fr
    ·have hto:¬ 0<=to:=fun h=>hq ⟨h_,h⟩
     refine gw hX hp h_ hto qW.1 qW.2 @bU ?_;exact⟨.nils,.nils,rfl,rfl,(dG.nil 9 (fun _=>False)).at (fun _ h=>h.elim),(dG.nil 9 (fun _=>False)).at (fun _ h=>h.elim),aq.refl _ _,aa⟩
    refine iC hX hp h_ qW.1 qW.2 @bU ?_;exact⟨.nils,.nils,rfl,rfl,(dG.nil 9 (fun _=>False)).at (fun _ h=>h.elim),(dG.nil 9 (fun _=>False)).at (fun _ h=>h.elim),aq.refl _ _,aa⟩
   rintro⟨env,M5,n5⟩ ⟨va,vb,e1,e2,e3,e9,qI,pu,gW,Xb,hsb,a5,h5⟩;simp only at e1 e2 e3 e9 qI pu gW Xb hsb a5 h5;have V_:bE M5 n5 v13 9 T.length (T.flatMap bi):=((g5.at (u7 _)).agr a5).wk h5;have hca:=Xb.cell;have hcb:=hsb.cell;have a25:aq n2 M2 M5:=(a3.le aa).trans ((a4.le aa).trans (a5.le aa));have hpr:=hpr.agr a25 (nx':=n5) aa;have a05:aq nx M M5:=a2.trans (a25.le aa);have Nq:∀ask,(eP (sE ((jN L).wr L.length cr) (qP (jN L)) (oi (jN L))) ask 0 L).length<=1000:=fun ask=>by have:=few ask;omega
   have mD:∀l,l.Perm (eP (sE ((jN L).wr L.length cr) (qP (jN L)) (oi (jN L))) (fun _=>true) 0 L)->l.Pairwise (fun a b=>yu b a=false)->l=T:=fun l h1 h2=>by rw[hTd];exact all_T hf hw hY h1 h2
   have hatl:(atT L Y pos).length<=1000:=by
    unfold atT;split;·rw[(uG _).1.length_eq];exact hT pos Y hY
    simp
   have htw:T.filter (fun e=>decide (e.a=fr)&&decide (e.b=to))=twT L Y fr to:=by rw[hTd];exact tw_T hw he fr to
   have htwl:(twT L Y fr to).length<=1000:=by rw[<-htw];exact aaT (abh _ _) hTl
   have Gl:∀q:aF->Bool,(T.filter q).length<=1000:=fun q=>aaT (abh _ _) hTl
   clear few hT hO hrt g5 a2 a3 a4 YC a25;refine iQ hX e1 e2 e3 e9 qI pu gW ?_;refine aC (fun m s=>∃i:Nat,i<=2/\m=2 - i/\gG s.env 1=some (.int .i64 pos)/\gG s.env 2=some (.int .i64 fr)/\gG s.env 3=some (.int .i64 to)/\gG s.env 9=some (.mp h 0)/\gG s.env 13=some v13/\gG s.env 14=some va/\gG s.env 15=some vb/\gG s.env 16=some (.int .i64 i)/\aq n5 M5 s.M/\n5<=s.nx) 2 ⟨0,aa,aa,?_⟩ ?_
   ·refine iQ hX e1 e2 e3 e9 qI pu gW ?_
    exact⟨aq.refl _ _,aa⟩
   clear e1 e2 e3 e9 qI pu gW;rintro m ⟨env,N0,k0⟩ ⟨i,hi,hm,e1,e2,e3,e9,qI,pu,gW,pE,b0,j0⟩;simp only at e1 e2 e3 e9 qI pu gW pE b0 j0;by_cases aL:(i:Int)<2
   rotate_left
   ·refine dp hX e1 e2 e3 e9 qI pu gW pE aL ?_
    refine gQ (f8 hS hN hI hE hJ ρ f6 _ _) ?_;rintro⟨u,N1,k1⟩ ⟨q1,q2,q3⟩;simp only at q1 q2 q3;subst q1;refine bR hX ?_;exact a05.trans ((b0.le aa).trans (q2.le aa))
   have bV:=eF i;refine dp hX e1 e2 e3 e9 qI pu gW pE aL ?_;refine gQ (jU hS hN hI hE ρ f6 (hpr.agr b0 aa) (Nq _)) ?_;rintro⟨u1,N1,k1⟩ ⟨l,p1,p2,_,o1,b1,j1⟩;simp only at o1 b1 j1;rw[mD l p1 p2]at o1;have c1:=o1.cell;have b1:aq n5 M5 N1:=b0.trans (b1.le aa);clear p1 p2 b0;refine ii hX c1.1 c1.2 qW.1 qW.2 e1 e2 e3 e9 qI pu (aI gW pE) ?_;refine gQ (yU ρ (dG.rwd o1) (fun k hk=>aa) (q:=fun k=>k<n5) (V_.agr b1) (fun k hk=>⟨aa,aa⟩) aa) ?_;rintro⟨u,N2,k2⟩ ⟨q1,q2,j2⟩;simp only at q1 q2 j2;subst q1;have b2:aq n5 M5 N2:=fun k hk=>(q2 k aa aa).trans (b1 k hk)
   clear q2 b1 o1 c1;refine dw hX e1 e2 e3 e9 qI pu gW pE qW.1 qW.2 ?_;refine gQ (DN hS hN hI hE ρ f6 (hpr.agr b2 aa) (Nq _)) ?_;rintro⟨u3,N3,k3⟩ ⟨l3,p1,p2,o3,b3,j3⟩;simp only at o3 b3 j3;rw[mD l3 p1 p2,kd_T aj]at o3;have c3:=o3.cell;have b3:aq n5 M5 N3:=b2.trans (b3.le aa);clear p1 p2 b2;refine ii hX c3.1 c3.2 qW.1 qW.2 e1 e2 e3 e9 qI pu (aI gW pE) ?_;refine gQ (sY ρ (V_.agr b3) aa aa 4 (-1) (-1) (.inr ⟨aj,rfl,rfl⟩)) ?_;rintro⟨u4,N4,k4⟩ ⟨_,o4,q4,j4⟩;simp only at o4 q4 j4;have o3:=o3.keep (N:=N4) fun k hk=>⟨q4 k aa,hk⟩
   have b4:aq n5 M5 N4:=b3.trans (q4.le aa);have c4:=o4.cell;clear q4 b3;refine mY hX c3.1 c3.2 c4.1 c4.2 ?_;refine gQ (yU ρ o3 (fun k hk=>aa) o4.pp (fun k hk=>⟨aa,aa⟩) (by have:=Gl (mz 4 (-1) (-1));omega)) ?_;rintro⟨u,N5,k5⟩ ⟨q1,q2,j5⟩;simp only at q1 q2 j5;subst q1;have b5:aq n5 M5 N5:=fun k hk=>(q2 k aa aa).trans (b4 k hk)
   clear q2 b4 o3 o4 c3 c4;refine CU hX e1 e2 e3 e9 qI pu gW pE ?_;refine gQ (KB hS hN hI hE ρ f6 (hpr.agr b5 aa) (Nq _)) ?_;rintro⟨u3,N6,k6⟩ ⟨l3,p1,p2,o3,b3,j6⟩;simp only at o3 b3 j6;rw[mD l3 p1 p2,kd_T aj]at o3;have c3:=o3.cell;have b6:aq n5 M5 N6:=b5.trans (b3.le aa);clear p1 p2 b5 b3;refine ii hX c3.1 c3.2 qW.1 qW.2 e1 e2 e3 e9 qI pu (aI gW pE) ?_;refine gQ (sY ρ (V_.agr b6) aa aa 5 (-1) (-1) (.inr ⟨aj,rfl,rfl⟩)) ?_;rintro⟨u4,N7,k7⟩ ⟨_,o4,q4,j7⟩;simp only at o4 q4 j7;have o3:=o3.keep (N:=N7) fun k hk=>⟨q4 k aa,hk⟩
   have b7:aq n5 M5 N7:=b6.trans (q4.le aa);have c4:=o4.cell;clear q4 b6;refine mY hX c3.1 c3.2 c4.1 c4.2 ?_;refine gQ (yU ρ o3 (fun k hk=>aa) o4.pp (fun k hk=>⟨aa,aa⟩) (by have:=Gl (mz 5 (-1) (-1));omega)) ?_;rintro⟨u,N8,k8⟩ ⟨q1,q2,j8⟩;simp only at q1 q2 j8;subst q1;have b8:aq n5 M5 N8:=fun k hk=>(q2 k aa aa).trans (b7 k hk)
   clear q2 b7 o3 o4 c3 c4;refine CU hX e1 e2 e3 e9 qI pu gW pE ?_;refine gQ (mJ hS hN hI hE ρ f6 (hpr.agr b8 aa) pos (Nq _)) ?_;rintro⟨u1,N9,k9⟩ ⟨l,p1,p2,_,o1,b1,j9⟩;simp only at o1 b1 j9;rw[at_T hf hw hY p1 p2]at o1;have c1:=o1.cell;have b9:aq n5 M5 N9:=b8.trans (b1.le aa);clear p1 p2 b8 b1;refine ii hX c1.1 c1.2 hca.1 hca.2 e1 e2 e3 e9 qI pu (aI gW pE) ?_;refine gQ (yU ρ (dG.rwd o1) (fun k hk=>aa) (q:=fun k=>k<n5) (Xb.agr b9) (fun k hk=>⟨aa,aa⟩) aa) ?_;rintro⟨u,Na,ka⟩ ⟨q1,q2,ja⟩;simp only at q1 q2 ja;subst q1;have ba:aq n5 M5 Na:=fun k hk=>(q2 k aa aa).trans (b9 k hk)
   clear q2 b9 o1 c1;refine CU hX e1 e2 e3 e9 qI pu gW pE ?_;refine gQ (P3 hS hN hI hE ρ f6 (hpr.agr ba aa) fr to (Nq _)) ?_;rintro⟨u3,Nb,kb⟩ ⟨l3,p1,p2,o3,b3,jb⟩;simp only at o3 b3 jb;rw[mD l3 p1 p2,htw]at o3;have c3:=o3.cell;have bb:aq n5 M5 Nb:=ba.trans (b3.le aa);clear p1 p2 ba b3;refine ii hX c3.1 c3.2 hcb.1 hcb.2 e1 e2 e3 e9 qI pu (aI gW pE) ?_;refine gQ (yU ρ o3 (fun k hk=>aa) (q:=fun k=>k<n5) (hsb.agr bb) (fun k hk=>⟨aa,aa⟩) aa) ?_;rintro⟨u,Nc,kc⟩ ⟨q1,q2,jc⟩;simp only at q1 q2 jc;subst q1;have bc:aq n5 M5 Nc:=fun k hk=>(q2 k aa aa).trans (bb k hk)
   clear q2 bb o3 c3;refine dp hX e1 e2 e3 e9 qI pu gW pE bV ?_;exact⟨2 - (i+1),aa,i+1,aa,rfl,rfl,bc,aa⟩
end
section
open Go.Proofs Go.RowKit
def JoinC:Prop:=∀(bk o c:Nat) (xs:List ByteArray) (sep:ByteArray) (w:World),(∀(j:Nat) x,xs[j]?=some x->w.cell? ⟨bk,o+j,none⟩=some (.string x))->bk<w.heap.size->xs.length<=140737488355328->xs.length<=c ->
 (Lib.join (xs.map (·.data.toList)) sep.data.toList).length<=140737488355328 ->
 Calls an 58 #[.slice (some ⟨bk,o,none⟩) xs.length c,.string sep] w fun e w'=>e = .returned (.string ⟨(Lib.join (xs.map (·.data.toList)) sep.data.toList).toArray⟩)/\Below w.heap.size w w'
theorem joinOk (h:JoinC):zW:=fun _=>WO Tryz.func58 (mV names _ _ Tryz.func58) U h
end
section
open Go.Proofs Go.RowKit
open Go.ChangeShapes Go.WideShapes Go.ChangeAt
variable {H:Type} {enc:TypeId×Value->H}
theorem predsTells_calls (hC:JoinC) {W:World} {base:Nat} {v v1 v2 v3:Value} {d d1 d2 d3:DataW H} {p p1 p2 p3:List MemPlace} (NP:∃(b:Nat) (us:Array Value) (t:TypeId) (fz:Nat×Nat),W.heap[b]?=some (.cells us t fz))
 (hk:ac5 an W .any base 22 v) (h:adB enc an W 0 (fun _=>true) true 22 v d p)
 (k1:ac5 an W .any base 3 v1) (_:adB enc an W 0 (fun _=>true) true 3 v1 d1 p1)
 (k2:ac5 an W .any base 3 v2) (_:adB enc an W 0 (fun _=>true) true 3 v2 d2 p2)
 (k3:ac5 an W .any base 3 v3) (_:adB enc an W 0 (fun _=>true) true 3 v3 d3 p3) :
 Calls an 4 #[v,v1,v2,v3] W fun e w'=>e = .returned (.bool true)/\Below W.heap.size W w':=by
 obtain⟨a,len,cap,rfl⟩:=okWide_slice Tryz.underlying22 hk;obtain⟨x1,rfl⟩:=okWide_int acM k1;obtain⟨x2,rfl⟩:=okWide_int acM k2;obtain⟨x3,rfl⟩:=okWide_int acM k3;obtain⟨n,h⟩:=h;obtain⟨σ,M,nx,xs,g,_,hv,ht,hl⟩:=SU (ρ:=⟨fun _=>0,fun _=>none,false⟩) Un NP n 22 [.slice a len cap] ⟨_,h⟩ Vh .nil 0 (oS.start _ _ fun _=>rfl) aj;have hl:xs.length=1:=hl.trans U;obtain⟨x,rfl⟩:∃x,xs=[x]:=by
  match xs,hl with
  | [x],_=>exact⟨x,rfl⟩
 obtain⟨L,h1,h2⟩:=recs_ofA ht;refine Fq (vs:=[.slice a len cap,.int .i64 x1,.int .i64 x2,.int .i64 x3]) g (f4 O9 PY Pb sortsE (joinOk hC) _ rfl h1 (u7 _) (fun r hr=>(h2 r hr).1) (fun r hr=>(h2 r hr).2) x1 x2 x3) (fun r h=>h.1) ?_ Tryz.func4 U U;simp only[c_]at hv;obtain⟨u,us,e,hx,_⟩:=hv;cases e;simp only[c_];refine⟨_,_,rfl,hx,?_⟩;simp only[VR];exact⟨_,_,rfl,rfl,_,_,rfl,rfl,_,_,rfl,rfl,rfl⟩
end
end
end Go.Xs
